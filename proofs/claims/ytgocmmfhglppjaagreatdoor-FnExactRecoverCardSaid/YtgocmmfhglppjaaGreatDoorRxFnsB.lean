/- Functions of the program as typed functions, each with its contract, shown by the evaluator's soundness. No condition. -/
import Derived.Test.YtgocmmfhglppjaaGreatDoorRxFnsA
import Derived.Test.YtgocmmfhglppjaaGreatDoorProg
import Derived.KernelRfl
set_option linter.unusedVariables false
set_option linter.unusedSimpArgs false
namespace Go.Proofs.YtgocmmfhglppjaaGreatDoor.Rx
open Go.Proofs
section
open Go.Proofs Go.Shelf Go.RowKit Go.Lib
theorem Hand.infoLink : ∃ i : TypeInfo, Tryz.prog.info? 118 = some i ∧ i.size = 2 ∧ i.bytes = 24 ∧ ∃ z, i.zero = some z ∧ z.cells.size = 2 := by
  have h : (Tryz.prog.info? 118).map (fun i => (i.zero, i.size, i.bytes)) = some (some (.agg #[.string ⟨#[]⟩, .int .i64 0]), 2, 24) := by kernel_rfl
  cases hq : Tryz.prog.info? 118 with
  | none => rw [hq] at h; cases h
  | some i =>
    rw [hq] at h
    simp only [Option.map_some, Option.some.injEq, Prod.mk.injEq] at h
    exact ⟨i, rfl, h.2.1, h.2.2, _, h.1, rfl⟩

theorem Hand.zeroLink : ∃ z : Value, (∀ w, (zeroValue 118).run Tryz.prog w = .ok z w) ∧ z.cells.size = 2 ∧ ∀ n, ∀ v ∈ (Builtin.zeroCells z.cells n).toList, v.oneCell' = true := by
  refine ⟨_, Tryz.zeroValue118, rfl, fun n v hv => ?_⟩
  simp only [Builtin.zeroCells] at hv
  obtain ⟨j, hj, rfl⟩ := List.getElem_of_mem hv
  simp [Value.cells]
  have : j % 2 = 0 ∨ j % 2 = 1 := by omega
  rcases this with h | h <;> rw [h] <;> rfl

end
def cvLink (x : (ByteArray × Int)) : List Value := [.string x.1, .int .i64 x.2]
theorem cvLink_len (x : (ByteArray × Int)) : (cvLink x).length = 2 := rfl
theorem cvLink_rd {w : World} {S : Nat → Prop} (x : (ByteArray × Int)) : RdT w S (.pair .str (.int .i64)) x (cvLink x) := by unfold cvLink; exact ⟨[_], [_], rfl, rfl, rfl⟩
section
open Go.Proofs Go.Shelf Go.RowKit Go.Lib

set_option maxHeartbeats 4000000 in
set_option maxRecDepth 100000 in
theorem Hand.ins_shift_Link (w : World) (b off n c i vb voff vc : Nat) (cur curv : Array Value) (X V : List Value) (hb : w.heap[b]? = some (.cells cur 118 (0, 0))) (hv : w.heap[vb]? = some (.cells curv 118 (0, 0))) (hne : vb ≠ b)
    (hi : i < n) (hroom : n + 1 ≤ c) (hbig : (n + 1) * 24 ≤ 140737488355328) (hfit : off + c * 2 ≤ cur.size) (hfv : voff + vc * 2 ≤ curv.size) (h1c : 1 ≤ vc)
    (hXl : X.length = n * 2) (hX : ∀ (j : Nat) (v : Value), X[j]? = some v → cur[off + j]? = some v) (h1X : ∀ v ∈ X, v.oneCell' = true)
    (hVl : V.length = 2) (hV : ∀ (j : Nat) (v : Value), V[j]? = some v → curv[voff + j]? = some v) (h1V : ∀ v ∈ V, v.oneCell' = true) :
    Calls Tryz.prog 158 #[.slice (some ⟨b, off, none⟩) n c, .int .i64 i, .slice (some ⟨vb, voff, none⟩) 1 vc] w (InsPost 118 2 w (some b) (X.take (i * 2) ++ V ++ X.drop (i * 2)) (n + 1)) := by
  have hz2 : ¬ ((i : Int) = (n : Int)) := by omega
  have hov : ∀ lb cb, (callFunc 159 #[.slice (some ⟨vb, voff, none⟩) 1 vc, .slice (some ⟨b, off + (i + 1) * 2, none⟩) lb cb]).run Tryz.prog w = .ok (.value (.bool false)) w := fun lb cb => by
    rw [run_callFunc_extern Tryz.func159 (by kernel_rfl) (by kernel_rfl) (by kernel_rfl) (e := Extern.SlicesOverlaps.overlaps #[38, 38] #[4]) (by kernel_rfl),
      Lib.run_overlaps_apart w 38 4 118 Tryz.underlying38 2 Tryz.sizeOf118 ⟨vb, voff, none⟩ ⟨b, off + (i + 1) * 2, none⟩ 1 vc lb cb hne 118 118 curv.size cur.size (by simp [World.shape?, hv]) (by simp [World.shape?, hb]) (by omega) (by simp [World.frozen?, hv]) (by simp [World.frozen?, hv])]
    rfl
  have hw1 : IntKind.i64.wrap ((i : Int) + 1) = (i : Int) + 1 := by rw [IntKind.wrap_i64]; omega
  have hw2 : IntKind.i64.wrap ((n : Int) + 1) = (n : Int) + 1 := by rw [IntKind.wrap_i64]; omega
  have hb1 : (0 : Int) ≤ (i : Int) + 1 := by omega
  have hin : i ≤ n := by omega
  have htn : ((i : Int) + 1).toNat = i + 1 := by omega
  have htn2 : ((n : Int) + 1).toNat = n + 1 := by omega
  have hb2 : ¬ (c = i + 1) := by omega
  have hb3 : (i : Int) ≤ (n : Int) + 1 := by omega
  have hb4 : ¬ (c = i) := by omega
  have hb5 : ¬ ((c : Int) < (n : Int) + 1) := by omega
  have hsz : (Tryz.prog.info? 118).map (·.size) = some 2 := by kernel_rfl
  have hdl : (X.drop (i * 2)).length = (n - i) * 2 := by rw [List.length_drop, hXl, Nat.sub_mul]
  obtain ⟨A, hA⟩ : ∃ A : Array Value, A = (cur.toList.take (off + (i + 1) * 2) ++ X.drop (i * 2) ++ cur.toList.drop (off + (i + 1) * 2 + (X.drop (i * 2)).length)).toArray := ⟨_, rfl⟩
  have hcp1 : ∀ ty dc sc, (Builtin.copy_ #[38, 38] ty #[.slice (some ⟨b, off + (i + 1) * 2, none⟩) (n - i) dc, .slice (some ⟨b, off + i * 2, none⟩) (n + 1 - i) sc]).run Tryz.prog w.drew = .ok (goInt ((n - i : Nat) : Int)) (w.drew.setRow b A) := fun ty dc sc => by
    rw [hA]
    exact run_copy_k w.drew 38 38 ty 118 b (off + (i + 1) * 2) (n - i) dc ⟨b, off + i * 2, none⟩ (n + 1 - i) sc cur 118 (X.drop (i * 2)) 2 Tryz.underlying38 hsz hb (n - i) (by simp only [Nat.min_def]; split <;> omega) hdl
      (fun j v hj => by
        rw [List.getElem?_drop] at hj
        show w.cell? _ = _
        rw [Addr.add_lit, cell_of_row w b _ cur 118 (0, 0) hb, show off + i * 2 + j = off + (i * 2 + j) by omega]
        exact hX _ v hj) (by rw [hdl]; omega) (fun v hv => h1X v (List.mem_of_mem_drop hv))
  have hAl : A.toList = cur.toList.take (off + (i + 1) * 2) ++ X.drop (i * 2) ++ cur.toList.drop (off + (i + 1) * 2 + (X.drop (i * 2)).length) := by rw [hA]
  have hAs : A.size = cur.size := by rw [hA]; simp only [List.size_toArray, List.length_append, List.length_take, List.length_drop, Array.length_toList, hXl]; omega
  obtain ⟨B, hB⟩ : ∃ B : Array Value, B = (A.toList.take (off + i * 2) ++ V ++ A.toList.drop (off + i * 2 + V.length)).toArray := ⟨_, rfl⟩
  have hBl : B.toList = A.toList.take (off + i * 2) ++ V ++ A.toList.drop (off + i * 2 + V.length) := by rw [hB]
  have hBs : B.size = A.size := by rw [hB]; simp only [List.size_toArray, List.length_append, List.length_take, List.length_drop, Array.length_toList, hVl]; omega
  have hgA : (w.drew.setRow b A).heap[b]? = some (.cells A 118 (0, 0)) := setRow_heap w.drew b cur A 118 (0, 0) hb
  have hgv : (w.drew.setRow b A).heap[vb]? = some (.cells curv 118 (0, 0)) := (setRow_other w.drew b _ _ hne).trans hv
  have hcp2 : ∀ (W : World), W.heap = (w.drew.setRow b A).heap → ∀ ty dc, (Builtin.copy_ #[38, 38] ty #[.slice (some ⟨b, off + i * 2, none⟩) (n + 1 - i) dc, .slice (some ⟨vb, voff, none⟩) 1 vc]).run Tryz.prog W = .ok (goInt ((1 : Nat) : Int)) (W.setRow b B) := fun W hW ty dc => by
    rw [hB]
    exact run_copy_k W 38 38 ty 118 b (off + i * 2) (n + 1 - i) dc ⟨vb, voff, none⟩ 1 vc A 118 V 2 Tryz.underlying38 hsz (by rw [hW]; exact hgA) 1 (by simp only [Nat.min_def]; split <;> omega) hVl
      (fun j v hj => by
        rw [Addr.add_lit, cell_of_row W vb _ curv 118 (0, 0) (by rw [hW]; exact hgv)]
        exact hV _ v hj) (by rw [hVl, hAs]; omega) h1V
  have hfin : ∀ (j : Nat) (v : Value), (X.take (i * 2) ++ V ++ X.drop (i * 2))[j]? = some v → B[off + j]? = some v := by
    intro j v hj
    rw [← Array.getElem?_toList, hBl, laid_get A.toList V (off + i * 2) (off + j) (by simp; omega), hVl]
    have hXt : (X.take (i * 2)).length = i * 2 := by rw [List.length_take, hXl]; omega
    by_cases c1 : j < i * 2
    · rw [if_pos (by omega), hAl, laid_get cur.toList (X.drop (i * 2)) (off + (i + 1) * 2) (off + j) (by rw [hdl]; simp; omega), if_pos (by omega)]
      rw [List.append_assoc, List.getElem?_append_left (by omega), List.getElem?_take, if_pos c1] at hj
      simpa using hX j v hj
    · rw [if_neg (by omega)]
      rw [List.append_assoc, List.getElem?_append_right (by omega), hXt] at hj
      by_cases c2 : j < i * 2 + 2
      · rw [if_pos (by omega)]
        rw [List.getElem?_append_left (by omega)] at hj
        rw [show off + j - (off + i * 2) = j - i * 2 by omega]; exact hj
      · rw [if_neg (by omega), hAl, laid_get cur.toList (X.drop (i * 2)) (off + (i + 1) * 2) (off + j) (by rw [hdl]; simp; omega), if_neg (by omega)]
        rw [List.getElem?_append_right (by omega), hVl] at hj
        have hlt := (List.getElem?_eq_some_iff.1 hj).1
        rw [if_pos (by omega), show off + j - (off + (i + 1) * 2) = j - i * 2 - 2 by omega]; exact hj
  have F : Aside ((w.drew.setRow b A).heap[b]? = some (.cells A 118 (0, 0)) ∧ off + c * 2 ≤ B.size ∧ ∀ (j : Nat) (v : Value), (X.take (i * 2) ++ V ++ X.drop (i * 2))[j]? = some v → B[off + j]? = some v) := ⟨hgA, by omega, hfin⟩
  clear hA hB hAl hBl hAs hBs hfin hgA hgv hX hV hdl hb hv
  have mixed : Tryz.prog.follows .mixedOrders = true := by kernel_rfl
  go_enter Tryz.func158, Tryz.ntmps158
  go_wp2_with (simp only [hov])
  go_region_law_o (refine step_copy_runI rfl _ _ 38 38 rfl _ _ (by simp [Act.eval, Act.put]) (by simp [Act.eval, Act.put]) (hcp1 _ _ _) ?_)
  go_wp2_with (at_builtin; refine wpList_copy_runI _ rfl _ _ 38 38 rfl _ _ rfl rfl (hcp2 _ rfl _ _) ?_)
  go_ret
  refine ⟨b, off, c, B, rfl, hroom, setRow_heap _ b A B 118 (0, 0) F.out.1, F.out.2.1, by simpa [List.append_assoc] using F.out.2.2, ⟨rfl, rfl, rfl, rfl, by simp [size_setRow], fun k hk hm => ?_⟩, .inl rfl⟩
  rw [setRow_other _ b _ _ (fun e => hm (by rw [e])), setRow_other _ b _ _ (fun e => hm (by rw [e]))]
  rfl

set_option maxHeartbeats 4000000 in
set_option maxRecDepth 100000 in
/-- at the end -/
theorem Hand.ins_end_Link (w : World) (b : Option Addr) (n c vb voff vc : Nat) (curv : Array Value) (X V : List Value) (hb : ∀ ad, b = some ad → ad.spot = none ∧ ∃ cur, w.heap[ad.block]? = some (.cells cur 118 (0, 0)) ∧ ad.off + c * 2 ≤ cur.size ∧ ∀ (j : Nat) (v : Value), X[j]? = some v → cur[ad.off + j]? = some v)
    (hnil : b = none → n = 0 ∧ c = 0) (hv : w.heap[vb]? = some (.cells curv 118 (0, 0))) (hnc : n ≤ c) (hbig : (n + 1) * 24 ≤ 140737488355328) (hfv : voff + vc * 2 ≤ curv.size) (h1c : 1 ≤ vc)
    (hXl : X.length = n * 2) (h1X : ∀ v ∈ X, v.oneCell' = true)
    (hVl : V.length = 2) (hV : ∀ (j : Nat) (v : Value), V[j]? = some v → curv[voff + j]? = some v) (h1V : ∀ v ∈ V, v.oneCell' = true) :
    Calls Tryz.prog 158 #[.slice b n c, .int .i64 n, .slice (some ⟨vb, voff, none⟩) 1 vc] w (InsPost 118 2 w (b.map (·.block)) (X ++ V) (n + 1)) := by
  obtain ⟨i0, hi0, hz0, hbt, z, hz, hzs⟩ := Hand.infoLink
  have hVc : ∀ j u, V[j]? = some u → w.cell? ((⟨vb, voff, none⟩ : Addr).add j) = some u := fun j u hj => by
    rw [Addr.add_lit, cell_of_row w vb _ curv 118 (0, 0) hv]; exact hV j u hj
  -- what the append does
  obtain ⟨val, w1, hrun, hpost⟩ : ∃ val w1, (∀ ty, (Builtin.append_ #[38, 38] ty #[.slice b n c, .slice (some ⟨vb, voff, none⟩) 1 vc]).run Tryz.prog w = .ok val w1) ∧ InsPost 118 2 w (b.map (·.block)) (X ++ V) (n + 1) (.returned val) w1 := by
    cases b with
    | none =>
      obtain ⟨rfl, rfl⟩ := hnil rfl
      obtain rfl : X = [] := List.eq_nil_of_length_eq_zero (by simpa using hXl)
      refine ⟨_, _, fun ty => run_append_nil w 38 ty 118 i0 z Tryz.underlying38 hi0 hz ⟨vb, voff, none⟩ 1 vc V (by rw [hVl, hz0]) hVc (by omega) (by omega) (by rw [hbt]; omega), ?_⟩
      refine InsPost.new (pad := (Builtin.zeroCells z.cells (grownCap w 1 0 118 - 1)).toList) (by congr 2; apply Array.toList_inj.1; simp) (grownCap_ge w 1 0 118) ?_
      have hge := grownCap_ge w 1 0 118
      simp only [List.nil_append, hVl, Array.length_toList, size_zeroCells, hzs]
      omega
    | some ad =>
      obtain ⟨hsp, cur, hcur, hfit, hX⟩ := hb ad rfl
      obtain ⟨ab, ao, asp⟩ := ad
      simp only at hsp hcur hfit hX
      subst hsp
      by_cases hroom : n + 1 ≤ c
      · refine ⟨_, _, fun ty => run_append_room' w 38 ty 118 i0 Tryz.underlying38 hi0 ab ao n c cur hcur ⟨vb, voff, none⟩ 1 vc V (by rw [hVl, hz0]) hVc h1V hroom (by rw [hz0, hVl]; omega), ?_⟩
        rw [hz0]
        refine ⟨ab, ao, c, _, rfl, hroom, setRow_heap w ab cur _ 118 (0, 0) hcur, ?_, fun j v hj => ?_, ⟨rfl, rfl, rfl, rfl, by simp [size_setRow], fun k hk hm => setRow_other w ab k _ (fun e => hm (by simp [e]))⟩, .inl rfl⟩
        · simp only [List.size_toArray, List.length_append, List.length_take, List.length_drop, Array.length_toList, hVl]; omega
        · simp only [List.getElem?_toArray]
          rw [laid_get cur.toList V (ao + n * 2) (ao + j) (by simp [hVl]; omega), hVl]
          by_cases c1 : j < n * 2
          · rw [if_pos (by omega)]
            rw [List.getElem?_append_left (by omega)] at hj
            simpa using hX j v hj
          · rw [if_neg (by omega)]
            rw [List.getElem?_append_right (by omega), hXl] at hj
            have hlt := (List.getElem?_eq_some_iff.1 hj).1
            rw [if_pos (by omega), show ao + j - (ao + n * 2) = j - n * 2 by omega]; exact hj
      · refine ⟨_, _, fun ty => run_append_grow w 38 ty 118 i0 z Tryz.underlying38 hi0 hz ⟨ab, ao, none⟩ n c X (by rw [hXl, hz0]) (fun j u hj => by rw [Addr.add_lit, cell_of_row w ab _ cur 118 (0, 0) hcur]; exact hX j u hj) ⟨vb, voff, none⟩ 1 vc V (by rw [hVl, hz0]) hVc (by omega) (by omega) (by rw [hbt]; exact growslice_fits (by omega) hbig), ?_⟩
        have hge := grownCap_ge w (n + 1) c 118
        refine InsPost.new (pad := (Builtin.zeroCells z.cells (grownCap w (n + 1) c 118 - (n + 1))).toList) (by congr 2; apply Array.toList_inj.1; simp) hge ?_
        simp only [List.length_append, hXl, hVl, Array.length_toList, size_zeroCells, hzs]
        omega
  have P := hpost
  clear hpost hb hVc hV h1X h1V
  have F : Aside (InsPost 118 2 w (b.map (·.block)) (X ++ V) (n + 1) (.returned val) w1) := P
  clear P
  have mixed : Tryz.prog.follows .mixedOrders = true := by kernel_rfl
  go_enter Tryz.func158, Tryz.ntmps158
  cases b with
  | none =>
    obtain ⟨rfl, rfl⟩ := hnil rfl
    go_wp2_with (at_builtin; refine Lib.wpList_append_run _ rfl _ _ _ _ rfl _ _ rfl rfl _ _ (hrun _) ?_)
    go_ret
    exact F.out
  | some a =>
    obtain ⟨ab, ao, asp⟩ := a
    go_wp2_with (at_builtin; refine Lib.wpList_append_run _ rfl _ _ _ _ rfl _ _ rfl rfl _ _ (hrun _) ?_)
    all_goals (go_ret; exact F.out)

set_option maxHeartbeats 4000000 in
set_option maxRecDepth 100000 in
/-- in the middle, without room -/
theorem Hand.ins_grow_Link (w : World) (b off n c i vb voff vc : Nat) (cur curv : Array Value) (X V : List Value) (hb : w.heap[b]? = some (.cells cur 118 (0, 0))) (hv : w.heap[vb]? = some (.cells curv 118 (0, 0)))
    (hi : i < n) (hnc : n ≤ c) (hroom : c < n + 1) (hbig : (n + 1) * 24 ≤ 140737488355328) (hfit : off + c * 2 ≤ cur.size) (hfv : voff + vc * 2 ≤ curv.size) (h1c : 1 ≤ vc)
    (hXl : X.length = n * 2) (hX : ∀ (j : Nat) (v : Value), X[j]? = some v → cur[off + j]? = some v) (h1X : ∀ v ∈ X, v.oneCell' = true)
    (hVl : V.length = 2) (hV : ∀ (j : Nat) (v : Value), V[j]? = some v → curv[voff + j]? = some v) (h1V : ∀ v ∈ V, v.oneCell' = true) :
    Calls Tryz.prog 158 #[.slice (some ⟨b, off, none⟩) n c, .int .i64 i, .slice (some ⟨vb, voff, none⟩) 1 vc] w (InsPost 118 2 w (some b) (X.take (i * 2) ++ V ++ X.drop (i * 2)) (n + 1)) := by
  obtain ⟨i0, hi0, hz0, hbt, z, hz, hzs⟩ := Hand.infoLink
  have hz2 : ¬ ((i : Int) = (n : Int)) := by omega
  have hz3 : (c : Int) < (n : Int) + 1 := by omega
  have hsz : (Tryz.prog.info? 118).map (·.size) = some 2 := by kernel_rfl
  have hbw : b < w.heap.size := (Array.getElem?_eq_some_iff.1 hb).1
  have hvw : vb < w.heap.size := (Array.getElem?_eq_some_iff.1 hv).1
  have hkk : (n : Int) + 1 - (i : Int) = ((n + 1 - i : Nat) : Int) := by omega
  have hik : i + (n + 1 - i) = n + 1 := by omega
  have hXt : (X.take (i * 2)).length = i * 2 := by rw [List.length_take, hXl]; omega
  have hold : (Builtin.firstCells i0.size i (.slice (some ⟨b, off, none⟩) i c)).run Tryz.prog w.drew = .ok (X.take (i * 2)).toArray w.drew := by
    rw [hz0]
    exact run_firstCells_some w.drew 2 i ⟨b, off, none⟩ i c (X.take (i * 2)) hXt (fun j v hj => by
      rw [List.getElem?_take] at hj
      split at hj
      · show w.cell? _ = _
        rw [Addr.add_lit, cell_of_row w b _ cur 118 (0, 0) hb]; exact hX j v hj
      · cases hj)
  obtain ⟨G, hG⟩ : ∃ G, G = grownCap w (n + 1) c 118 := ⟨_, rfl⟩
  obtain ⟨ROW, hROW⟩ : ∃ ROW : Array Value, ROW = (X.take (i * 2)).toArray ++ Builtin.zeroCells z.cells (n + 1 - i) ++ Builtin.zeroCells z.cells (G - (n + 1)) := ⟨_, rfl⟩
  have hGn : n + 1 ≤ G := by rw [hG]; exact grownCap_ge w _ _ _
  have hG63 : G ≤ 9223372036854775807 := by
    have := grownCap_le_maxLen w (n + 1) c 118 (by unfold maxLen; omega)
    rw [← hG] at this
    unfold maxLen at this
    omega
  have hRs : ROW.size = G * 2 := by
    rw [hROW]; simp only [Array.size_append, size_zeroCells, hzs, List.size_toArray, hXt]; omega
  have hrz : ∀ ty, (Builtin.append_ #[38, 3] ty #[.slice (some ⟨b, off, none⟩) i c, .int .i64 ((n : Int) + 1 - (i : Int))]).run Tryz.prog w =
      .ok (.slice (some ⟨w.heap.size, 0, none⟩) (n + 1) G) (w.drew.alloc (.cells ROW 118)) := fun ty => by
    have h := Lib.run_append_grow_zeros w 38 3 ty 118 i0 z .i64 .i64 Tryz.underlying38 Tryz.underlying3 hi0 hz (some ⟨b, off, none⟩) i c (X.take (i * 2)) hold (n + 1 - i) (by omega) (by omega) (by omega) (by omega) (by rw [hbt]; omega) (by rw [hbt, hik]; exact growslice_fits hroom hbig)
    rw [hik] at h
    rw [hkk, hROW, hG]
    exact h
  have hgR : (w.drew.alloc (.cells ROW 118)).heap[w.heap.size]? = some (.cells ROW 118 (0, 0)) := by show (w.heap.push _)[w.heap.size]? = _; simp
  have hgo : ∀ k, k < w.heap.size → (w.drew.alloc (.cells ROW 118)).heap[k]? = w.heap[k]? := fun k hk => by
    show (w.heap.push _)[k]? = _
    simp [Array.getElem?_push, Nat.ne_of_lt hk]
  obtain ⟨A, hA⟩ : ∃ A : Array Value, A = (ROW.toList.take (i * 2) ++ V ++ ROW.toList.drop (i * 2 + V.length)).toArray := ⟨_, rfl⟩
  have hAl : A.toList = ROW.toList.take (i * 2) ++ V ++ ROW.toList.drop (i * 2 + V.length) := by rw [hA]
  have hAs : A.size = ROW.size := by rw [hA]; simp only [List.size_toArray, List.length_append, List.length_take, List.length_drop, Array.length_toList, hVl]; omega
  have hcpA : ∀ (W : World), W.heap = (w.drew.alloc (.cells ROW 118)).heap → ∀ ty dc, (Builtin.copy_ #[38, 38] ty #[.slice (some ⟨w.heap.size, i * 2, none⟩) (n + 1 - i) dc, .slice (some ⟨vb, voff, none⟩) 1 vc]).run Tryz.prog W = .ok (goInt ((1 : Nat) : Int)) (W.setRow w.heap.size A) := fun W hW ty dc => by
    rw [hA]
    exact run_copy_k W 38 38 ty 118 w.heap.size (i * 2) (n + 1 - i) dc ⟨vb, voff, none⟩ 1 vc ROW 118 V 2 Tryz.underlying38 hsz (by rw [hW]; exact hgR) 1 (by simp only [Nat.min_def]; split <;> omega) hVl
      (fun j v hj => by
        rw [Addr.add_lit, cell_of_row W vb _ curv 118 (0, 0) (by rw [hW, hgo vb hvw]; exact hv)]
        exact hV _ v hj) (by rw [hVl, hRs]; omega) h1V
  have hgA : ((w.drew.alloc (.cells ROW 118)).setRow w.heap.size A).heap[w.heap.size]? = some (.cells A 118 (0, 0)) := setRow_heap _ _ ROW A 118 (0, 0) hgR
  have hgAo : ∀ k, k < w.heap.size → ((w.drew.alloc (.cells ROW 118)).setRow w.heap.size A).heap[k]? = w.heap[k]? := fun k hk => (setRow_other _ _ _ _ (Nat.ne_of_lt hk)).trans (hgo k hk)
  have hdl : (X.drop (i * 2)).length = (n - i) * 2 := by rw [List.length_drop, hXl, Nat.sub_mul]
  obtain ⟨B, hB⟩ : ∃ B : Array Value, B = (A.toList.take ((i + 1) * 2) ++ X.drop (i * 2) ++ A.toList.drop ((i + 1) * 2 + (X.drop (i * 2)).length)).toArray := ⟨_, rfl⟩
  have hBl : B.toList = A.toList.take ((i + 1) * 2) ++ X.drop (i * 2) ++ A.toList.drop ((i + 1) * 2 + (X.drop (i * 2)).length) := by rw [hB]
  have hBs : B.size = A.size := by rw [hB]; simp only [List.size_toArray, List.length_append, List.length_take, List.length_drop, Array.length_toList, hXl]; omega
  have hcpB : ∀ (W : World), W.heap = ((w.drew.alloc (.cells ROW 118)).setRow w.heap.size A).heap → ∀ ty dc sc, (Builtin.copy_ #[38, 38] ty #[.slice (some ⟨w.heap.size, (i + 1) * 2, none⟩) (n - i) dc, .slice (some ⟨b, off + i * 2, none⟩) (n - i) sc]).run Tryz.prog W = .ok (goInt ((n - i : Nat) : Int)) (W.setRow w.heap.size B) := fun W hW ty dc sc => by
    rw [hB]
    exact run_copy_k W 38 38 ty 118 w.heap.size ((i + 1) * 2) (n - i) dc ⟨b, off + i * 2, none⟩ (n - i) sc A 118 (X.drop (i * 2)) 2 Tryz.underlying38 hsz (by rw [hW]; exact hgA) (n - i) (by simp only [Nat.min_def]; split <;> omega) hdl
      (fun j v hj => by
        rw [List.getElem?_drop] at hj
        rw [Addr.add_lit, cell_of_row W b _ cur 118 (0, 0) (by rw [hW, hgAo b hbw]; exact hb), show off + i * 2 + j = off + (i * 2 + j) by omega]
        exact hX _ v hj) (by rw [hdl, hAs, hRs]; omega) (fun v hv => h1X v (List.mem_of_mem_drop hv))
  have hfin : ∀ (j : Nat) (v : Value), (X.take (i * 2) ++ V ++ X.drop (i * 2))[j]? = some v → B[0 + j]? = some v := by
    intro j v hj
    have hAsz : A.toList.length = G * 2 := by rw [Array.length_toList, hAs, hRs]
    have hRsz : ROW.toList.length = G * 2 := by rw [Array.length_toList, hRs]
    rw [Nat.zero_add, ← Array.getElem?_toList, hBl, laid_get A.toList (X.drop (i * 2)) ((i + 1) * 2) j (by rw [hdl]; omega), hdl]
    by_cases c1 : j < i * 2
    · rw [if_pos (by omega), hAl, laid_get ROW.toList V (i * 2) j (by omega), if_pos (by omega)]
      rw [List.append_assoc, List.getElem?_append_left (by omega)] at hj
      rw [Array.getElem?_toList, hROW, Array.append_assoc, Array.getElem?_append_left (by simp [hXt]; omega)]
      simpa using hj
    · rw [List.append_assoc, List.getElem?_append_right (by omega), hXt] at hj
      by_cases c2 : j < i * 2 + 2
      · rw [if_pos (by omega), hAl, laid_get ROW.toList V (i * 2) j (by omega), if_neg (by omega), if_pos (by omega)]
        rw [List.getElem?_append_left (by omega)] at hj
        exact hj
      · rw [List.getElem?_append_right (by omega), hVl] at hj
        have hlt := (List.getElem?_eq_some_iff.1 hj).1
        rw [if_neg (by omega), if_pos (by omega), show j - (i + 1) * 2 = j - i * 2 - 2 by omega]; exact hj
  have F : Aside (((w.drew.alloc (.cells ROW 118)).setRow w.heap.size A).heap[w.heap.size]? = some (.cells A 118 (0, 0)) ∧ 0 + G * 2 ≤ B.size ∧ (∀ (j : Nat) (v : Value), (X.take (i * 2) ++ V ++ X.drop (i * 2))[j]? = some v → B[0 + j]? = some v) ∧ ∀ k, k < w.heap.size → ((w.drew.alloc (.cells ROW 118)).setRow w.heap.size A).heap[k]? = w.heap[k]?) := ⟨hgA, by omega, hfin, hgAo⟩
  have hGi : ¬ (G = i) := by omega
  have hGim : ¬ (G = i + 1) := by omega
  have hci : ¬ (c = i) := by omega
  have hw1 : IntKind.i64.wrap ((i : Int) + 1) = (i : Int) + 1 := by rw [IntKind.wrap_i64]; omega
  have hw2 : IntKind.i64.wrap ((n : Int) + 1) = (n : Int) + 1 := by rw [IntKind.wrap_i64]; omega
  have hw3 : IntKind.i64.wrap ((n : Int) + 1 - (i : Int)) = (n : Int) + 1 - (i : Int) := by rw [IntKind.wrap_i64]; omega
  have hb1 : (0 : Int) ≤ (i : Int) + 1 := by omega
  have hin : i ≤ n := by omega
  have htn : ((i : Int) + 1).toNat = i + 1 := by omega
  have hb3 : (i : Int) ≤ (n : Int) := by omega
  clear hkk hik hold hROW hG hRs hgR hgo hA hAl hAs hgA hgAo hB hBl hBs hfin hdl hX hV hb hv
  have hcpA' : ∀ ty dc, (Builtin.copy_ #[38, 38] ty #[.slice (some ⟨w.heap.size, i * 2, none⟩) (n + 1 - i) dc, .slice (some ⟨vb, voff, none⟩) 1 vc]).run Tryz.prog ((w.alloc (.cells ROW 118)).drew) = .ok (goInt ((1 : Nat) : Int)) (((w.alloc (.cells ROW 118)).drew).setRow w.heap.size A) := fun ty dc => hcpA _ rfl ty dc
  clear hcpA
  have mixed : Tryz.prog.follows .mixedOrders = true := by kernel_rfl
  go_enter Tryz.func158, Tryz.ntmps158
  go_wp2_with (at_builtin; refine Lib.wpList_append_run _ rfl _ _ _ _ rfl _ _ rfl rfl _ _ (hrz _) ?_)
  go_region_law_o (refine step_copy_runI rfl _ _ 38 38 rfl (.slice (some ⟨w.heap.size, (i + 1) * 2, none⟩) (n - i) (G - (i + 1))) (.slice (some ⟨b, off + i * 2, none⟩) (n - i) (c - i)) (by simp [Act.eval, Act.put]) (by simp [Act.eval, Act.put]) (hcpB _ (by rfl) 3 (G - (i + 1)) (c - i)) ?_)
  go_wp2
  go_ret
  refine ⟨w.heap.size, 0, G, B, rfl, hGn, setRow_heap _ _ A B 118 (0, 0) F.out.1, F.out.2.1, by simpa [List.append_assoc] using F.out.2.2.1, ⟨rfl, rfl, rfl, rfl, ?_, fun k hk hm => ?_⟩, .inr (Nat.le_refl _)⟩
  · rw [size_setRow]
    show w.heap.size ≤ (((w.alloc (.cells ROW 118)).drew.setRow w.heap.size A)).heap.size
    rw [size_setRow]
    show w.heap.size ≤ (w.heap.push _).size
    simp
  · rw [setRow_other _ _ _ _ (Nat.ne_of_lt hk)]
    exact F.out.2.2.2 k hk
end


def slices_Insert_Link.f (k : Nat) (a0 : List (ByteArray × Int)) (a1 : Int) (a2 : List (ByteArray × Int)) : Option (List (ByteArray × Int)) := insF 24 a0 a1 a2
def slices_Insert_Link.sig : Sig := ⟨[.give false (.sl 118 (.pair .str (.int .i64))), .val false (.int .i64), .give false (.sl 118 (.pair .str (.int .i64)))], [⟨false, (.sl 118 (.pair .str (.int .i64))), true⟩]⟩
def slices_Insert_Link.fn : Fn := ⟨slices_Insert_Link.sig, fun k (x : List (ByteArray × Int) × Int × List (ByteArray × Int)) => slices_Insert_Link.f k x.1 x.2.1 x.2.2⟩

theorem slices_Insert_Link.ok (k : Nat) : FnOk Tryz.prog k 158 slices_Insert_Link.fn := by
  refine ⟨body_there Tryz.func158 (by kernel_rfl) (by kernel_rfl), ?_⟩
  intro w S vs vss rows (x : List ((.pair .str (.int .i64)) : CK).T × Int × List ((.pair .str (.int .i64)) : CK).T) (r : List ((.pair .str (.int .i64)) : CK).T) hsem hargs hparts hS hbn hbn2 hbS hnd hrows hgl
  obtain ⟨xs, i, ys⟩ := x
  change slices_Insert_Link.f k xs i ys = some r at hsem
  unfold slices_Insert_Link.f insF at hsem
  split at hsem
  case isFalse => cases hsem
  rename_i hc
  obtain ⟨hy1, hi0, hin, hbig⟩ : ys.length = 1 ∧ 0 ≤ i ∧ i ≤ xs.length ∧ (xs.length + 1) * 24 ≤ 140737488355328 := hc
  have hsem : xs.take i.toNat ++ ys ++ xs.drop i.toNat = r := Option.some.inj hsem
  obtain ⟨n, rfl⟩ : ∃ n : Nat, i = n := ⟨i.toNat, by omega⟩
  have hsem : xs.take n ++ ys ++ xs.drop n = r := hsem
  have hin : n ≤ xs.length := by exact_mod_cast hin
  have hal := hargs.length
  obtain ⟨v0, v1, v2, rfl⟩ := list3 hal.1
  obtain ⟨l0, l1, l2, rfl⟩ := list3 hal.2
  · obtain ⟨ha0, ha1, ha2, _⟩ := hargs
    simp only [Bool.false_eq_true, if_false] at ha0 ha1 ha2
    subst ha0; subst ha1; subst ha2
    obtain ⟨q0, qs, r1, r2, he, rfl, hp0, hp⟩ := hparts
    simp only [List.cons.injEq] at he
    obtain ⟨rfl, rfl⟩ := he
    obtain ⟨q1, qs, r3, r4, he, rfl, hp1, hp2⟩ := hp
    simp only [List.cons.injEq] at he
    obtain ⟨rfl, rfl⟩ := he
    obtain ⟨q2, he, hp2⟩ := hp2
    simp only [List.cons.injEq, and_true] at he
    subst he
    have hp0 : OwnT w S (.sl 118 (.pair .str (.int .i64))) xs [v0] r1 := hp0
    have hp2 : OwnT w S (.sl 118 (.pair .str (.int .i64))) ys [v2] r4 := hp2
    obtain ⟨hp1, rfl⟩ : RdT w S (.int .i64) (n : Int) [v1] ∧ r3 = [] := hp1
    have hv1 : v1 = .int .i64 n := by simpa [RdT] using hp1
    subst hv1
    obtain ⟨a, cap, X, hl, rfl, hcap, hnil, hXl, hX, hblk⟩ := own_cells hp0 (by decide)
    simp only [List.cons.injEq, and_true] at hl
    subst hl
    obtain ⟨a2, cap2, V, hl, rfl, hcap2, hnil2, hVl, hV, hblk2⟩ := own_cells hp2 (by decide)
    simp only [List.cons.injEq, and_true] at hl
    subst hl
    rw [hy1] at hcap2 hVl
    cases a2 with
    | none => obtain ⟨rfl, _⟩ := hnil2 rfl; simp at hy1
    | some ad2 =>
      obtain ⟨vb, voff, vsp⟩ := ad2
      obtain ⟨hsp2, curv, hcurv, hfit2, hVc⟩ := hblk2 _ rfl
      simp only at hsp2 hcurv hfit2 hVc
      subst hsp2
      rw [hy1]
      have h1X := hX.one (by decide : 0 < ((.pair .str (.int .i64)) : CK).size) (by decide)
      have h1V := hV.one (by decide : 0 < ((.pair .str (.int .i64)) : CK).size) (by decide)
      have key : Calls Tryz.prog 158 #[.slice a xs.length cap, .int .i64 n, .slice (some ⟨vb, voff, none⟩) 1 cap2] w (InsPost 118 2 w (a.map (·.block)) (X.take (n * 2) ++ V ++ X.drop (n * 2)) (xs.length + 1)) := by
        by_cases hend : n = xs.length
        · subst hend
          have hXl' : X.length = xs.length * 2 := hXl
          rw [← hXl', List.take_length, List.drop_length, List.append_nil]
          exact Hand.ins_end_Link w a xs.length cap vb voff cap2 curv X V hblk (fun h => by obtain ⟨rfl, h⟩ := hnil h; exact ⟨rfl, h⟩) hcurv hcap hbig hfit2 (by omega) hXl h1X hVl hVc h1V
        · cases a with
          | none => obtain ⟨rfl, _⟩ := hnil rfl; simp at hin hend; omega
          | some ad =>
            obtain ⟨ab, ao, asp⟩ := ad
            obtain ⟨hsp, cur, hcur, hfit, hXc⟩ := hblk _ rfl
            simp only at hsp hcur hfit hXc
            subst hsp
            have hne : vb ≠ ab := by
              simp only [Blks, Option.map_some, List.cons_append, List.nil_append, List.filterMap_cons, List.filterMap_nil, List.nodup_cons, List.mem_singleton] at hnd
              exact fun h => hnd.1 h.symm
            by_cases hroom : xs.length + 1 ≤ cap
            · exact Hand.ins_shift_Link w ab ao xs.length cap n vb voff cap2 cur curv X V hcur hcurv hne (by omega) hroom hbig hfit hfit2 (by omega) hXl hXc h1X hVl hVc h1V
            · exact Hand.ins_grow_Link w ab ao xs.length cap n vb voff cap2 cur curv X V hcur hcurv (by omega) hcap (by omega) hbig hfit hfit2 (by omega) hXl hXc h1X hVl hVc h1V
      refine key.mono ?_
      intro en w' hpost
      have hflat : FlatR (RdT w S (.pair .str (.int .i64))) ((.pair .str (.int .i64)) : CK).size r (X.take (n * 2) ++ V ++ X.drop (n * 2)) := by
        rw [← hsem]
        exact ((hX.take n).append hV).append (hX.drop n hin)
      have hrl : xs.length + 1 = r.length := by
        rw [← hsem, List.length_append, List.length_append, List.length_take, List.length_drop, hy1]; omega
      obtain ⟨rv, rows', h1, h2, h3, h4, h5, h6⟩ := ins_back (e := 118) (c := (.pair .str (.int .i64))) (rows := [(a.map (·.block), .slice a xs.length cap)] ++ ([] ++ [((some (⟨vb, voff, none⟩ : Addr)).map (·.block), .slice (some ⟨vb, voff, none⟩) ys.length cap2)])) hpost hflat hrl hS
        (fun x hx => by simp [Blks, hx]) (fun x hx => ⟨(hrows x hx).1, (hrows x hx).2.1⟩) rfl
      exact ⟨rv, S, [[rv]], [], rows', h1, h2, fun _ h => h, fun _ h => .inl h, h3, h4, ⟨rfl, trivial⟩, rfl, h5, h6⟩

/-! loop.example/g00358/impl.linked -/
def impl_linked.b0 (k : Nat) (s : List (ByteArray × Int) × List (ByteArray × Int) × Int × ByteArray × Int) : Option ((List (ByteArray × Int) × List (ByteArray × Int) × Int × ByteArray × Int) ⊕ (List (ByteArray × Int) × List (ByteArray × Int) × Int × ByteArray × Int) ⊕ (List (ByteArray × Int))) :=
  bif (decide (s.2.2.1 < (s.1.length : Int))) then ((inb? s.1.length s.2.2.1).bind fun j1 => (s.1[j1]?).bind fun y2 => bif (strLt y2.1 s.2.2.2.1) then (some (.inl (s.1, s.2.1, IntKind.wrap .i64 (s.2.2.1 + 1), s.2.2.2))) else (some (.inr (.inl s)))) else (some (.inr (.inl s)))

def impl_linked.d0 (k : Nat) (y : List (ByteArray × Int) × List (ByteArray × Int) × Int × ByteArray × Int) : Option (List (ByteArray × Int)) :=
  (slices_Insert_Link.f k y.1 y.2.2.1 ([y.2.2.2])).bind fun r1 => some r1

def impl_linked.f (k : Nat) (a0 : List (ByteArray × Int)) (a1 : ByteArray × Int) : Option (List (ByteArray × Int)) :=
  (iter (X := (List (ByteArray × Int) × List (ByteArray × Int) × Int × ByteArray × Int) ⊕ (List (ByteArray × Int))) (impl_linked.b0 k) k (a0, [], 0, a1)).bind fun r => match r with | .inl y => impl_linked.d0 k y | .inr o => some o

def impl_linked.sig : Sig := ⟨[.give false (.sl 118 (.pair .str (.int .i64))), .val true (.pair .str (.int .i64))], [⟨false, (.sl 118 (.pair .str (.int .i64))), true⟩]⟩
def impl_linked.fn : Fn := ⟨impl_linked.sig, fun k (x : List (ByteArray × Int) × ByteArray × Int) => impl_linked.f k x.1 x.2⟩
noncomputable def impl_linked.env (k : Nat) : Env := ⟨Tryz.prog, 27, fun t => bif Nat.beq t 118 then some (.pair .str (.int .i64)) else none, look [(158, slices_Insert_Link.fn)], k, impl_linked.sig.pin, lookM []⟩
def impl_linked.ann : Ann := .seq .leaf (.seq .leaf (.seq (.loop [.slot 0 false (.sl 118 (.pair .str (.int .i64))) true, .ptr 3 1000, .slot 4 false (.sl 118 (.pair .str (.int .i64))) true, .slot 5 false (.int .i64) false, .box 1000 118 (.pair .str (.int .i64)) false false] [.slot 0 false (.sl 118 (.pair .str (.int .i64))) true, .ptr 3 1000, .slot 4 false (.sl 118 (.pair .str (.int .i64))) true, .slot 5 false (.int .i64) false, .box 1000 118 (.pair .str (.int .i64)) false false] (.seq (.seq .leaf (.cond .leaf .leaf)) (.blk .leaf))) (.seq .leaf .leaf)))
theorem impl_linked.ok (k : Nat) : FnOk Tryz.prog k 147 impl_linked.fn :=
  fnOk_of (E := impl_linked.env k) (ann := impl_linked.ann) ⟨look_cons (slices_Insert_Link.ok k) (look_nil), lookM_nil⟩ (by kernel_rfl) Tryz.func147 (by kernel_rfl) (by kernel_rfl) (by kernel_rfl) (of_decide_eq_true (by kernel_rfl)) (of_decide_eq_true (by kernel_rfl)) (fun _ h => h) (fun x => by kernel_rfl)

/-! loop.example/g00358/impl.apply$1 -/
def impl_apply_in.f (k : Nat) (a0 : ByteArray × Int) (a1 : Int × ByteArray × ByteArray × Int) : Option Bool :=
  bif (decide (a0.1 = a1.2.1)) then (some true) else (some (decide (a0.1 = a1.2.2.1)))

def impl_apply_in.sig : Sig := ⟨[.val true (.pair .str (.int .i64)), .box 120 (.pair (.int .i64) (.pair .str (.pair .str (.int .i64)))) false false], [⟨false, .bool, true⟩]⟩
def impl_apply_in.fn : Fn := ⟨impl_apply_in.sig, fun k (x : (ByteArray × Int) × Int × ByteArray × ByteArray × Int) => impl_apply_in.f k x.1 x.2⟩
noncomputable def impl_apply_in.env (k : Nat) : Env := ⟨Tryz.prog, 16, fun t => none, look [], k, impl_apply_in.sig.pin, lookM []⟩
def impl_apply_in.ann : Ann := .seq .leaf (.seq .leaf .leaf)
theorem impl_apply_in.ok (k : Nat) : FnOk Tryz.prog k 149 impl_apply_in.fn :=
  fnOk_of (E := impl_apply_in.env k) (ann := impl_apply_in.ann) ⟨look_nil, lookM_nil⟩ (by kernel_rfl) Tryz.func149 (by kernel_rfl) (by kernel_rfl) (by kernel_rfl) (of_decide_eq_true (by kernel_rfl)) (of_decide_eq_true (by kernel_rfl)) (fun _ h => h) (fun x => by kernel_rfl)

/-! slices.IndexFunc[[]loop.example/g00358/impl.Link,loop.example/g00358/impl.Link] -/
def slices_IndexFunc_Link_impl_apply_in.b0 (k : Nat) (s : List (ByteArray × Int) × Int × Int × Int × Int × ByteArray × ByteArray × Int) : Option ((List (ByteArray × Int) × Int × Int × Int × Int × ByteArray × ByteArray × Int) ⊕ Int ⊕ Int) :=
  bif (decide (s.2.2.2.1 < s.2.2.1)) then ((inb? s.1.length s.2.2.2.1).bind fun j1 => (s.1[j1]?).bind fun y2 => (impl_apply_in.f k y2 s.2.2.2.2).bind fun r3 => bif r3 then (some (.inr (.inr s.2.2.2.1))) else (some (.inl (s.1, s.2.1, s.2.2.1, IntKind.wrap .i64 (s.2.2.2.1 + 1), s.2.2.2.2)))) else (some (.inr (.inl s.2.1)))

def slices_IndexFunc_Link_impl_apply_in.d0 (k : Nat) (y : Int) : Option Int :=
  some (-1)

def slices_IndexFunc_Link_impl_apply_in.f (k : Nat) (a0 : List (ByteArray × Int)) (a1 : Int × ByteArray × ByteArray × Int) : Option Int :=
  (iter (X := Int ⊕ Int) (slices_IndexFunc_Link_impl_apply_in.b0 k) k (a0, 0, (a0.length : Int), 0, a1)).bind fun r => match r with | .inl y => slices_IndexFunc_Link_impl_apply_in.d0 k y | .inr o => some o

def slices_IndexFunc_Link_impl_apply_in.sig : Sig := ⟨[.val false (.sl 118 (.pair .str (.int .i64))), .clo 149 false 120 (.pair (.int .i64) (.pair .str (.pair .str (.int .i64))))], [⟨false, (.int .i64), true⟩]⟩
def slices_IndexFunc_Link_impl_apply_in.fn : Fn := ⟨slices_IndexFunc_Link_impl_apply_in.sig, fun k (x : List (ByteArray × Int) × Int × ByteArray × ByteArray × Int) => slices_IndexFunc_Link_impl_apply_in.f k x.1 x.2⟩
noncomputable def slices_IndexFunc_Link_impl_apply_in.env (k : Nat) : Env := ⟨Tryz.prog, 19, fun t => none, look [(149, impl_apply_in.fn)], k, slices_IndexFunc_Link_impl_apply_in.sig.pin, lookM []⟩
def slices_IndexFunc_Link_impl_apply_in.ann : Ann := .seq .leaf (.seq (.seq .leaf (.loop [.slot 0 false (.sl 118 (.pair .str (.int .i64))) false, .fnp 1 149 false 2, .slot 4 false (.int .i64) false, .slot 7 false (.int .i64) false, .slot 8 false (.int .i64) false, .box 2 120 (.pair (.int .i64) (.pair .str (.pair .str (.int .i64)))) false true] [.slot 4 false (.int .i64) false] (.seq .leaf (.seq (.cond .leaf .leaf) (.seq (.blk (.seq .leaf (.seq .leaf (.cond (.seq .leaf .leaf) .leaf)))) .leaf))))) (.seq .leaf .leaf))
theorem slices_IndexFunc_Link_impl_apply_in.ok (k : Nat) : FnOk Tryz.prog k 141 slices_IndexFunc_Link_impl_apply_in.fn :=
  fnOk_of (E := slices_IndexFunc_Link_impl_apply_in.env k) (ann := slices_IndexFunc_Link_impl_apply_in.ann) ⟨look_cons (impl_apply_in.ok k) (look_nil), lookM_nil⟩ (by kernel_rfl) Tryz.func141 (by kernel_rfl) (by kernel_rfl) (by kernel_rfl) (of_decide_eq_true (by kernel_rfl)) (of_decide_eq_true (by kernel_rfl)) (fun _ h => h) (fun x => by kernel_rfl)

section
open Go.Proofs Go.Shelf Go.RowKit Go.Lib
set_option maxHeartbeats 4000000 in
/-- nothing is found: the row comes back as it is -/
theorem Hand.dfn0_slices_DeleteFunc_Link_impl_apply_in (w : World) (b : Option Addr) (n c mb : Nat) (Q : World → Prop) (hix : Calls Tryz.prog 141 #[.slice b n c, .func (.func 149) #[] #[.pointer (some ⟨mb, 0, none⟩)]] w fun e w' => e = .returned (.int .i64 (-1)) ∧ Q w') :
    Calls Tryz.prog 148 #[.slice b n c, .func (.func 149) #[] #[.pointer (some ⟨mb, 0, none⟩)]] w (fun e w' => e = .returned (.slice b n c) ∧ Q w') := by
  have mixed : Tryz.prog.follows .mixedOrders = true := by kernel_rfl
  go_enter Tryz.func148, Tryz.ntmps148
  go_wp2_with (go_at_call 141; refine hix.mono ?_; rintro e w' ⟨rfl, hI⟩)
  go_ret
  exact ⟨rfl, hI⟩

set_option maxHeartbeats 4000000 in
set_option maxRecDepth 100000 in
/-- slices.DeleteFunc behind the search: what stays -/
theorem Hand.dfn_slices_DeleteFunc_Link_impl_apply_in (w : World) (b off n c i0 mb : Nat) (cur : Array Value) (X : List Value) (E0 : Nat → ByteArray) (E1 : Nat → Int) (pr : Nat → Bool) (Inv : Nat → Nat → World → Prop)
    (hix : Calls Tryz.prog 141 #[.slice (some ⟨b, off, none⟩) n c, .func (.func 149) #[] #[.pointer (some ⟨mb, 0, none⟩)]] w fun e w' => e = .returned (.int .i64 i0) ∧ Inv i0 (i0 + 1) w')
    (hi0 : i0 < n) (hn63 : n ≤ 9223372036854775806) (hnc : n ≤ c)
    (hread : ∀ i j W, Inv i j W → j < n → W.cell? ⟨b, off + j * 2, none⟩ = some (.string (E0 j)) ∧ W.cell? ⟨b, off + j * 2 + 1, none⟩ = some (.int .i64 (E1 j)))
    (hcall : ∀ i j W, Inv i j W → j < n → Calls Tryz.prog 149 #[.agg #[.string (E0 j), .int .i64 (E1 j)], .pointer (some ⟨mb, 0, none⟩)] (W.alloc (.cells #[.string (E0 j), .int .i64 (E1 j)] 118)) fun e W' => e = .returned (.bool (pr j)) ∧ Frm (W.alloc (.cells #[.string (E0 j), .int .i64 (E1 j)] 118)).heap.size (fun _ => False) (W.alloc (.cells #[.string (E0 j), .int .i64 (E1 j)] 118)) W')
    (hskip : ∀ i j W W', Inv i j W → j < n → pr j = true → Frm (W.alloc (.cells #[.string (E0 j), .int .i64 (E1 j)] 118)).heap.size (fun _ => False) (W.alloc (.cells #[.string (E0 j), .int .i64 (E1 j)] 118)) W' → Inv i (j + 1) W')
    (hrow : ∀ i j W W', Inv i j W → j < n → Frm (W.alloc (.cells #[.string (E0 j), .int .i64 (E1 j)] 118)).heap.size (fun _ => False) (W.alloc (.cells #[.string (E0 j), .int .i64 (E1 j)] 118)) W' → ∃ cur', W'.heap[b]? = some (.cells cur' 118 (0, 0)) ∧ off + c * 2 ≤ cur'.size)
    (hkeep : ∀ i j W W', Inv i j W → j < n → pr j = false → Frm (W.alloc (.cells #[.string (E0 j), .int .i64 (E1 j)] 118)).heap.size (fun _ => False) (W.alloc (.cells #[.string (E0 j), .int .i64 (E1 j)] 118)) W' →
      Inv (i + 1) (j + 1) ((W'.setCell ⟨b, off + i * 2, none⟩ (.string (E0 j))).setCell ⟨b, off + i * 2 + 1, none⟩ (.int .i64 (E1 j))))
    (Post : Nat → World → Prop)
    (hend : ∀ i W, Inv i n W → ∃ W2, (∀ ty dc, (Builtin.clear_ #[38] ty #[.slice (some ⟨b, off + i * 2, none⟩) (n - i) dc]).run Tryz.prog W = .ok (.tuple #[]) W2) ∧ Post i W2)
    (hij : ∀ i j W, Inv i j W → i < j) :
    Calls Tryz.prog 148 #[.slice (some ⟨b, off, none⟩) n c, .func (.func 149) #[] #[.pointer (some ⟨mb, 0, none⟩)]] w (fun e w' => ∃ i, e = .returned (.slice (some ⟨b, off, none⟩) i c) ∧ Post i w') := by
  have hne1 : ((i0 : Int) == -1) = false := beq_eq_false_iff_ne.2 (by omega)
  have HC : Aside _ := hcall
  have HR : Aside _ := hread
  clear hcall hread
  have HROW0 : Aside _ := hrow
  have HSK0 : Aside _ := hskip
  have HKP0 : Aside _ := hkeep
  have HEND : Aside _ := hend
  clear hrow hskip hkeep hend
  have mixed : Tryz.prog.follows .mixedOrders = true := by kernel_rfl
  go_enter Tryz.func148, Tryz.ntmps148
  go_wp2_with (go_at_call 141; refine hix.mono ?_; rintro e w' ⟨rfl, hI⟩)
  go_loopg [5, 6, 7] n (fun gg s5 s6 _ wr => ∃ (i j : Nat), s5 = .int .i64 i ∧ s6 = .int .i64 j ∧ j ≤ n ∧ n - j ≤ gg ∧ Aside (Inv i j wr))
  case atStart => exact ⟨i0, i0 + 1, rfl, by go_num, by omega, by omega, hI⟩
  case round =>
    obtain ⟨i, j, rfl, rfl, hjn, hgg, I⟩ := hrel
    by_cases hlt : j < n
    · have hltz : (j : Int) < (n : Int) := by omega
      obtain ⟨c0, c1⟩ := HR.out i j wr I.out hlt
      have hcall := HC.out i j wr I.out hlt
      have hil := hij i j wr I.out
      have HROW : Aside _ := HROW0.out i j wr
      have HSK : Aside _ := HSK0.out i j wr
      obtain ⟨e0, C0⟩ : ∃ e, Aside (E0 j = e) := ⟨_, rfl⟩
      rw [C0.out] at c0 hcall
      obtain ⟨e1, C1⟩ : ∃ e, Aside (E1 j = e) := ⟨_, rfl⟩
      rw [C1.out] at c1 hcall
      cases hq : pr j with
      | true =>
        rw [hq] at hcall
        go_wp2_with (go_at_call 149; refine hcall.mono ?_; rintro e w' ⟨rfl, hf⟩)
        go_roundg (n - (j + 1))
        case measure => omega
        case rel =>
          refine ⟨i, j + 1, rfl, by go_num, by omega, Nat.le_refl _, HSK.out w' I.out hlt hq ?_⟩
          rw [C0.out, C1.out]
          exact hf
      | false =>
        rw [hq] at hcall
        have hpost : ∀ w', Frm (wr.alloc (.cells #[.string e0, .int .i64 e1] 118)).heap.size (fun _ => False) (wr.alloc (.cells #[.string e0, .int .i64 e1] 118)) w' →
            w'.cell? ⟨wr.heap.size, 0, none⟩ = some (.string e0) ∧ w'.cell? ⟨wr.heap.size, 1, none⟩ = some (.int .i64 e1) ∧ (∃ u, w'.cell? ⟨b, off + i * 2, none⟩ = some u) ∧ (∃ u, w'.cell? ⟨b, off + i * 2 + 1, none⟩ = some u) ∧ w'.frozen? ⟨b, off + i * 2, none⟩ = false ∧ w'.frozen? ⟨b, off + i * 2 + 1, none⟩ = false := by
          intro w' hf
          obtain ⟨cur', hcur', hfit'⟩ := HROW.out w' I.out hlt (by rw [C0.out, C1.out]; exact hf)
          have hwn : (wr.alloc (.cells #[.string e0, .int .i64 e1] 118)).heap[wr.heap.size]? = some (.cells #[.string e0, .int .i64 e1] 118 (0, 0)) := by show (wr.heap.push _)[wr.heap.size]? = _; simp
          refine ⟨hf.cell0 ?_, hf.cell0 ?_, ?_, ?_, ?_, ?_⟩
          · rw [cell_of_row _ _ _ _ 118 (0, 0) hwn]; rfl
          · rw [cell_of_row _ _ _ _ 118 (0, 0) hwn]; rfl
          · exact ⟨_, by rw [cell_of_row w' b _ cur' 118 (0, 0) hcur', Array.getElem?_eq_getElem (by omega)]⟩
          · exact ⟨_, by rw [cell_of_row w' b _ cur' 118 (0, 0) hcur', Array.getElem?_eq_getElem (by omega)]⟩
          · simp [World.frozen?, hcur']
          · simp [World.frozen?, hcur']
        go_wp2_with (go_at_call 149; refine hcall.mono ?_; rintro e w' ⟨rfl, hf⟩; obtain ⟨d0, d1, ⟨u0, g0⟩, ⟨u1, g1⟩, f0, f1⟩ := hpost w' hf)
        go_roundg (n - (j + 1))
        case measure => omega
        case rel =>
          refine ⟨i + 1, j + 1, by go_num, by go_num, by omega, Nat.le_refl _, (show Aside _ from ?_)⟩
          have := HKP0.out i j wr w' I.out hlt hq (by rw [C0.out, C1.out]; exact hf)
          rw [C0.out, C1.out] at this
          exact this
    · obtain rfl : j = n := by omega
      have hltz : ¬ (j : Int) < (j : Int) := by omega
      have hil := hij i j wr I.out
      obtain ⟨W2, hcl, hp⟩ := HEND.out i wr I.out
      have HP : Aside _ := hp
      clear hp
      have hic : i ≤ c := by omega
      have hci : ¬ (c = i) := by omega
      have hij1 : (i : Int) ≤ (j : Int) := by omega
      go_wp2
      go_ret
      exact ⟨i, rfl, HP.out⟩
end
def dflt_Link : (ByteArray × Int) := (⟨#[]⟩, 0)
def slices_DeleteFunc_Link_impl_apply_in.f (k : Nat) (a0 : List (ByteArray × Int)) (a1 : Int × ByteArray × ByteArray × Int) : Option (List (ByteArray × Int)) := delG (slices_IndexFunc_Link_impl_apply_in.f k a0 a1) (fun x => impl_apply_in.f k x a1) a0
def slices_DeleteFunc_Link_impl_apply_in.sig : Sig := ⟨[.give false (.sl 118 (.pair .str (.int .i64))), .clo 149 false 120 (.pair (.int .i64) (.pair .str (.pair .str (.int .i64))))], [⟨false, (.sl 118 (.pair .str (.int .i64))), true⟩]⟩
def slices_DeleteFunc_Link_impl_apply_in.fn : Fn := ⟨slices_DeleteFunc_Link_impl_apply_in.sig, fun k (x : List (ByteArray × Int) × (Int × ByteArray × ByteArray × Int)) => slices_DeleteFunc_Link_impl_apply_in.f k x.1 x.2⟩

theorem slices_DeleteFunc_Link_impl_apply_in.ok (k : Nat) : FnOk Tryz.prog k 148 slices_DeleteFunc_Link_impl_apply_in.fn := by
  refine ⟨body_there Tryz.func148 (by kernel_rfl) (by kernel_rfl), ?_⟩
  intro w S vs vss rows (x : List (ByteArray × Int) × (Int × ByteArray × ByteArray × Int)) (r : List (ByteArray × Int)) hsem hargs hparts hS hbn hbn2 hbS hnd hrows hgl
  obtain ⟨xs, cap⟩ := x
  change slices_DeleteFunc_Link_impl_apply_in.f k xs cap = some r at hsem
  unfold slices_DeleteFunc_Link_impl_apply_in.f delG at hsem
  obtain ⟨idx, hidx, hsem⟩ := Option.bind_eq_some_iff.1 hsem
  have hal := hargs.length
  obtain ⟨v0, v1, rfl⟩ := list2 hal.1
  obtain ⟨l0, l1, rfl⟩ := list2 hal.2
  obtain ⟨ha0, ⟨mb, rfl, hmb⟩, _⟩ := hargs
  simp only [Bool.false_eq_true, if_false] at ha0
  subst ha0
  obtain ⟨q0, qs, r1, r2, he, rfl, hp0, hp⟩ := hparts
  simp only [List.cons.injEq] at he
  obtain ⟨rfl, rfl⟩ := he
  obtain ⟨q1, he, hp1⟩ := hp
  simp only [List.cons.injEq, and_true] at he
  subst he
  have hp0 : OwnT w S (.sl 118 (.pair .str (.int .i64))) xs [v0] r1 := hp0
  obtain ⟨hp1, rfl⟩ : RdT w S (.pair (.int .i64) (.pair .str (.pair .str (.int .i64)))) cap l1 ∧ r2 = [] := hp1
  have hrd0 : RdT w (fun b => S b ∨ b ∈ Blks r1) (.sl 118 (.pair .str (.int .i64))) xs [v0] := by
    obtain ⟨a, n, cp, h1, h2, h3, _⟩ := hp0
    refine ⟨a, n, cp, h1, h3.mono (fun b hb => .inr ?_) (fun _ _ => rfl) (fun x l => RdT.mono (fun b hb => .inl hb) fun _ _ => rfl)⟩
    subst h2
    cases a with
    | none => cases hb
    | some ad => simpa [Blks] using hb.symm
  obtain ⟨a, c, X, hl, rfl, hcap, hnil, hXl, hX, hblk⟩ := own_cells hp0 (by decide)
  simp only [List.cons.injEq, and_true] at hl
  subst hl
  simp only [List.append_nil] at hnd hrows ⊢
  have hcap : xs.length ≤ c := hcap
  have hix : Calls Tryz.prog 141 #[.slice a xs.length c, .func (.func 149) #[] #[.pointer (some ⟨mb, 0, none⟩)]] w (fun e w' => e = .returned (.int .i64 idx) ∧ Frm w.heap.size (fun _ => False) w w') := by
    refine ((slices_IndexFunc_Link_impl_apply_in.ok k).run w (fun b => S b ∨ b ∈ Blks [(a.map (·.block), .slice a xs.length c)]) [.slice a xs.length c, .func (.func 149) #[] #[.pointer (some ⟨mb, 0, none⟩)]] [[.slice a xs.length c], l1] [] (xs, cap) idx hidx
      ⟨rfl, ⟨mb, rfl, hmb⟩, trivial⟩ ⟨_, _, [], [], rfl, rfl, ⟨hrd0, rfl⟩, _, rfl, ⟨hp1.mono (fun b hb => .inl hb) (fun _ _ => rfl), rfl⟩⟩
      (fun b hb => hb.elim (hS b) fun hb => (hrows b hb).2.1) List.nodup_nil (fun b hb => nomatch hb) (fun b hb => ?_) List.nodup_nil (fun b hb => nomatch hb) (hgl.mono (fun b hb => .inl hb) fun _ _ => rfl)).mono ?_
    · exact fun h => h.elim (hbS b hb) fun h => (hrows b h).2.2 hb
    · rintro e w' ⟨rv, S', vr, vo, rows', rfl, hfrm, _, _, _, hpr, hres, ho, _, _⟩
      obtain rfl : vo = [] := ho
      match vr, hres with
      | [l], hres =>
        have h1 := hres.1
        simp only [Bool.false_eq_true, if_false] at h1
        subst h1
        have := one_out (own := true) (.inr ⟨_, rfl⟩) hpr
        simp only [RdT, List.cons.injEq, and_true] at this
        subst this
        exact ⟨rfl, hfrm.os, hfrm.tape, hfrm.output, rfl, hfrm.size, fun b hb _ => hfrm.block b hb fun h => h.elim (fun h => nomatch h) (fun h => nomatch h)⟩
      | [], hres => exact hres.elim
      | _ :: _ :: _, hres => exact hres.2.elim
  have hmS : ¬ S mb := hbS mb (List.mem_singleton.2 rfl : mb ∈ [mb])
  by_cases hi1 : idx = -1
  · subst hi1
    rw [if_pos rfl] at hsem
    simp only [Option.some.injEq] at hsem
    subst hsem
    refine (Hand.dfn0_slices_DeleteFunc_Link_impl_apply_in w a xs.length c mb _ hix).mono ?_
    rintro en w' ⟨rfl, hfrm⟩
    refine ⟨_, S, [[_]], [], [(a.map (·.block), .slice a xs.length c)], rfl, ⟨hfrm.os, hfrm.tape, hfrm.output, rfl, hfrm.size, fun b hb _ => hfrm.block b hb id⟩, fun _ h => h, fun _ h => .inl h, fun b hb => Nat.lt_of_lt_of_le (hS b hb) hfrm.size, ⟨_, rfl, ?_⟩, ⟨rfl, trivial⟩, rfl, hnd, fun b hb => ⟨(hrows b hb).1, Nat.lt_of_lt_of_le (hrows b hb).2.1 hfrm.size, (hrows b hb).2.2, .inl hb⟩⟩
    exact OwnT.mono (fun _ h => h) (fun b hb => hfrm.block b (hS b hb) id) (fun b hb => hfrm.block b (hrows b hb).2.1 id) hp0
  have hrows : ∀ b ∈ Blks [(a.map (·.block), .slice a xs.length c)], ¬ S b ∧ b < w.heap.size ∧ b ≠ mb := fun b hb => ⟨(hrows b hb).1, (hrows b hb).2.1, fun e => (hrows b hb).2.2 (List.mem_singleton.2 e : b ∈ [mb])⟩
  rw [if_neg hi1] at hsem
  split at hsem
  case isFalse => cases hsem
  rename_i hc
  obtain ⟨h0, hlt, hbig⟩ := hc
  obtain ⟨i0, rfl⟩ : ∃ n : Nat, idx = n := ⟨idx.toNat, by omega⟩
  have hlt : i0 < xs.length := by exact_mod_cast hlt
  simp only [Int.toNat_natCast] at hsem
  obtain ⟨rest, hrest, rfl⟩ := Option.map_eq_some_iff.1 hsem
  obtain ⟨hp, rfl⟩ := delF_eq hrest
  obtain ⟨q, hq⟩ : ∃ q : (ByteArray × Int) → Bool, q = fun x => (impl_apply_in.f k x cap).getD false := ⟨_, rfl⟩
  have hpq : ∀ x ∈ xs.drop (i0 + 1), impl_apply_in.f k x cap = some (q x) := fun x hx => by obtain ⟨b, hb⟩ := hp x hx; simp [hq, hb]
  have hfin : xs.take i0 ++ (xs.drop (i0 + 1)).filter (fun x => !(impl_apply_in.f k x cap).getD false) = keptTo q xs i0 (xs.length - (i0 + 1)) := by
    unfold keptTo
    rw [List.take_of_length_le (l := xs.drop (i0 + 1)) (by rw [List.length_drop]; omega), hq]
  rw [hfin]
  cases a with
  | none => obtain ⟨rfl, _⟩ := hnil rfl; exact absurd hlt (Nat.not_lt_zero _)
  | some ad =>
    obtain ⟨b, off, asp⟩ := ad
    obtain ⟨hsp, cur, hcur, hfit, hXc⟩ := hblk _ rfl
    simp only at hsp hcur hfit hXc
    subst hsp
    have hfit : off + c * 2 ≤ cur.size := hfit
    have hXf := hX.flat (cv := cvLink) cvLink_len (fun x l h => by obtain ⟨_, _, rfl, rfl, rfl⟩ := h; rfl)
    subst hXf
    have hbb : b ∈ Blks [((some (⟨b, off, none⟩ : Addr)).map (·.block), .slice (some ⟨b, off, none⟩) xs.length c)] := by simp [Blks]
    have hbS' := hrows b hbb
    have hmbb : mb ≠ b := fun h => hbS'.2.2 h.symm
    have hmlt : mb < w.heap.size := (Array.getElem?_eq_some_iff.1 hmb).1
    obtain ⟨z, hzv, hzs, hz1⟩ := Hand.zeroLink
    have key := Hand.dfn_slices_DeleteFunc_Link_impl_apply_in w b off xs.length c i0 mb cur [] (fun j => ((xs[j]?).getD dflt_Link).1) (fun j => ((xs[j]?).getD dflt_Link).2) (fun j => q ((xs[j]?).getD dflt_Link))
      (fun i j W => ∃ d, j = i0 + 1 + d ∧ i = (keptTo q xs i0 d).length ∧ DInv 118 2 cvLink w b off cur.size xs (keptTo q xs i0 d) j W)
      (hix.mono (by
        rintro e w' ⟨rfl, hf⟩
        refine ⟨rfl, 0, rfl, ?_, ⟨⟨hf.os, hf.tape, hf.output, rfl, hf.size, fun k hk _ => hf.block k hk id⟩, cur, (hf.block b hbS'.2.1 id).trans hcur, rfl, fun q v hq => ?_, fun q v _ hq => hXc q v hq⟩⟩
        · simp [keptTo]; omega
        · simp only [keptTo, List.take_zero, List.filter_nil, List.append_nil] at hq
          refine hXc q v ?_
          rw [← List.take_append_drop i0 xs, List.flatMap_append, List.getElem?_append_left (List.getElem?_eq_some_iff.1 hq).1]
          exact hq))
      hlt (by omega) hcap
      (fun i j W hI hj => by
        obtain ⟨d, rfl, rfl, h⟩ := hI
        have hx : xs[i0 + 1 + d]? = some xs[i0 + 1 + d] := List.getElem?_eq_getElem hj
        exact ⟨by have := h.read (cvLink_len) hx (t := 0) rfl; simpa [hx] using this, by have := h.read (cvLink_len) hx (t := 1) rfl; simpa [hx] using this⟩)
      (fun i j W hI hj => by
        obtain ⟨d, rfl, rfl, h⟩ := hI
        have hx : xs[i0 + 1 + d]? = some xs[i0 + 1 + d] := List.getElem?_eq_getElem hj
        have hpx := hpq _ (List.mem_of_getElem? (by rw [List.getElem?_drop]; exact hx))
        simp only [hx, Option.getD_some]
        have hWs := h.frm.size
        have hkeep : ∀ k, k < w.heap.size → k ≠ b → (W.alloc (.cells (cvLink xs[i0 + 1 + d]).toArray 118)).heap[k]? = w.heap[k]? := fun k hk hkb => by
          show (W.heap.push _)[k]? = _
          rw [Array.getElem?_push, if_neg (by omega)]
          exact h.frm.block k hk hkb
        refine ((impl_apply_in.ok k).run _ S [.agg (cvLink xs[i0 + 1 + d]).toArray, .pointer (some ⟨mb, 0, none⟩)] [cvLink xs[i0 + 1 + d], l1] [] (xs[i0 + 1 + d], cap) (q xs[i0 + 1 + d]) hpx
          ⟨rfl, ⟨mb, rfl, (hkeep mb hmlt hmbb).trans hmb⟩, trivial⟩
          ⟨_, _, [], [], rfl, rfl, ⟨cvLink_rd _, rfl⟩, _, rfl, ⟨hp1.mono (fun _ h => h) (fun s hs => hkeep s (hS s hs) fun e => hbS'.1 (e ▸ hs)), rfl⟩⟩
          (fun s hs => by have := hS s hs; show s < (W.heap.push _).size; simp; omega) List.nodup_nil (fun b hb => nomatch hb) (fun s hs => by have hs : s = mb := List.mem_singleton.1 hs; rw [hs]; exact hmS) List.nodup_nil (fun b hb => nomatch hb) (hgl.mono (fun _ h => h) (fun s hs => hkeep s (hS s hs) fun e => hbS'.1 (e ▸ hs)))).mono ?_
        rintro e w' ⟨rv, S', vr, vo, rows', rfl, hfrm, _, _, _, hpr, hres, ho, _, _⟩
        obtain rfl : vo = [] := ho
        match vr, hres with
        | [l], hres =>
          have h1 := hres.1
          simp only [Bool.false_eq_true, if_false] at h1
          subst h1
          have := one_out (own := true) (.inl rfl) hpr
          simp only [RdT, List.cons.injEq, and_true] at this
          subst this
          exact ⟨rfl, hfrm.os, hfrm.tape, hfrm.output, rfl, hfrm.size, fun b hb _ => hfrm.block b hb fun h => h.elim (fun h => nomatch h) (fun h => nomatch h)⟩
        | [], hres => exact hres.elim
        | _ :: _ :: _, hres => exact hres.2.elim)
      (fun i j W W' hI hj hpr hf => by
        obtain ⟨d, rfl, rfl, h⟩ := hI
        have hx : xs[i0 + 1 + d]? = some xs[i0 + 1 + d] := List.getElem?_eq_getElem hj
        simp only [hx, Option.getD_some] at hpr
        refine ⟨d + 1, rfl, ?_, ?_⟩ <;> rw [keptTo_succ hx, hpr, cond_true]
        exact (h.call hf).skip)
      (fun i j W W' hI hj hf => by
        obtain ⟨d, rfl, rfl, h⟩ := hI
        obtain ⟨cur', h1, h2, _⟩ := (h.call hf).row
        exact ⟨cur', h1, by omega⟩)
      (fun i j W W' hI hj hpr hf => by
        obtain ⟨d, rfl, rfl, h⟩ := hI
        have hx : xs[i0 + 1 + d]? = some xs[i0 + 1 + d] := List.getElem?_eq_getElem hj
        simp only [hx, Option.getD_some] at hpr hf ⊢
        have hkl := keptTo_len (q := q) (xs := xs) (i0 := i0) (d := d)
        refine ⟨d + 1, rfl, ?_, ?_⟩ <;> rw [keptTo_succ hx, hpr, cond_false]
        · simp
        · exact (h.call hf).keep cvLink_len (c := c) xs[i0 + 1 + d] (by omega) (by omega) (by omega))
      (fun i W2 => i = (keptTo q xs i0 (xs.length - (i0 + 1))).length ∧ Frm w.heap.size (fun x => x = b) w W2 ∧ ∃ cur', W2.heap[b]? = some (.cells cur' 118 (0, 0)) ∧ cur'.size = cur.size ∧ ∀ q' v, ((keptTo q xs i0 (xs.length - (i0 + 1))).flatMap cvLink)[q']? = some v → cur'[off + q']? = some v)
      (fun i W hI => by
        obtain ⟨d, hd, rfl, h⟩ := hI
        obtain rfl : d = xs.length - (i0 + 1) := by omega
        have hkl := keptTo_len (q := q) (xs := xs) (i0 := i0) (d := xs.length - (i0 + 1))
        obtain ⟨K, hK⟩ : ∃ K, K = keptTo q xs i0 (xs.length - (i0 + 1)) := ⟨_, rfl⟩
        rw [← hK] at h hkl ⊢
        obtain ⟨cur', h1, h2, h3, h4⟩ := h.row
        have hflat := flat_len cvLink_len K
        have hzl : (Builtin.zeroCells z.cells (xs.length - K.length)).toList.length = (xs.length - K.length) * 2 := by rw [Array.length_toList, size_zeroCells, hzs]
        refine ⟨_, fun ty dc => run_clear_k W 38 118 ty z Tryz.underlying38 hzv b (off + K.length * 2) (xs.length - K.length) dc cur' 118 h1 (by rw [hzl, h2]; omega) (hz1 _) (by omega), rfl, ?_, ?_⟩
        · exact ⟨h.frm.os, h.frm.tape, h.frm.output, rfl, by rw [size_setRow]; exact h.frm.size, fun k hk hm => (setRow_other _ _ _ _ hm).trans (h.frm.block k hk hm)⟩
        · refine ⟨_, setRow_heap _ b cur' _ 118 (0, 0) h1, ?_, fun q' v hv => ?_⟩
          · simp only [List.size_toArray, List.length_append, List.length_take, List.length_drop, Array.length_toList, hzl] at *; omega
          · have hlt' := (List.getElem?_eq_some_iff.1 hv).1
            simp only [List.getElem?_toArray]
            rw [laid_get cur'.toList _ (off + K.length * 2) (off + q') (by rw [hzl]; simp; omega), if_pos (by omega)]
            simpa using h3 q' v hv)
      (fun i j W hI => by
        obtain ⟨d, rfl, rfl, h⟩ := hI
        have hkl := keptTo_len (q := q) (xs := xs) (i0 := i0) (d := d)
        omega)
    refine key.mono ?_
    rintro en w' ⟨i, rfl, rfl, hfrm, cur', hcur', hsz', hcells⟩
    have hkl := keptTo_len (q := q) (xs := xs) (i0 := i0) (d := xs.length - (i0 + 1))
    have hpost : InsPost 118 2 w (some b) ((keptTo q xs i0 (xs.length - (i0 + 1))).flatMap cvLink) (keptTo q xs i0 (xs.length - (i0 + 1))).length (.returned (.slice (some ⟨b, off, none⟩) (keptTo q xs i0 (xs.length - (i0 + 1))).length c)) w' :=
      ⟨b, off, c, cur', rfl, by omega, hcur', by omega, hcells, ⟨hfrm.os, hfrm.tape, hfrm.output, rfl, hfrm.size, fun k hk hm => hfrm.block k hk fun e => hm (by rw [e])⟩, .inl rfl⟩
    obtain ⟨rv, rows', h1, h2, h3, h4, h5, h6⟩ := ins_back (e := 118) (c := (.pair .str (.int .i64))) (S := S) (rows := [((some (⟨b, off, none⟩ : Addr)).map (·.block), .slice (some ⟨b, off, none⟩) xs.length c)]) hpost (FlatR.of_flat (rd := RdT w S (.pair .str (.int .i64))) (size := 2) cvLink_len (xs := keptTo q xs i0 (xs.length - (i0 + 1))) fun x _ => cvLink_rd x) rfl hS
      (fun x hx => by cases hx; exact hbb) (fun x hx => ⟨(hrows x hx).1, (hrows x hx).2.1⟩) rfl
    refine ⟨rv, S, [[rv]], [], rows', h1, ⟨h2.os, h2.tape, h2.output, rfl, h2.size, fun k hk hm => h2.block k hk fun h => h.elim (fun h => nomatch h) fun h => hm (.inr h)⟩, fun _ h => h, fun _ h => .inl h, h3, h4, ⟨rfl, trivial⟩, rfl, h5, fun x hx => ⟨(h6 x hx).1, (h6 x hx).2.1, fun h => ?_, (h6 x hx).2.2.2⟩⟩
    have hxm : x = mb := List.mem_singleton.1 h
    rcases (h6 x hx).2.2.2 with h' | h'
    · exact (hrows x h').2.2 hxm
    · omega

section
open Go.Proofs Go.Shelf Go.RowKit Go.Lib

set_option maxHeartbeats 4000000 in
set_option maxRecDepth 100000 in
theorem Hand.del_Link (w : World) (b off n c i j : Nat) (cur : Array Value) (X : List Value) (hb : w.heap[b]? = some (.cells cur 118 (0, 0)))
    (hij : i < j) (hj : j ≤ n) (hnc : n ≤ c) (hfit : off + c * 2 ≤ cur.size)
    (hXl : X.length = n * 2) (hX : ∀ (j : Nat) (v : Value), X[j]? = some v → cur[off + j]? = some v) (h1X : ∀ v ∈ X, v.oneCell' = true) :
    Calls Tryz.prog 150 #[.slice (some ⟨b, off, none⟩) n c, .int .i64 i, .int .i64 j] w (InsPost 118 2 w (some b) (X.take (i * 2) ++ X.drop (j * 2)) (i + (n - j))) := by
  obtain ⟨i0, hi0, hz0, hbt, _⟩ := Hand.infoLink
  obtain ⟨z, hzv, hzs, hz1⟩ := Hand.zeroLink
  have hdl : (X.drop (j * 2)).length = (n - j) * 2 := by rw [List.length_drop, hXl, Nat.sub_mul]
  obtain ⟨A, hA⟩ : ∃ A : Array Value, A = (cur.toList.take (off + i * 2) ++ X.drop (j * 2) ++ cur.toList.drop (off + i * 2 + (X.drop (j * 2)).length)).toArray := ⟨_, rfl⟩
  have hAl : A.toList = cur.toList.take (off + i * 2) ++ X.drop (j * 2) ++ cur.toList.drop (off + i * 2 + (X.drop (j * 2)).length) := by rw [hA]
  have hAs : A.size = cur.size := by rw [hA]; simp only [List.size_toArray, List.length_append, List.length_take, List.length_drop, Array.length_toList, hXl]; omega
  have hap : ∀ ty (ad : Addr), (n - j = 0 ∨ ad = ⟨b, off + j * 2, none⟩) → (Builtin.append_ #[38, 38] ty #[.slice (some ⟨b, off, none⟩) i c, .slice (some ad) (n - j) (c - j)]).run Tryz.prog w.drew = .ok (.slice (some ⟨b, off, none⟩) (i + (n - j)) c) (w.drew.setRow b A) := fun ty ad had => by
    have := run_append_room' w.drew 38 ty 118 i0 Tryz.underlying38 hi0 b off i c cur hb ad (n - j) (c - j) (X.drop (j * 2)) (by rw [hdl, hz0]) (fun q u hq => by
      rcases had with h0 | rfl
      · have := (List.getElem?_eq_some_iff.1 hq).1; rw [hdl, h0] at this; omega
      · rw [List.getElem?_drop] at hq
        show w.cell? _ = _
        rw [Addr.add_lit, cell_of_row w b _ cur 118 (0, 0) hb, show off + j * 2 + q = off + (j * 2 + q) by omega]
        exact hX _ u hq) (fun v hv => h1X v (List.mem_of_mem_drop hv)) (by omega) (by rw [hz0, hdl]; omega)
    rw [hz0, ← hA] at this
    exact this
  have hgA : (w.drew.setRow b A).heap[b]? = some (.cells A 118 (0, 0)) := setRow_heap w.drew b cur A 118 (0, 0) hb
  obtain ⟨ZZ, hZZ⟩ : ∃ ZZ, ZZ = (Builtin.zeroCells z.cells (n - (i + (n - j)))).toList := ⟨_, rfl⟩
  have hZl : ZZ.length = (j - i) * 2 := by rw [hZZ, Array.length_toList, size_zeroCells, hzs]; congr 1; omega
  obtain ⟨B, hB⟩ : ∃ B : Array Value, B = (A.toList.take (off + (i + (n - j)) * 2) ++ ZZ ++ A.toList.drop (off + (i + (n - j)) * 2 + ZZ.length)).toArray := ⟨_, rfl⟩
  have hBl : B.toList = A.toList.take (off + (i + (n - j)) * 2) ++ ZZ ++ A.toList.drop (off + (i + (n - j)) * 2 + ZZ.length) := by rw [hB]
  have hBs : B.size = A.size := by rw [hB]; simp only [List.size_toArray, List.length_append, List.length_take, List.length_drop, Array.length_toList, hZl]; omega
  have hcl : ∀ ty dc, (Builtin.clear_ #[38] ty #[.slice (some ⟨b, off + (i + (n - j)) * 2, none⟩) (n - (i + (n - j))) dc]).run Tryz.prog (w.drew.setRow b A) = .ok (.tuple #[]) ((w.drew.setRow b A).setRow b B) := fun ty dc => by
    rw [hB, hZZ]
    exact run_clear_k _ 38 118 ty z Tryz.underlying38 hzv b (off + (i + (n - j)) * 2) (n - (i + (n - j))) dc A 118 hgA (by rw [← hZZ, hZl, hAs]; omega) (hz1 _) (by omega)
  have hfin : ∀ (q : Nat) (v : Value), (X.take (i * 2) ++ X.drop (j * 2))[q]? = some v → B[off + q]? = some v := by
    intro q v hq
    have hXt : (X.take (i * 2)).length = i * 2 := by rw [List.length_take, hXl]; omega
    have hql : q < i * 2 + (n - j) * 2 := by
      have := (List.getElem?_eq_some_iff.1 hq).1
      rwa [List.length_append, hXt, hdl] at this
    rw [← Array.getElem?_toList, hBl, laid_get A.toList ZZ _ (off + q) (by rw [hZl]; simp; omega), if_pos (by omega), hAl, laid_get cur.toList (X.drop (j * 2)) (off + i * 2) (off + q) (by rw [hdl]; simp; omega), hdl]
    by_cases c1 : q < i * 2
    · rw [if_pos (by omega)]
      rw [List.getElem?_append_left (by omega), List.getElem?_take, if_pos c1] at hq
      simpa using hX q v hq
    · rw [if_neg (by omega), if_pos (by omega)]
      rw [List.getElem?_append_right (by omega), hXt] at hq
      rw [show off + q - (off + i * 2) = q - i * 2 by omega]; exact hq
  have F : Aside ((w.drew.setRow b A).heap[b]? = some (.cells A 118 (0, 0)) ∧ off + c * 2 ≤ B.size ∧ (∀ (q : Nat) (v : Value), (X.take (i * 2) ++ X.drop (j * 2))[q]? = some v → B[off + q]? = some v)) := ⟨hgA, by omega, hfin⟩
  have hzz : ¬ ((i : Int) = (j : Int)) := by omega
  have hci : ¬ (c = i) := by omega
  have hcl2 : ¬ (c = i + (n - j)) := by omega
  have hle1 : i ≤ j := by omega
  have hle2 : (i : Int) ≤ (j : Int) := by omega
  have hle3 : (j : Int) ≤ (n : Int) := by omega
  have hle4 : (n : Int) ≤ (c : Int) := by omega
  have hle5 : i ≤ c := by omega
  have hle6 : j ≤ c := by omega
  have hle7 : i + (n - j) ≤ n := by omega
  obtain ⟨AD, hAD, hadj⟩ : ∃ AD : Addr, (if c = j then some (⟨b, off, none⟩ : Addr) else some ⟨b, off + j * 2, none⟩) = some AD ∧ (n - j = 0 ∨ AD = ⟨b, off + j * 2, none⟩) := by
    by_cases h : c = j
    · exact ⟨_, by rw [if_pos h], .inl (by omega)⟩
    · exact ⟨_, by rw [if_neg h], .inr rfl⟩
  have hap' := fun ty => hap ty AD hadj
  clear hA hAl hAs hgA hB hBl hBs hfin hdl hX hb hZZ hZl hap hadj hz1
  have mixed : Tryz.prog.follows .mixedOrders = true := by kernel_rfl
  go_enter Tryz.func150, Tryz.ntmps150
  go_wp2_with fail
  go_region_law_o (refine step_append_runI rfl (.tmp 22) (.tmp 25) 38 38 rfl (.slice (some ⟨b, off, none⟩) i c) (.slice (some AD) (n - j) (c - j)) (by simp [Act.eval, Act.put]) (by simp [Act.eval, Act.put, hAD]) (hap' _) ?_)
  go_wp2
  go_ret
  refine ⟨b, off, c, B, rfl, by omega, setRow_heap _ b A B 118 (0, 0) F.out.1, F.out.2.1, F.out.2.2, ⟨rfl, rfl, rfl, rfl, by simp [size_setRow], fun k hk hm => ?_⟩, .inl rfl⟩
  rw [setRow_other _ b _ _ (fun e => hm (by rw [e])), setRow_other _ b _ _ (fun e => hm (by rw [e]))]
  rfl
set_option maxHeartbeats 4000000 in
theorem Hand.del_eq_Link (w : World) (b : Option Addr) (n c i : Nat) (hi : i ≤ n) (hnc : n ≤ c) (hn : b = none → n = 0 ∧ c = 0) (hsp : ∀ ad, b = some ad → ad.spot = none) :
    Calls Tryz.prog 150 #[.slice b n c, .int .i64 i, .int .i64 i] w (fun e w' => e = .returned (.slice b n c) ∧ w' = w) := by
  have hle3 : (i : Int) ≤ (n : Int) := by omega
  have hle4 : (n : Int) ≤ (c : Int) := by omega
  have hle5 : i ≤ c := by omega
  cases b with
  | none =>
    obtain ⟨rfl, rfl⟩ := hn rfl
    obtain rfl : i = 0 := by omega
    go_enter Tryz.func150, Tryz.ntmps150
    go_wp2
    all_goals (go_ret; exact ⟨rfl, rfl⟩)
  | some ad =>
    obtain ⟨b, off, sp⟩ := ad
    have := hsp _ rfl
    simp only at this
    subst this
    clear hsp
    go_enter Tryz.func150, Tryz.ntmps150
    go_wp2
    all_goals (go_ret; exact ⟨rfl, rfl⟩)
end

def slices_Delete_Link.f (k : Nat) (a0 : List (ByteArray × Int)) (a1 : Int) (a2 : Int) : Option (List (ByteArray × Int)) := delR a0 a1 a2
def slices_Delete_Link.sig : Sig := ⟨[.give false (.sl 118 (.pair .str (.int .i64))), .val false (.int .i64), .val false (.int .i64)], [⟨false, (.sl 118 (.pair .str (.int .i64))), true⟩]⟩
def slices_Delete_Link.fn : Fn := ⟨slices_Delete_Link.sig, fun k (x : List (ByteArray × Int) × Int × Int) => slices_Delete_Link.f k x.1 x.2.1 x.2.2⟩

theorem slices_Delete_Link.ok (k : Nat) : FnOk Tryz.prog k 150 slices_Delete_Link.fn := by
  refine ⟨body_there Tryz.func150 (by kernel_rfl) (by kernel_rfl), ?_⟩
  intro w S vs vss rows (x : List ((.pair .str (.int .i64)) : CK).T × Int × Int) (r : List ((.pair .str (.int .i64)) : CK).T) hsem hargs hparts hS hbn hbn2 hbS hnd hrows hgl
  obtain ⟨xs, i, j⟩ := x
  change slices_Delete_Link.f k xs i j = some r at hsem
  unfold slices_Delete_Link.f delR at hsem
  split at hsem
  case isFalse => cases hsem
  rename_i hc
  obtain ⟨hi0, hij, hj⟩ : 0 ≤ i ∧ i ≤ j ∧ j ≤ xs.length := hc
  have hsem : xs.take i.toNat ++ xs.drop j.toNat = r := Option.some.inj hsem
  obtain ⟨n, rfl⟩ : ∃ n : Nat, i = n := ⟨i.toNat, by omega⟩
  obtain ⟨q, rfl⟩ : ∃ n : Nat, j = n := ⟨j.toNat, by omega⟩
  have hsem : xs.take n ++ xs.drop q = r := hsem
  have hij : n ≤ q := by exact_mod_cast hij
  have hj : q ≤ xs.length := by exact_mod_cast hj
  have hal := hargs.length
  obtain ⟨v0, v1, v2, rfl⟩ := list3 hal.1
  obtain ⟨l0, l1, l2, rfl⟩ := list3 hal.2
  obtain ⟨ha0, ha1, ha2, _⟩ := hargs
  simp only [Bool.false_eq_true, if_false] at ha0 ha1 ha2
  subst ha0; subst ha1; subst ha2
  obtain ⟨q0, qs, r1, r2, he, rfl, hp0, hp⟩ := hparts
  simp only [List.cons.injEq] at he
  obtain ⟨rfl, rfl⟩ := he
  obtain ⟨q1, qs, r3, r4, he, rfl, hp1, hp2⟩ := hp
  simp only [List.cons.injEq] at he
  obtain ⟨rfl, rfl⟩ := he
  obtain ⟨q2, he, hp2⟩ := hp2
  simp only [List.cons.injEq, and_true] at he
  subst he
  have hp0 : OwnT w S (.sl 118 (.pair .str (.int .i64))) xs [v0] r1 := hp0
  obtain ⟨hp1, rfl⟩ : RdT w S (.int .i64) (n : Int) [v1] ∧ r3 = [] := hp1
  obtain ⟨hp2, rfl⟩ : RdT w S (.int .i64) (q : Int) [v2] ∧ r4 = [] := hp2
  have hv1 : v1 = .int .i64 n := by simpa [RdT] using hp1
  have hv2 : v2 = .int .i64 q := by simpa [RdT] using hp2
  subst hv1; subst hv2
  obtain ⟨a, cap, X, hl, rfl, hcap, hnil, hXl, hX, hblk⟩ := own_cells hp0 (by decide)
  simp only [List.cons.injEq, and_true] at hl
  subst hl
  have h1X := hX.one (by decide : 0 < ((.pair .str (.int .i64)) : CK).size) (by decide)
  cases a with
  | none =>
    obtain ⟨rfl, rfl⟩ := hnil rfl
    obtain rfl : q = 0 := by simpa using hj
    obtain rfl : n = 0 := by omega
    refine (Hand.del_eq_Link w none 0 0 0 (Nat.le_refl _) (Nat.le_refl _) (fun _ => ⟨rfl, rfl⟩) (fun _ h => nomatch h)).mono ?_
    rintro en w' ⟨rfl, rfl⟩
    obtain rfl : r = [] := by rw [← hsem]; rfl
    obtain ⟨rv, rows', h1, h2, h3, h4, h5, h6⟩ := nil_back (e := 118) (c := (.pair .str (.int .i64))) (w := w') (S := S) (n := 0) (cap := 0) rfl rfl hS _
    exact ⟨rv, S, [[rv]], [], rows', h1, h2, fun _ h => h, fun _ h => .inl h, h3, h4, ⟨rfl, trivial⟩, rfl, h5, fun x hx => ⟨(h6 x hx).1, (h6 x hx).2.1, (h6 x hx).2.2.1, (h6 x hx).2.2.2.imp (fun h => h.elim) id⟩⟩
  | some ad =>
    obtain ⟨hsp, cur, hcur, hfit, hXc⟩ := hblk _ rfl
    have key : Calls Tryz.prog 150 #[.slice (some ad) xs.length cap, .int .i64 n, .int .i64 q] w (InsPost 118 2 w (some ad.block) (X.take (n * 2) ++ X.drop (q * 2)) (n + (xs.length - q))) := by
      by_cases he : n = q
      · subst he
        refine (Hand.del_eq_Link w (some ad) xs.length cap n hj hcap (fun h => nomatch h) (fun _ h => by cases h; exact hsp)).mono ?_
        rintro en w' ⟨rfl, rfl⟩
        rw [List.take_append_drop, show n + (xs.length - n) = xs.length by omega]
        exact InsPost.same hsp hcap hcur hfit hXc
      · obtain ⟨ab, ao, asp⟩ := ad
        simp only at hsp hcur hfit hXc
        subst hsp
        exact Hand.del_Link w ab ao xs.length cap n q cur X hcur (by omega) hj hcap hfit hXl hXc h1X
    refine key.mono ?_
    intro en w' hpost
    have hflat : FlatR (RdT w S (.pair .str (.int .i64))) ((.pair .str (.int .i64)) : CK).size r (X.take (n * 2) ++ X.drop (q * 2)) := by
      rw [← hsem]
      exact (hX.take n).append (hX.drop q hj)
    have hrl : n + (xs.length - q) = r.length := by
      rw [← hsem, List.length_append, List.length_take, List.length_drop]; omega
    obtain ⟨rv, rows', h1, h2, h3, h4, h5, h6⟩ := ins_back (e := 118) (c := (.pair .str (.int .i64))) (rows := [(some ad.block, .slice (some ad) xs.length cap)] ++ ([] ++ [])) hpost hflat hrl hS
      (fun x hx => by simp at hx; simp [Blks, hx]) (fun x hx => ⟨(hrows x hx).1, (hrows x hx).2.1⟩) rfl
    exact ⟨rv, S, [[rv]], [], rows', h1, h2, fun _ h => h, fun _ h => .inl h, h3, h4, ⟨rfl, trivial⟩, rfl, h5, h6⟩

/-! loop.example/g00358/impl.apply -/
def impl_apply.f (k : Nat) (a0 : List (ByteArray × Int)) (a1 : Int × ByteArray × ByteArray × Int) : Option (List (ByteArray × Int) × Bool) :=
  (impl_copyLinks.f k a0).bind fun r1 => (impl_linkAt.f k a0 a1.2.1).bind fun r2 => bif (decide (a1.1 = 1)) then (bif (decide (a1.2.2.1 = (⟨#[]⟩ : ByteArray))) then (bif (decide (r2 < 0)) then ((impl_linked.f k r1 (a1.2.1, a1.2.2.2)).bind fun r3 => some (r3, true)) else (bif (decide (a1.1 = 2)) then (bif (decide (a1.2.2.2 = 0)) then (bif (decide (0 ≤ r2)) then (bif (!decide (a1.2.2.1 = a1.2.1)) then ((impl_isName.f k a1.2.2.1).bind fun r4 => bif r4 then ((slices_DeleteFunc_Link_impl_apply_in.f k r1 a1).bind fun r5 => (inb? a0.length r2).bind fun j6 => (a0[j6]?).bind fun y7 => (impl_linked.f k r5 (a1.2.2.1, y7.2)).bind fun r8 => some (r8, true)) else (bif (decide (a1.1 = 3)) then (bif (decide (a1.2.2.1 = (⟨#[]⟩ : ByteArray))) then (bif (decide (a1.2.2.2 = 0)) then (bif (decide (0 ≤ r2)) then ((slices_Delete_Link.f k r1 r2 (IntKind.wrap .i64 (r2 + 1))).bind fun r9 => some (r9, true)) else (some (r1, false))) else (some (r1, false))) else (some (r1, false))) else (some (r1, false)))) else (bif (decide (a1.1 = 3)) then (bif (decide (a1.2.2.1 = (⟨#[]⟩ : ByteArray))) then (bif (decide (a1.2.2.2 = 0)) then (bif (decide (0 ≤ r2)) then ((slices_Delete_Link.f k r1 r2 (IntKind.wrap .i64 (r2 + 1))).bind fun r10 => some (r10, true)) else (some (r1, false))) else (some (r1, false))) else (some (r1, false))) else (some (r1, false)))) else (bif (decide (a1.1 = 3)) then (bif (decide (a1.2.2.1 = (⟨#[]⟩ : ByteArray))) then (bif (decide (a1.2.2.2 = 0)) then (bif (decide (0 ≤ r2)) then ((slices_Delete_Link.f k r1 r2 (IntKind.wrap .i64 (r2 + 1))).bind fun r11 => some (r11, true)) else (some (r1, false))) else (some (r1, false))) else (some (r1, false))) else (some (r1, false)))) else (bif (decide (a1.1 = 3)) then (bif (decide (a1.2.2.1 = (⟨#[]⟩ : ByteArray))) then (bif (decide (a1.2.2.2 = 0)) then (bif (decide (0 ≤ r2)) then ((slices_Delete_Link.f k r1 r2 (IntKind.wrap .i64 (r2 + 1))).bind fun r12 => some (r12, true)) else (some (r1, false))) else (some (r1, false))) else (some (r1, false))) else (some (r1, false)))) else (bif (decide (a1.1 = 3)) then (bif (decide (a1.2.2.1 = (⟨#[]⟩ : ByteArray))) then (bif (decide (a1.2.2.2 = 0)) then (bif (decide (0 ≤ r2)) then ((slices_Delete_Link.f k r1 r2 (IntKind.wrap .i64 (r2 + 1))).bind fun r13 => some (r13, true)) else (some (r1, false))) else (some (r1, false))) else (some (r1, false))) else (some (r1, false))))) else (bif (decide (a1.1 = 2)) then (bif (decide (a1.2.2.2 = 0)) then (bif (decide (0 ≤ r2)) then (bif (!decide (a1.2.2.1 = a1.2.1)) then ((impl_isName.f k a1.2.2.1).bind fun r14 => bif r14 then ((slices_DeleteFunc_Link_impl_apply_in.f k r1 a1).bind fun r15 => (inb? a0.length r2).bind fun j16 => (a0[j16]?).bind fun y17 => (impl_linked.f k r15 (a1.2.2.1, y17.2)).bind fun r18 => some (r18, true)) else (bif (decide (a1.1 = 3)) then (bif (decide (a1.2.2.1 = (⟨#[]⟩ : ByteArray))) then (bif (decide (a1.2.2.2 = 0)) then (bif (decide (0 ≤ r2)) then ((slices_Delete_Link.f k r1 r2 (IntKind.wrap .i64 (r2 + 1))).bind fun r19 => some (r19, true)) else (some (r1, false))) else (some (r1, false))) else (some (r1, false))) else (some (r1, false)))) else (bif (decide (a1.1 = 3)) then (bif (decide (a1.2.2.1 = (⟨#[]⟩ : ByteArray))) then (bif (decide (a1.2.2.2 = 0)) then (bif (decide (0 ≤ r2)) then ((slices_Delete_Link.f k r1 r2 (IntKind.wrap .i64 (r2 + 1))).bind fun r20 => some (r20, true)) else (some (r1, false))) else (some (r1, false))) else (some (r1, false))) else (some (r1, false)))) else (bif (decide (a1.1 = 3)) then (bif (decide (a1.2.2.1 = (⟨#[]⟩ : ByteArray))) then (bif (decide (a1.2.2.2 = 0)) then (bif (decide (0 ≤ r2)) then ((slices_Delete_Link.f k r1 r2 (IntKind.wrap .i64 (r2 + 1))).bind fun r21 => some (r21, true)) else (some (r1, false))) else (some (r1, false))) else (some (r1, false))) else (some (r1, false)))) else (bif (decide (a1.1 = 3)) then (bif (decide (a1.2.2.1 = (⟨#[]⟩ : ByteArray))) then (bif (decide (a1.2.2.2 = 0)) then (bif (decide (0 ≤ r2)) then ((slices_Delete_Link.f k r1 r2 (IntKind.wrap .i64 (r2 + 1))).bind fun r22 => some (r22, true)) else (some (r1, false))) else (some (r1, false))) else (some (r1, false))) else (some (r1, false)))) else (bif (decide (a1.1 = 3)) then (bif (decide (a1.2.2.1 = (⟨#[]⟩ : ByteArray))) then (bif (decide (a1.2.2.2 = 0)) then (bif (decide (0 ≤ r2)) then ((slices_Delete_Link.f k r1 r2 (IntKind.wrap .i64 (r2 + 1))).bind fun r23 => some (r23, true)) else (some (r1, false))) else (some (r1, false))) else (some (r1, false))) else (some (r1, false))))) else (bif (decide (a1.1 = 2)) then (bif (decide (a1.2.2.2 = 0)) then (bif (decide (0 ≤ r2)) then (bif (!decide (a1.2.2.1 = a1.2.1)) then ((impl_isName.f k a1.2.2.1).bind fun r24 => bif r24 then ((slices_DeleteFunc_Link_impl_apply_in.f k r1 a1).bind fun r25 => (inb? a0.length r2).bind fun j26 => (a0[j26]?).bind fun y27 => (impl_linked.f k r25 (a1.2.2.1, y27.2)).bind fun r28 => some (r28, true)) else (bif (decide (a1.1 = 3)) then (bif (decide (a1.2.2.1 = (⟨#[]⟩ : ByteArray))) then (bif (decide (a1.2.2.2 = 0)) then (bif (decide (0 ≤ r2)) then ((slices_Delete_Link.f k r1 r2 (IntKind.wrap .i64 (r2 + 1))).bind fun r29 => some (r29, true)) else (some (r1, false))) else (some (r1, false))) else (some (r1, false))) else (some (r1, false)))) else (bif (decide (a1.1 = 3)) then (bif (decide (a1.2.2.1 = (⟨#[]⟩ : ByteArray))) then (bif (decide (a1.2.2.2 = 0)) then (bif (decide (0 ≤ r2)) then ((slices_Delete_Link.f k r1 r2 (IntKind.wrap .i64 (r2 + 1))).bind fun r30 => some (r30, true)) else (some (r1, false))) else (some (r1, false))) else (some (r1, false))) else (some (r1, false)))) else (bif (decide (a1.1 = 3)) then (bif (decide (a1.2.2.1 = (⟨#[]⟩ : ByteArray))) then (bif (decide (a1.2.2.2 = 0)) then (bif (decide (0 ≤ r2)) then ((slices_Delete_Link.f k r1 r2 (IntKind.wrap .i64 (r2 + 1))).bind fun r31 => some (r31, true)) else (some (r1, false))) else (some (r1, false))) else (some (r1, false))) else (some (r1, false)))) else (bif (decide (a1.1 = 3)) then (bif (decide (a1.2.2.1 = (⟨#[]⟩ : ByteArray))) then (bif (decide (a1.2.2.2 = 0)) then (bif (decide (0 ≤ r2)) then ((slices_Delete_Link.f k r1 r2 (IntKind.wrap .i64 (r2 + 1))).bind fun r32 => some (r32, true)) else (some (r1, false))) else (some (r1, false))) else (some (r1, false))) else (some (r1, false)))) else (bif (decide (a1.1 = 3)) then (bif (decide (a1.2.2.1 = (⟨#[]⟩ : ByteArray))) then (bif (decide (a1.2.2.2 = 0)) then (bif (decide (0 ≤ r2)) then ((slices_Delete_Link.f k r1 r2 (IntKind.wrap .i64 (r2 + 1))).bind fun r33 => some (r33, true)) else (some (r1, false))) else (some (r1, false))) else (some (r1, false))) else (some (r1, false))))

def impl_apply.sig : Sig := ⟨[.val false (.sl 118 (.pair .str (.int .i64))), .val true (.pair (.int .i64) (.pair .str (.pair .str (.int .i64))))], [⟨false, (.sl 118 (.pair .str (.int .i64))), true⟩, ⟨false, .bool, true⟩]⟩
def impl_apply.fn : Fn := ⟨impl_apply.sig, fun k (x : List (ByteArray × Int) × Int × ByteArray × ByteArray × Int) => impl_apply.f k x.1 x.2⟩
noncomputable def impl_apply.env (k : Nat) : Env := ⟨Tryz.prog, 96, fun t => none, look [(127, impl_copyLinks.fn), (113, impl_linkAt.fn), (147, impl_linked.fn), (125, impl_isName.fn), (148, slices_DeleteFunc_Link_impl_apply_in.fn), (150, slices_Delete_Link.fn)], k, impl_apply.sig.pin, lookM []⟩
def impl_apply.ann : Ann := .seq .leaf (.seq .leaf (.seq .leaf (.seq (.blk (.seq .leaf (.cond (.seq .leaf .leaf) (.seq .leaf (.cond (.seq .leaf (.seq .leaf .leaf)) (.seq .leaf (.cond (.seq .leaf .leaf) .leaf))))))) (.seq .leaf .leaf))))
theorem impl_apply.ok (k : Nat) : FnOk Tryz.prog k 128 impl_apply.fn :=
  fnOk_of (E := impl_apply.env k) (ann := impl_apply.ann) ⟨look_cons (impl_copyLinks.ok k) (look_cons (impl_linkAt.ok k) (look_cons (impl_linked.ok k) (look_cons (impl_isName.ok k) (look_cons (slices_DeleteFunc_Link_impl_apply_in.ok k) (look_cons (slices_Delete_Link.ok k) (look_nil)))))), lookM_nil⟩ (by kernel_rfl) Tryz.func128 (by kernel_rfl) (by kernel_rfl) (by kernel_rfl) (of_decide_eq_true (by kernel_rfl)) (of_decide_eq_true (by kernel_rfl)) (fun _ h => h) (fun x => by kernel_rfl)

/-! (loop.example/g00358/impl.Disk).linksOk -/
def impl_Disk_linksOk.c0 (k : Nat) (y : Bool × List Int × List (ByteArray × Int) × Int × Int × (Int × Int × List (Int × ByteArray × Int) × List (ByteArray × Int) × List (Int × ByteArray × ByteArray × Int)) × ByteArray × Int) : Option ((Bool × List Int × List (ByteArray × Int) × Int × Int × Int × Int × List (Int × ByteArray × Int) × List (ByteArray × Int) × List (Int × ByteArray × ByteArray × Int)) ⊕ (Bool × List Int × Int × Int × List (Int × ByteArray × Int) × List (ByteArray × Int) × List (Int × ByteArray × ByteArray × Int)) ⊕ Bool) :=
  (app? (limOf 8) y.2.1 ([y.2.2.2.2.2.2.2])).bind fun l1 => some (.inl (y.1, l1, y.2.2.1, y.2.2.2.1, IntKind.wrap .i64 (y.2.2.2.2.1 + 1), y.2.2.2.2.2.1))

def impl_Disk_linksOk.b0 (k : Nat) (s : Bool × List Int × List (ByteArray × Int) × Int × Int × Int × Int × List (Int × ByteArray × Int) × List (ByteArray × Int) × List (Int × ByteArray × ByteArray × Int)) : Option ((Bool × List Int × List (ByteArray × Int) × Int × Int × Int × Int × List (Int × ByteArray × Int) × List (ByteArray × Int) × List (Int × ByteArray × ByteArray × Int)) ⊕ (Bool × List Int × Int × Int × List (Int × ByteArray × Int) × List (ByteArray × Int) × List (Int × ByteArray × ByteArray × Int)) ⊕ Bool) :=
  bif (decide (s.2.2.2.2.1 < s.2.2.2.1)) then ((inb? s.2.2.1.length s.2.2.2.2.1).bind fun j1 => (s.2.2.1[j1]?).bind fun y2 => Option.bind (α := (Bool × List Int × List (ByteArray × Int) × Int × Int × (Int × Int × List (Int × ByteArray × Int) × List (ByteArray × Int) × List (Int × ByteArray × ByteArray × Int)) × ByteArray × Int) ⊕ Bool) ((impl_isName.f k y2.1).bind fun r3 => bif (!r3) then (some (.inr false)) else (bif (decide (0 < s.2.2.2.2.1)) then ((inb? s.2.2.2.2.2.2.2.2.1.length (IntKind.wrap .i64 (s.2.2.2.2.1 - 1))).bind fun j4 => (s.2.2.2.2.2.2.2.2.1[j4]?).bind fun y5 => bif (!strLt y5.1 y2.1) then (some (.inr false)) else ((impl_Disk_at.f k s.2.2.2.2.2 y2.2).bind fun r6 => bif (decide (r6 < 0)) then (some (.inr false)) else ((slices_Contains.f k s.2.1 y2.2).bind fun r7 => bif r7 then (some (.inr false)) else (some (.inl (s.1, s.2.1, s.2.2.1, s.2.2.2.1, s.2.2.2.2.1, s.2.2.2.2.2, y2)))))) else ((impl_Disk_at.f k s.2.2.2.2.2 y2.2).bind fun r8 => bif (decide (r8 < 0)) then (some (.inr false)) else ((slices_Contains.f k s.2.1 y2.2).bind fun r9 => bif r9 then (some (.inr false)) else (some (.inl (s.1, s.2.1, s.2.2.1, s.2.2.2.1, s.2.2.2.2.1, s.2.2.2.2.2, y2))))))) fun r => match r with | .inl y => impl_Disk_linksOk.c0 k y | .inr o => some (.inr (.inr o))) else (some (.inr (.inl (s.1, s.2.1, s.2.2.2.2.2))))

def impl_Disk_linksOk.b1 (k : Nat) (s : Bool × List Int × List (ByteArray × Int) × List (Int × ByteArray × ByteArray × Int) × Int × Int × Int × Int × List (Int × ByteArray × Int) × List (ByteArray × Int) × List (Int × ByteArray × ByteArray × Int)) : Option ((Bool × List Int × List (ByteArray × Int) × List (Int × ByteArray × ByteArray × Int) × Int × Int × Int × Int × List (Int × ByteArray × Int) × List (ByteArray × Int) × List (Int × ByteArray × ByteArray × Int)) ⊕ (Bool × List Int × Int × Int × List (Int × ByteArray × Int) × List (ByteArray × Int) × List (Int × ByteArray × ByteArray × Int)) ⊕ Bool) :=
  bif (decide (s.2.2.2.2.2.1 < s.2.2.2.2.1)) then ((inb? s.2.2.2.1.length s.2.2.2.2.2.1).bind fun j1 => (s.2.2.2.1[j1]?).bind fun y2 => (impl_apply.f k s.2.2.1 y2).bind fun r3 => bif (!r3.2) then (some (.inr (.inr false))) else ((impl_isName.f k y2.2.1).bind fun r4 => bif (!r4) then (some (.inr (.inr false))) else (bif (decide (y2.1 = 1)) then ((impl_Disk_at.f k s.2.2.2.2.2.2 y2.2.2.2).bind fun r5 => bif (decide (r5 < 0)) then (some (.inr (.inr false))) else ((slices_Contains.f k s.2.1 y2.2.2.2).bind fun r6 => bif r6 then (some (.inr (.inr false))) else ((app? (limOf 8) s.2.1 ([y2.2.2.2])).bind fun l7 => some (.inl (s.1, l7, r3.1, s.2.2.2.1, s.2.2.2.2.1, IntKind.wrap .i64 (s.2.2.2.2.2.1 + 1), s.2.2.2.2.2.2))))) else (some (.inl (s.1, s.2.1, r3.1, s.2.2.2.1, s.2.2.2.2.1, IntKind.wrap .i64 (s.2.2.2.2.2.1 + 1), s.2.2.2.2.2.2)))))) else (some (.inr (.inl (s.1, s.2.1, s.2.2.2.2.2.2))))

def impl_Disk_linksOk.d1 (k : Nat) (y : Bool × List Int × Int × Int × List (Int × ByteArray × Int) × List (ByteArray × Int) × List (Int × ByteArray × ByteArray × Int)) : Option Bool :=
  some (decide ((y.2.1.length : Int) = (y.2.2.2.2.1.length : Int)))

def impl_Disk_linksOk.d0 (k : Nat) (y : Bool × List Int × Int × Int × List (Int × ByteArray × Int) × List (ByteArray × Int) × List (Int × ByteArray × ByteArray × Int)) : Option Bool :=
  (impl_copyLinks.f k y.2.2.2.2.2.1).bind fun r1 => (iter (X := (Bool × List Int × Int × Int × List (Int × ByteArray × Int) × List (ByteArray × Int) × List (Int × ByteArray × ByteArray × Int)) ⊕ Bool) (impl_Disk_linksOk.b1 k) k (y.1, y.2.1, r1, y.2.2.2.2.2.2, (y.2.2.2.2.2.2.length : Int), 0, y.2.2)).bind fun r => match r with | .inl y => impl_Disk_linksOk.d1 k y | .inr o => some o

def impl_Disk_linksOk.f (k : Nat) (a0 : Int × Int × List (Int × ByteArray × Int) × List (ByteArray × Int) × List (Int × ByteArray × ByteArray × Int)) : Option Bool :=
  (iter (X := (Bool × List Int × Int × Int × List (Int × ByteArray × Int) × List (ByteArray × Int) × List (Int × ByteArray × ByteArray × Int)) ⊕ Bool) (impl_Disk_linksOk.b0 k) k (false, [], a0.2.2.2.1, (a0.2.2.2.1.length : Int), 0, a0)).bind fun r => match r with | .inl y => impl_Disk_linksOk.d0 k y | .inr o => some o

def impl_Disk_linksOk.sig : Sig := ⟨[.val true (.pair (.int .i64) (.pair (.int .i64) (.pair (.sl 115 (.pair (.int .i64) (.pair .str (.int .i64)))) (.pair (.sl 118 (.pair .str (.int .i64))) (.sl 120 (.pair (.int .i64) (.pair .str (.pair .str (.int .i64)))))))))], [⟨false, .bool, true⟩]⟩
def impl_Disk_linksOk.fn : Fn := ⟨impl_Disk_linksOk.sig, fun k (x : Int × Int × List (Int × ByteArray × Int) × List (ByteArray × Int) × List (Int × ByteArray × ByteArray × Int)) => impl_Disk_linksOk.f k x⟩
noncomputable def impl_Disk_linksOk.env (k : Nat) : Env := ⟨Tryz.prog, 110, fun t => bif Nat.beq t 3 then some (.int .i64) else none, look [(125, impl_isName.fn), (114, impl_Disk_at.fn), (126, slices_Contains.fn), (127, impl_copyLinks.fn), (128, impl_apply.fn)], k, impl_Disk_linksOk.sig.pin, lookM []⟩
def impl_Disk_linksOk.ann : Ann := .seq .leaf (.seq .leaf (.seq (.seq .leaf (.loop [.ptr 1 1000, .slot 2 false .bool false, .slot 3 false (.sl 3 (.int .i64)) true, .slot 13 false (.sl 118 (.pair .str (.int .i64))) false, .slot 14 false (.int .i64) false, .slot 15 false (.int .i64) false, .box 1000 41 (.pair (.int .i64) (.pair (.int .i64) (.pair (.sl 115 (.pair (.int .i64) (.pair .str (.int .i64)))) (.pair (.sl 118 (.pair .str (.int .i64))) (.sl 120 (.pair (.int .i64) (.pair .str (.pair .str (.int .i64))))))))) false false] [.ptr 1 1000, .slot 2 false .bool false, .slot 3 false (.sl 3 (.int .i64)) true, .box 1000 41 (.pair (.int .i64) (.pair (.int .i64) (.pair (.sl 115 (.pair (.int .i64) (.pair .str (.int .i64)))) (.pair (.sl 118 (.pair .str (.int .i64))) (.sl 120 (.pair (.int .i64) (.pair .str (.pair .str (.int .i64))))))))) false false] (.seq .leaf (.seq (.cond .leaf .leaf) (.seq (.blk (.seq .leaf (.seq (.cut [.ptr 1 1000, .slot 2 false .bool false, .slot 3 false (.sl 3 (.int .i64)) true, .ptr 5 5003, .slot 13 false (.sl 118 (.pair .str (.int .i64))) false, .slot 14 false (.int .i64) false, .slot 15 false (.int .i64) false, .box 1000 41 (.pair (.int .i64) (.pair (.int .i64) (.pair (.sl 115 (.pair (.int .i64) (.pair .str (.int .i64)))) (.pair (.sl 118 (.pair .str (.int .i64))) (.sl 120 (.pair (.int .i64) (.pair .str (.pair .str (.int .i64))))))))) false false, .box 5003 118 (.pair .str (.int .i64)) false false] (.seq .leaf (.cond (.seq .leaf .leaf) .leaf))) .leaf))) .leaf))))) (.seq .leaf (.seq (.seq .leaf (.loop [.ptr 1 1000, .slot 2 false .bool false, .slot 3 false (.sl 3 (.int .i64)) true, .slot 6 false (.sl 118 (.pair .str (.int .i64))) true, .slot 63 false (.sl 120 (.pair (.int .i64) (.pair .str (.pair .str (.int .i64))))) false, .slot 64 false (.int .i64) false, .slot 65 false (.int .i64) false, .box 1000 41 (.pair (.int .i64) (.pair (.int .i64) (.pair (.sl 115 (.pair (.int .i64) (.pair .str (.int .i64)))) (.pair (.sl 118 (.pair .str (.int .i64))) (.sl 120 (.pair (.int .i64) (.pair .str (.pair .str (.int .i64))))))))) false false] [.ptr 1 1000, .slot 2 false .bool false, .slot 3 false (.sl 3 (.int .i64)) true, .box 1000 41 (.pair (.int .i64) (.pair (.int .i64) (.pair (.sl 115 (.pair (.int .i64) (.pair .str (.int .i64)))) (.pair (.sl 118 (.pair .str (.int .i64))) (.sl 120 (.pair (.int .i64) (.pair .str (.pair .str (.int .i64))))))))) false false] (.seq .leaf (.seq (.cond .leaf .leaf) (.seq (.blk (.seq .leaf (.seq .leaf (.seq (.seq .leaf (.cond (.seq .leaf .leaf) .leaf)) (.seq (.seq .leaf (.cond (.seq (.seq .leaf (.cond (.seq .leaf .leaf) .leaf)) .leaf) .leaf)) .leaf))))) .leaf))))) (.seq .leaf .leaf)))))
theorem impl_Disk_linksOk.ok (k : Nat) : FnOk Tryz.prog k 87 impl_Disk_linksOk.fn :=
  fnOk_of (E := impl_Disk_linksOk.env k) (ann := impl_Disk_linksOk.ann) ⟨look_cons (impl_isName.ok k) (look_cons (impl_Disk_at.ok k) (look_cons (slices_Contains.ok k) (look_cons (impl_copyLinks.ok k) (look_cons (impl_apply.ok k) (look_nil))))), lookM_nil⟩ (by kernel_rfl) Tryz.func87 (by kernel_rfl) (by kernel_rfl) (by kernel_rfl) (of_decide_eq_true (by kernel_rfl)) (of_decide_eq_true (by kernel_rfl)) (fun _ h => h) (fun x => by kernel_rfl)

/-! loop.example/g00358/impl.DiskOk -/
def impl_DiskOk.b0 (k : Nat) (s : Bool × List (Int × ByteArray × Int) × Int × Int × Int × Int × List (Int × ByteArray × Int) × List (ByteArray × Int) × List (Int × ByteArray × ByteArray × Int)) : Option ((Bool × List (Int × ByteArray × Int) × Int × Int × Int × Int × List (Int × ByteArray × Int) × List (ByteArray × Int) × List (Int × ByteArray × ByteArray × Int)) ⊕ (Bool × Int × Int × List (Int × ByteArray × Int) × List (ByteArray × Int) × List (Int × ByteArray × ByteArray × Int)) ⊕ Bool) :=
  bif (decide (s.2.2.2.1 < s.2.2.1)) then ((inb? s.2.1.length s.2.2.2.1).bind fun j1 => (s.2.1[j1]?).bind fun y2 => (impl_within.f k y2.1 1 (IntKind.wrap .i64 (s.2.2.2.2.2.1 - 1))).bind fun r3 => bif (!r3) then (some (.inr (.inr false))) else (bif (decide (0 < s.2.2.2.1)) then ((inb? s.2.2.2.2.2.2.1.length (IntKind.wrap .i64 (s.2.2.2.1 - 1))).bind fun j4 => (s.2.2.2.2.2.2.1[j4]?).bind fun y5 => bif (decide (y2.1 ≤ y5.1)) then (some (.inr (.inr false))) else ((impl_within.f k y2.2.2 0 (y2.2.1.size : Int)).bind fun r6 => bif (!r6) then (some (.inr (.inr false))) else (some (.inl (s.1, s.2.1, s.2.2.1, IntKind.wrap .i64 (s.2.2.2.1 + 1), s.2.2.2.2))))) else ((impl_within.f k y2.2.2 0 (y2.2.1.size : Int)).bind fun r7 => bif (!r7) then (some (.inr (.inr false))) else (some (.inl (s.1, s.2.1, s.2.2.1, IntKind.wrap .i64 (s.2.2.2.1 + 1), s.2.2.2.2)))))) else (some (.inr (.inl (s.1, s.2.2.2.2))))

def impl_DiskOk.d0 (k : Nat) (y : Bool × Int × Int × List (Int × ByteArray × Int) × List (ByteArray × Int) × List (Int × ByteArray × ByteArray × Int)) : Option Bool :=
  (impl_Disk_linksOk.f k y.2).bind fun r1 => some r1

def impl_DiskOk.f (k : Nat) (a0 : Int × Int × List (Int × ByteArray × Int) × List (ByteArray × Int) × List (Int × ByteArray × ByteArray × Int)) : Option Bool :=
  (impl_within.f k a0.1 0 1048576).bind fun r1 => bif (!r1) then (some false) else ((impl_within.f k a0.2.1 1 1000000).bind fun r2 => bif (!r2) then (some false) else (bif (decide (10 < (a0.2.2.1.length : Int))) then (some false) else ((impl_Disk_size.f k a0).bind fun r3 => bif (decide (a0.1 < r3)) then (some false) else (bif (decide (20 < (a0.2.2.2.2.length : Int))) then (some false) else ((iter (X := (Bool × Int × Int × List (Int × ByteArray × Int) × List (ByteArray × Int) × List (Int × ByteArray × ByteArray × Int)) ⊕ Bool) (impl_DiskOk.b0 k) k (false, a0.2.2.1, (a0.2.2.1.length : Int), 0, a0)).bind fun r => match r with | .inl y => impl_DiskOk.d0 k y | .inr o => some o)))))

def impl_DiskOk.sig : Sig := ⟨[.val true (.pair (.int .i64) (.pair (.int .i64) (.pair (.sl 115 (.pair (.int .i64) (.pair .str (.int .i64)))) (.pair (.sl 118 (.pair .str (.int .i64))) (.sl 120 (.pair (.int .i64) (.pair .str (.pair .str (.int .i64)))))))))], [⟨false, .bool, true⟩]⟩
def impl_DiskOk.fn : Fn := ⟨impl_DiskOk.sig, fun k (x : Int × Int × List (Int × ByteArray × Int) × List (ByteArray × Int) × List (Int × ByteArray × ByteArray × Int)) => impl_DiskOk.f k x⟩
noncomputable def impl_DiskOk.env (k : Nat) : Env := ⟨Tryz.prog, 77, fun t => none, look [(85, impl_within.fn), (86, impl_Disk_size.fn), (87, impl_Disk_linksOk.fn)], k, impl_DiskOk.sig.pin, lookM []⟩
def impl_DiskOk.ann : Ann := .seq .leaf (.seq (.seq .leaf (.cond (.seq .leaf .leaf) .leaf)) (.seq (.seq .leaf (.loop [.ptr 1 1000, .slot 2 false .bool false, .slot 35 false (.sl 115 (.pair (.int .i64) (.pair .str (.int .i64)))) false, .slot 36 false (.int .i64) false, .slot 37 false (.int .i64) false, .box 1000 41 (.pair (.int .i64) (.pair (.int .i64) (.pair (.sl 115 (.pair (.int .i64) (.pair .str (.int .i64)))) (.pair (.sl 118 (.pair .str (.int .i64))) (.sl 120 (.pair (.int .i64) (.pair .str (.pair .str (.int .i64))))))))) false false] [.ptr 1 1000, .slot 2 false .bool false, .box 1000 41 (.pair (.int .i64) (.pair (.int .i64) (.pair (.sl 115 (.pair (.int .i64) (.pair .str (.int .i64)))) (.pair (.sl 118 (.pair .str (.int .i64))) (.sl 120 (.pair (.int .i64) (.pair .str (.pair .str (.int .i64))))))))) false false] (.seq .leaf (.seq (.cond .leaf .leaf) (.seq (.blk (.seq .leaf (.seq .leaf (.cond (.seq .leaf .leaf) .leaf)))) .leaf))))) (.seq .leaf .leaf)))
theorem impl_DiskOk.ok (k : Nat) : FnOk Tryz.prog k 39 impl_DiskOk.fn :=
  fnOk_of (E := impl_DiskOk.env k) (ann := impl_DiskOk.ann) ⟨look_cons (impl_within.ok k) (look_cons (impl_Disk_size.ok k) (look_cons (impl_Disk_linksOk.ok k) (look_nil))), lookM_nil⟩ (by kernel_rfl) Tryz.func39 (by kernel_rfl) (by kernel_rfl) (by kernel_rfl) (of_decide_eq_true (by kernel_rfl)) (of_decide_eq_true (by kernel_rfl)) (fun _ h => h) (fun x => by kernel_rfl)

/-! (loop.example/g00358/impl.Disk).names -/
def impl_Disk_names.b0 (k : Nat) (s : List (ByteArray × Int) × List (ByteArray × Int) × List (Int × ByteArray × ByteArray × Int) × Int × Int) : Option ((List (ByteArray × Int) × List (ByteArray × Int) × List (Int × ByteArray × ByteArray × Int) × Int × Int) ⊕ (List (ByteArray × Int) × List (ByteArray × Int)) ⊕ (List (ByteArray × Int))) :=
  bif (decide (s.2.2.2.2 < s.2.2.2.1)) then ((inb? s.2.2.1.length s.2.2.2.2).bind fun j1 => (s.2.2.1[j1]?).bind fun y2 => (impl_apply.f k s.2.1 y2).bind fun r3 => some (.inl (s.1, r3.1, s.2.2.1, s.2.2.2.1, IntKind.wrap .i64 (s.2.2.2.2 + 1)))) else (some (.inr (.inl (s.1, s.2.1))))

def impl_Disk_names.d0 (k : Nat) (y : List (ByteArray × Int) × List (ByteArray × Int)) : Option (List (ByteArray × Int)) :=
  some y.2

def impl_Disk_names.f (k : Nat) (a0 : Int × Int × List (Int × ByteArray × Int) × List (ByteArray × Int) × List (Int × ByteArray × ByteArray × Int)) (a1 : Int) : Option (List (ByteArray × Int)) :=
  (impl_copyLinks.f k a0.2.2.2.1).bind fun r1 => (cut? a0.2.2.2.2.length 0 a1).bind fun p2 => (iter (X := (List (ByteArray × Int) × List (ByteArray × Int)) ⊕ (List (ByteArray × Int))) (impl_Disk_names.b0 k) k ([], r1, (a0.2.2.2.2.take p2.2).drop p2.1, (((a0.2.2.2.2.take p2.2).drop p2.1).length : Int), 0)).bind fun r => match r with | .inl y => impl_Disk_names.d0 k y | .inr o => some o

def impl_Disk_names.sig : Sig := ⟨[.val true (.pair (.int .i64) (.pair (.int .i64) (.pair (.sl 115 (.pair (.int .i64) (.pair .str (.int .i64)))) (.pair (.sl 118 (.pair .str (.int .i64))) (.sl 120 (.pair (.int .i64) (.pair .str (.pair .str (.int .i64))))))))), .val false (.int .i64)], [⟨false, (.sl 118 (.pair .str (.int .i64))), true⟩]⟩
def impl_Disk_names.fn : Fn := ⟨impl_Disk_names.sig, fun k (x : (Int × Int × List (Int × ByteArray × Int) × List (ByteArray × Int) × List (Int × ByteArray × ByteArray × Int)) × Int) => impl_Disk_names.f k x.1 x.2⟩
noncomputable def impl_Disk_names.env (k : Nat) : Env := ⟨Tryz.prog, 28, fun t => none, look [(127, impl_copyLinks.fn), (128, impl_apply.fn)], k, impl_Disk_names.sig.pin, lookM []⟩
def impl_Disk_names.ann : Ann := .seq .leaf (.seq .leaf (.seq (.seq .leaf (.loop [.slot 4 false (.sl 118 (.pair .str (.int .i64))) true, .slot 5 false (.sl 118 (.pair .str (.int .i64))) true, .slot 14 false (.sl 120 (.pair (.int .i64) (.pair .str (.pair .str (.int .i64))))) false, .slot 15 false (.int .i64) false, .slot 16 false (.int .i64) false] [.slot 4 false (.sl 118 (.pair .str (.int .i64))) true, .slot 5 false (.sl 118 (.pair .str (.int .i64))) true] (.seq .leaf (.seq (.cond .leaf .leaf) (.seq (.blk (.seq .leaf .leaf)) .leaf))))) (.seq .leaf .leaf)))
theorem impl_Disk_names.ok (k : Nat) : FnOk Tryz.prog k 140 impl_Disk_names.fn :=
  fnOk_of (E := impl_Disk_names.env k) (ann := impl_Disk_names.ann) ⟨look_cons (impl_copyLinks.ok k) (look_cons (impl_apply.ok k) (look_nil)), lookM_nil⟩ (by kernel_rfl) Tryz.func140 (by kernel_rfl) (by kernel_rfl) (by kernel_rfl) (of_decide_eq_true (by kernel_rfl)) (of_decide_eq_true (by kernel_rfl)) (fun _ h => h) (fun x => by kernel_rfl)

/-! (loop.example/g00358/impl.Disk).now -/
def impl_Disk_now.f (k : Nat) (a0 : Int × Int × List (Int × ByteArray × Int) × List (ByteArray × Int) × List (Int × ByteArray × ByteArray × Int)) : Option (List (ByteArray × Int)) :=
  (impl_Disk_names.f k a0 (a0.2.2.2.2.length : Int)).bind fun r1 => some r1

def impl_Disk_now.sig : Sig := ⟨[.val true (.pair (.int .i64) (.pair (.int .i64) (.pair (.sl 115 (.pair (.int .i64) (.pair .str (.int .i64)))) (.pair (.sl 118 (.pair .str (.int .i64))) (.sl 120 (.pair (.int .i64) (.pair .str (.pair .str (.int .i64)))))))))], [⟨false, (.sl 118 (.pair .str (.int .i64))), true⟩]⟩
def impl_Disk_now.fn : Fn := ⟨impl_Disk_now.sig, fun k (x : Int × Int × List (Int × ByteArray × Int) × List (ByteArray × Int) × List (Int × ByteArray × ByteArray × Int)) => impl_Disk_now.f k x⟩
noncomputable def impl_Disk_now.env (k : Nat) : Env := ⟨Tryz.prog, 8, fun t => none, look [(140, impl_Disk_names.fn)], k, impl_Disk_now.sig.pin, lookM []⟩
def impl_Disk_now.ann : Ann := .seq .leaf (.seq .leaf .leaf)
theorem impl_Disk_now.ok (k : Nat) : FnOk Tryz.prog k 112 impl_Disk_now.fn :=
  fnOk_of (E := impl_Disk_now.env k) (ann := impl_Disk_now.ann) ⟨look_cons (impl_Disk_names.ok k) (look_nil), lookM_nil⟩ (by kernel_rfl) Tryz.func112 (by kernel_rfl) (by kernel_rfl) (by kernel_rfl) (of_decide_eq_true (by kernel_rfl)) (of_decide_eq_true (by kernel_rfl)) (fun _ h => h) (fun x => by kernel_rfl)

/-! (loop.example/g00358/impl.Disk).file -/
def impl_Disk_file.f (k : Nat) (a0 : Int × Int × List (Int × ByteArray × Int) × List (ByteArray × Int) × List (Int × ByteArray × ByteArray × Int)) (a1 : ByteArray) : Option Int :=
  (impl_Disk_now.f k a0).bind fun r1 => (impl_linkAt.f k r1 a1).bind fun r2 => bif (decide (r2 < 0)) then (some (-1)) else ((inb? r1.length r2).bind fun j3 => (r1[j3]?).bind fun y4 => (impl_Disk_at.f k a0 y4.2).bind fun r5 => some r5)

def impl_Disk_file.sig : Sig := ⟨[.val true (.pair (.int .i64) (.pair (.int .i64) (.pair (.sl 115 (.pair (.int .i64) (.pair .str (.int .i64)))) (.pair (.sl 118 (.pair .str (.int .i64))) (.sl 120 (.pair (.int .i64) (.pair .str (.pair .str (.int .i64))))))))), .val false .str], [⟨false, (.int .i64), true⟩]⟩
def impl_Disk_file.fn : Fn := ⟨impl_Disk_file.sig, fun k (x : (Int × Int × List (Int × ByteArray × Int) × List (ByteArray × Int) × List (Int × ByteArray × ByteArray × Int)) × ByteArray) => impl_Disk_file.f k x.1 x.2⟩
noncomputable def impl_Disk_file.env (k : Nat) : Env := ⟨Tryz.prog, 21, fun t => none, look [(112, impl_Disk_now.fn), (113, impl_linkAt.fn), (114, impl_Disk_at.fn)], k, impl_Disk_file.sig.pin, lookM []⟩
def impl_Disk_file.ann : Ann := .seq .leaf (.seq .leaf (.seq .leaf (.seq (.seq .leaf (.cond (.seq .leaf .leaf) .leaf)) (.seq .leaf .leaf))))
theorem impl_Disk_file.ok (k : Nat) : FnOk Tryz.prog k 60 impl_Disk_file.fn :=
  fnOk_of (E := impl_Disk_file.env k) (ann := impl_Disk_file.ann) ⟨look_cons (impl_Disk_now.ok k) (look_cons (impl_linkAt.ok k) (look_cons (impl_Disk_at.ok k) (look_nil))), lookM_nil⟩ (by kernel_rfl) Tryz.func60 (by kernel_rfl) (by kernel_rfl) (by kernel_rfl) (of_decide_eq_true (by kernel_rfl)) (of_decide_eq_true (by kernel_rfl)) (fun _ h => h) (fun x => by kernel_rfl)

/-! loop.example/g00358/impl.Load -/
def impl_Load.f (k : Nat) (a0 : Int × Int × List (Int × ByteArray × Int) × List (ByteArray × Int) × List (Int × ByteArray × ByteArray × Int)) (a1 : ByteArray) : Option (ByteArray × Bool) :=
  (impl_DiskOk.f k a0).bind fun r1 => bif (!r1) then (some ((⟨#[]⟩ : ByteArray), false)) else ((impl_Disk_file.f k a0 a1).bind fun r2 => bif (decide (r2 < 0)) then (some ((⟨#[]⟩ : ByteArray), false)) else ((impl_Disk_file.f k a0 a1).bind fun r3 => (inb? a0.2.2.1.length r3).bind fun j4 => (a0.2.2.1[j4]?).bind fun y5 => some (y5.2.1, true)))

def impl_Load.sig : Sig := ⟨[.val true (.pair (.int .i64) (.pair (.int .i64) (.pair (.sl 115 (.pair (.int .i64) (.pair .str (.int .i64)))) (.pair (.sl 118 (.pair .str (.int .i64))) (.sl 120 (.pair (.int .i64) (.pair .str (.pair .str (.int .i64))))))))), .val false .str], [⟨false, .str, true⟩, ⟨false, .bool, true⟩]⟩
def impl_Load.fn : Fn := ⟨impl_Load.sig, fun k (x : (Int × Int × List (Int × ByteArray × Int) × List (ByteArray × Int) × List (Int × ByteArray × ByteArray × Int)) × ByteArray) => impl_Load.f k x.1 x.2⟩
noncomputable def impl_Load.env (k : Nat) : Env := ⟨Tryz.prog, 23, fun t => none, look [(39, impl_DiskOk.fn), (60, impl_Disk_file.fn)], k, impl_Load.sig.pin, lookM []⟩
def impl_Load.ann : Ann := .seq .leaf (.seq (.seq .leaf (.cond (.seq .leaf .leaf) .leaf)) (.seq .leaf .leaf))
theorem impl_Load.ok (k : Nat) : FnOk Tryz.prog k 57 impl_Load.fn :=
  fnOk_of (E := impl_Load.env k) (ann := impl_Load.ann) ⟨look_cons (impl_DiskOk.ok k) (look_cons (impl_Disk_file.ok k) (look_nil)), lookM_nil⟩ (by kernel_rfl) Tryz.func57 (by kernel_rfl) (by kernel_rfl) (by kernel_rfl) (of_decide_eq_true (by kernel_rfl)) (of_decide_eq_true (by kernel_rfl)) (fun _ h => h) (fun x => by kernel_rfl)

/-! loop.example/g00358/impl.ReadFixed -/
def impl_ReadFixed.b0 (k : Nat) (s : ByteArray × Int × Int × Bool × Int × Int) : Option ((ByteArray × Int × Int × Bool × Int × Int) ⊕ (Int × Bool × Int) ⊕ (Int × Bool)) :=
  bif (decide (s.2.2.2.2.2 < s.2.1)) then ((inb? s.1.size s.2.2.2.2.2).bind fun j1 => some (.inl (s.1, s.2.1, s.2.2.1, s.2.2.2.1, bits .or .i64 (IntKind.wrap .i64 (s.2.2.2.2.1 * 2 ^ (min (8 : Int).toNat (IntKind.bits .i64)))) (IntKind.wrap .i64 (byteAt s.1 j1)), IntKind.wrap .i64 (s.2.2.2.2.2 + 1)))) else (some (.inr (.inl (s.2.2.1, s.2.2.2.1, s.2.2.2.2.1))))

def impl_ReadFixed.d0 (k : Nat) (y : Int × Bool × Int) : Option (Int × Bool) :=
  some (y.2.2, true)

def impl_ReadFixed.f (k : Nat) (a0 : ByteArray) (a1 : Int) : Option (Int × Bool) :=
  (impl_within.f k a1 1 7).bind fun r1 => bif (!r1) then (some (0, false)) else (bif (decide ((a0.size : Int) < a1)) then (some (0, false)) else ((iter (X := (Int × Bool × Int) ⊕ (Int × Bool)) (impl_ReadFixed.b0 k) k (a0, a1, 0, false, 0, 0)).bind fun r => match r with | .inl y => impl_ReadFixed.d0 k y | .inr o => some o))

def impl_ReadFixed.sig : Sig := ⟨[.val false .str, .val false (.int .i64)], [⟨false, (.int .i64), true⟩, ⟨false, .bool, true⟩]⟩
def impl_ReadFixed.fn : Fn := ⟨impl_ReadFixed.sig, fun k (x : ByteArray × Int) => impl_ReadFixed.f k x.1 x.2⟩
noncomputable def impl_ReadFixed.env (k : Nat) : Env := ⟨Tryz.prog, 30, fun t => none, look [(85, impl_within.fn)], k, impl_ReadFixed.sig.pin, lookM []⟩
def impl_ReadFixed.ann : Ann := .seq .leaf (.seq (.seq .leaf (.cond (.seq .leaf .leaf) .leaf)) (.seq .leaf (.seq (.seq .leaf (.loop [.slot 0 false .str false, .slot 1 false (.int .i64) false, .slot 4 false (.int .i64) false, .slot 5 false .bool false, .slot 6 false (.int .i64) false, .slot 7 false (.int .i64) false] [.slot 4 false (.int .i64) false, .slot 5 false .bool false, .slot 6 false (.int .i64) false] (.seq (.seq .leaf (.cond .leaf .leaf)) (.seq (.blk .leaf) .leaf)))) (.seq .leaf .leaf))))
theorem impl_ReadFixed.ok (k : Nat) : FnOk Tryz.prog k 111 impl_ReadFixed.fn :=
  fnOk_of (E := impl_ReadFixed.env k) (ann := impl_ReadFixed.ann) ⟨look_cons (impl_within.ok k) (look_nil), lookM_nil⟩ (by kernel_rfl) Tryz.func111 (by kernel_rfl) (by kernel_rfl) (by kernel_rfl) (of_decide_eq_true (by kernel_rfl)) (of_decide_eq_true (by kernel_rfl)) (fun _ h => h) (fun x => by kernel_rfl)

/-! loop.example/g00358/impl.Fixed -/
def impl_Fixed.b0 (k : Nat) (s : Int × ByteArray × List Int × Int) : Option ((Int × ByteArray × List Int × Int) ⊕ (ByteArray × List Int) ⊕ ByteArray) :=
  bif (decide (0 ≤ s.2.2.2)) then ((inb? s.2.2.1.length s.2.2.2).bind fun j1 => (s.2.2.1[j1]?).bind fun y2 => some (.inl (Int.fdiv s.1 (2 ^ (min (8 : Int).toNat (IntKind.bits .i64))), s.2.1, s.2.2.1.set j1 (IntKind.wrap .u8 (bits .and .i64 s.1 255)), IntKind.wrap .i64 (s.2.2.2 - 1)))) else (some (.inr (.inl (s.2.1, s.2.2.1))))

def impl_Fixed.d0 (k : Nat) (y : ByteArray × List Int) : Option ByteArray :=
  some (strOfNums y.2)

def impl_Fixed.f (k : Nat) (a0 : Int) (a1 : Int) : Option ByteArray :=
  (impl_within.f k a1 1 7).bind fun r1 => bif (!r1) then (some (⟨#[]⟩ : ByteArray)) else (bif (decide (a0 < 0)) then (some (⟨#[]⟩ : ByteArray)) else (if IntKind.wrap .i64 (8 * a1) < 0 then none else (bif (decide (IntKind.wrap .i64 (1 * 2 ^ (min (IntKind.wrap .i64 (8 * a1)).toNat (IntKind.bits .i64))) ≤ a0)) then (some (⟨#[]⟩ : ByteArray)) else ((mk? (limOf 1) a1 (0 : Int)).bind fun l2 => (iter (X := (ByteArray × List Int) ⊕ ByteArray) (impl_Fixed.b0 k) k (a0, (⟨#[]⟩ : ByteArray), l2, IntKind.wrap .i64 (a1 - 1))).bind fun r => match r with | .inl y => impl_Fixed.d0 k y | .inr o => some o))))

def impl_Fixed.sig : Sig := ⟨[.val false (.int .i64), .val false (.int .i64)], [⟨false, .str, true⟩]⟩
def impl_Fixed.fn : Fn := ⟨impl_Fixed.sig, fun k (x : Int × Int) => impl_Fixed.f k x.1 x.2⟩
noncomputable def impl_Fixed.env (k : Nat) : Env := ⟨Tryz.prog, 39, fun t => bif Nat.beq t 5 then some (.int .u8) else none, look [(85, impl_within.fn)], k, impl_Fixed.sig.pin, lookM []⟩
def impl_Fixed.ann : Ann := .seq .leaf (.seq (.seq .leaf (.cond (.seq .leaf .leaf) .leaf)) (.seq .leaf (.seq (.seq .leaf (.loop [.slot 0 false (.int .i64) false, .slot 4 false .str false, .slot 5 false (.sl 5 (.int .u8)) true, .slot 6 false (.int .i64) false] [.slot 4 false .str false, .slot 5 false (.sl 5 (.int .u8)) true] (.seq (.seq .leaf (.cond .leaf .leaf)) (.seq (.blk (.seq .leaf .leaf)) .leaf)))) (.seq .leaf .leaf))))
theorem impl_Fixed.ok (k : Nat) : FnOk Tryz.prog k 94 impl_Fixed.fn :=
  fnOk_of (E := impl_Fixed.env k) (ann := impl_Fixed.ann) ⟨look_cons (impl_within.ok k) (look_nil), lookM_nil⟩ (by kernel_rfl) Tryz.func94 (by kernel_rfl) (by kernel_rfl) (by kernel_rfl) (of_decide_eq_true (by kernel_rfl)) (of_decide_eq_true (by kernel_rfl)) (fun _ h => h) (fun x => by kernel_rfl)

/-! loop.example/g00358/impl.Crc -/
def impl_Crc.b1 (k : Nat) (s : ByteArray × Int × Int × Int × Int) : Option ((ByteArray × Int × Int × Int × Int) ⊕ (ByteArray × Int × Int × Int) ⊕ Int) :=
  bif (decide (s.2.2.2.2 < 8)) then (bif (decide (bits .and .i64 s.2.2.1 1 = 1)) then (some (.inl (s.1, s.2.1, bits .xor .i64 (Int.fdiv s.2.2.1 (2 ^ (min (1 : Int).toNat (IntKind.bits .i64)))) 2197175160, s.2.2.2.1, IntKind.wrap .i64 (s.2.2.2.2 + 1)))) else (some (.inl (s.1, s.2.1, Int.fdiv s.2.2.1 (2 ^ (min (1 : Int).toNat (IntKind.bits .i64))), s.2.2.2.1, IntKind.wrap .i64 (s.2.2.2.2 + 1))))) else (some (.inr (.inl (s.1, s.2.1, s.2.2.1, s.2.2.2.1))))

def impl_Crc.d0 (k : Nat) (y : ByteArray × Int × Int × Int) : Option ((ByteArray × Int × Int × Int) ⊕ (Int × Int) ⊕ Int) :=
  some (.inl (y.1, y.2.1, y.2.2.1, IntKind.wrap .i64 (y.2.2.2 + 1)))

def impl_Crc.b0 (k : Nat) (s : ByteArray × Int × Int × Int) : Option ((ByteArray × Int × Int × Int) ⊕ (Int × Int) ⊕ Int) :=
  bif (decide (s.2.2.2 < (s.1.size : Int))) then ((inb? s.1.size s.2.2.2).bind fun j1 => (iter (X := (ByteArray × Int × Int × Int) ⊕ Int) (impl_Crc.b1 k) k (s.1, s.2.1, bits .xor .i64 s.2.2.1 (IntKind.wrap .i64 (byteAt s.1 j1)), s.2.2.2, 0)).bind fun r => match r with | .inl y => impl_Crc.d0 k y | .inr o => some (.inr (.inr o))) else (some (.inr (.inl (s.2.1, s.2.2.1))))

def impl_Crc.d1 (k : Nat) (y : Int × Int) : Option Int :=
  some (IntKind.wrap .i64 (4294967295 - y.2))

def impl_Crc.f (k : Nat) (a0 : ByteArray) : Option Int :=
  (iter (X := (Int × Int) ⊕ Int) (impl_Crc.b0 k) k (a0, 0, 4294967295, 0)).bind fun r => match r with | .inl y => impl_Crc.d1 k y | .inr o => some o

def impl_Crc.sig : Sig := ⟨[.val false .str], [⟨false, (.int .i64), true⟩]⟩
def impl_Crc.fn : Fn := ⟨impl_Crc.sig, fun k (x : ByteArray) => impl_Crc.f k x⟩
noncomputable def impl_Crc.env (k : Nat) : Env := ⟨Tryz.prog, 31, fun t => none, look [], k, impl_Crc.sig.pin, lookM []⟩
def impl_Crc.ann : Ann := .seq .leaf (.seq .leaf (.seq (.seq .leaf (.loop [.slot 0 false .str false, .slot 2 false (.int .i64) false, .slot 3 false (.int .i64) false, .slot 4 false (.int .i64) false] [.slot 2 false (.int .i64) false, .slot 3 false (.int .i64) false] (.seq (.seq .leaf (.cond .leaf .leaf)) (.seq (.blk (.seq .leaf (.seq .leaf (.loop [.slot 0 false .str false, .slot 2 false (.int .i64) false, .slot 3 false (.int .i64) false, .slot 4 false (.int .i64) false, .slot 18 false (.int .i64) false] [.slot 0 false .str false, .slot 2 false (.int .i64) false, .slot 3 false (.int .i64) false, .slot 4 false (.int .i64) false] (.seq .leaf (.seq (.cond .leaf .leaf) (.seq (.blk (.seq .leaf (.seq .leaf (.seq .leaf (.cond .leaf .leaf))))) .leaf))))))) .leaf)))) (.seq .leaf .leaf)))
theorem impl_Crc.ok (k : Nat) : FnOk Tryz.prog k 129 impl_Crc.fn :=
  fnOk_of (E := impl_Crc.env k) (ann := impl_Crc.ann) ⟨look_nil, lookM_nil⟩ (by kernel_rfl) Tryz.func129 (by kernel_rfl) (by kernel_rfl) (by kernel_rfl) (of_decide_eq_true (by kernel_rfl)) (of_decide_eq_true (by kernel_rfl)) (fun _ h => h) (fun x => by kernel_rfl)

/-! loop.example/g00358/impl.Frame -/
def impl_Frame.f (k : Nat) (a0 : ByteArray) : Option ByteArray :=
  (impl_within.f k (a0.size : Int) 1 2000).bind fun r1 => bif (!r1) then (some (⟨#[]⟩ : ByteArray)) else ((impl_Fixed.f k (a0.size : Int) 4).bind fun r2 => (cat? r2 a0).bind fun s3 => (impl_Crc.f k s3).bind fun r4 => (impl_Fixed.f k r4 4).bind fun r5 => (cat? r2 r5).bind fun s6 => (cat? s6 a0).bind fun s7 => some s7)

def impl_Frame.sig : Sig := ⟨[.val false .str], [⟨false, .str, true⟩]⟩
def impl_Frame.fn : Fn := ⟨impl_Frame.sig, fun k (x : ByteArray) => impl_Frame.f k x⟩
noncomputable def impl_Frame.env (k : Nat) : Env := ⟨Tryz.prog, 20, fun t => none, look [(85, impl_within.fn), (94, impl_Fixed.fn), (129, impl_Crc.fn)], k, impl_Frame.sig.pin, lookM []⟩
def impl_Frame.ann : Ann := .seq .leaf (.seq (.seq .leaf (.cond (.seq .leaf .leaf) .leaf)) (.seq .leaf (.seq .leaf .leaf)))
theorem impl_Frame.ok (k : Nat) : FnOk Tryz.prog k 93 impl_Frame.fn :=
  fnOk_of (E := impl_Frame.env k) (ann := impl_Frame.ann) ⟨look_cons (impl_within.ok k) (look_cons (impl_Fixed.ok k) (look_cons (impl_Crc.ok k) (look_nil))), lookM_nil⟩ (by kernel_rfl) Tryz.func93 (by kernel_rfl) (by kernel_rfl) (by kernel_rfl) (of_decide_eq_true (by kernel_rfl)) (of_decide_eq_true (by kernel_rfl)) (fun _ h => h) (fun x => by kernel_rfl)

/-! loop.example/g00358/impl.Unframe -/
def impl_Unframe.f (k : Nat) (a0 : ByteArray) : Option (ByteArray × Int × Int) :=
  (impl_ReadFixed.f k a0 4).bind fun r1 => bif (!r1.2) then (some ((⟨#[]⟩ : ByteArray), 0, 1)) else ((impl_within.f k r1.1 1 2000).bind fun r2 => bif (!r2) then (some ((⟨#[]⟩ : ByteArray), 0, 2)) else (bif (decide ((a0.size : Int) < IntKind.wrap .i64 (8 + r1.1))) then (some ((⟨#[]⟩ : ByteArray), 0, 1)) else ((cut? a0.size 8 (IntKind.wrap .i64 (8 + r1.1))).bind fun p3 => (impl_Frame.f k (a0.extract p3.1 p3.2)).bind fun r4 => (cut? a0.size 0 (IntKind.wrap .i64 (8 + r1.1))).bind fun p5 => bif (!decide (r4 = a0.extract p5.1 p5.2)) then (some ((⟨#[]⟩ : ByteArray), 0, 2)) else (some (a0.extract p3.1 p3.2, IntKind.wrap .i64 (8 + r1.1), 0)))))

def impl_Unframe.sig : Sig := ⟨[.val false .str], [⟨false, .str, true⟩, ⟨false, (.int .i64), true⟩, ⟨false, (.int .i64), true⟩]⟩
def impl_Unframe.fn : Fn := ⟨impl_Unframe.sig, fun k (x : ByteArray) => impl_Unframe.f k x⟩
noncomputable def impl_Unframe.env (k : Nat) : Env := ⟨Tryz.prog, 40, fun t => none, look [(111, impl_ReadFixed.fn), (85, impl_within.fn), (93, impl_Frame.fn)], k, impl_Unframe.sig.pin, lookM []⟩
def impl_Unframe.ann : Ann := .seq .leaf (.seq .leaf (.seq (.blk (.seq .leaf (.cond (.seq .leaf .leaf) (.seq .leaf (.cond (.seq .leaf .leaf) (.seq .leaf (.cond (.seq .leaf .leaf) .leaf))))))) (.seq .leaf (.seq (.seq .leaf (.cond (.seq .leaf .leaf) .leaf)) (.seq .leaf .leaf)))))
theorem impl_Unframe.ok (k : Nat) : FnOk Tryz.prog k 110 impl_Unframe.fn :=
  fnOk_of (E := impl_Unframe.env k) (ann := impl_Unframe.ann) ⟨look_cons (impl_ReadFixed.ok k) (look_cons (impl_within.ok k) (look_cons (impl_Frame.ok k) (look_nil))), lookM_nil⟩ (by kernel_rfl) Tryz.func110 (by kernel_rfl) (by kernel_rfl) (by kernel_rfl) (of_decide_eq_true (by kernel_rfl)) (of_decide_eq_true (by kernel_rfl)) (fun _ h => h) (fun x => by kernel_rfl)

/-! loop.example/g00358/impl.Frames -/
def impl_Frames.b0 (k : Nat) (s : ByteArray × List ByteArray × Int × List ByteArray × Int) : Option ((ByteArray × List ByteArray × Int × List ByteArray × Int) ⊕ Unit ⊕ (List ByteArray × Int)) :=
  (cut? s.1.size s.2.2.2.2 s.1.size).bind fun p1 => (impl_Unframe.f k (s.1.extract p1.1 p1.2)).bind fun r2 => bif (!decide (r2.2.2 = 0)) then (some (.inr (.inr s.2.2.2))) else ((app? (limOf 16) s.2.2.2.1 ([r2.1])).bind fun l3 => some (.inl (s.1, s.2.1, s.2.2.1, l3, IntKind.wrap .i64 (s.2.2.2.2 + r2.2.1))))

def impl_Frames.d0 (k : Nat) (y : Unit) : Option (List ByteArray × Int) :=
  none

def impl_Frames.f (k : Nat) (a0 : ByteArray) : Option (List ByteArray × Int) :=
  (iter (X := Unit ⊕ (List ByteArray × Int)) (impl_Frames.b0 k) k (a0, [], 0, [], 0)).bind fun r => match r with | .inl y => impl_Frames.d0 k y | .inr o => some o

def impl_Frames.sig : Sig := ⟨[.val false .str], [⟨false, (.sl 9 .str), true⟩, ⟨false, (.int .i64), true⟩]⟩
def impl_Frames.fn : Fn := ⟨impl_Frames.sig, fun k (x : ByteArray) => impl_Frames.f k x⟩
noncomputable def impl_Frames.env (k : Nat) : Env := ⟨Tryz.prog, 29, fun t => bif Nat.beq t 9 then some .str else none, look [(110, impl_Unframe.fn)], k, impl_Frames.sig.pin, lookM []⟩
def impl_Frames.ann : Ann := .seq .leaf (.seq .leaf (.seq .leaf (.loop [.slot 0 false .str false, .slot 2 false (.sl 9 .str) true, .slot 3 false (.int .i64) false, .slot 4 false (.sl 9 .str) true, .slot 5 false (.int .i64) false] [] (.blk (.seq .leaf (.seq (.seq .leaf (.cond (.seq .leaf .leaf) .leaf)) (.seq .leaf .leaf)))))))
theorem impl_Frames.ok (k : Nat) : FnOk Tryz.prog k 107 impl_Frames.fn :=
  fnOk_of (E := impl_Frames.env k) (ann := impl_Frames.ann) ⟨look_cons (impl_Unframe.ok k) (look_nil), lookM_nil⟩ (by kernel_rfl) Tryz.func107 (by kernel_rfl) (by kernel_rfl) (by kernel_rfl) (of_decide_eq_true (by kernel_rfl)) (of_decide_eq_true (by kernel_rfl)) (fun _ h => h) (fun x => by kernel_rfl)

/-! (*loop.example/g00358/impl.scan).cut -/
def impl_scan_cut.f (k : Nat) (a0 : ByteArray × Bool) (a1 : Int) : Option (ByteArray × ByteArray × Bool) :=
  bif a0.2 then (some ((⟨#[]⟩ : ByteArray), a0.1, true)) else ((impl_within.f k a1 0 (a0.1.size : Int)).bind fun r1 => bif (!r1) then (some ((⟨#[]⟩ : ByteArray), a0.1, true)) else ((cut? a0.1.size 0 a1).bind fun p2 => (cut? a0.1.size a1 a0.1.size).bind fun p3 => some (a0.1.extract p2.1 p2.2, a0.1.extract p3.1 p3.2, a0.2)))

def impl_scan_cut.sig : Sig := ⟨[.box 175 (.pair .str .bool) false true, .val false (.int .i64)], [⟨false, .str, true⟩]⟩
def impl_scan_cut.fn : Fn := ⟨impl_scan_cut.sig, fun k (x : (ByteArray × Bool) × Int) => impl_scan_cut.f k x.1 x.2⟩
noncomputable def impl_scan_cut.env (k : Nat) : Env := ⟨Tryz.prog, 39, fun t => none, look [(85, impl_within.fn)], k, impl_scan_cut.sig.pin, lookM []⟩
def impl_scan_cut.ann : Ann := .seq .leaf (.seq (.seq .leaf (.cond (.seq .leaf (.seq .leaf .leaf)) .leaf)) (.seq .leaf (.seq .leaf (.seq .leaf .leaf))))
theorem impl_scan_cut.ok (k : Nat) : FnOk Tryz.prog k 154 impl_scan_cut.fn :=
  fnOk_of (E := impl_scan_cut.env k) (ann := impl_scan_cut.ann) ⟨look_cons (impl_within.ok k) (look_nil), lookM_nil⟩ (by kernel_rfl) Tryz.func154 (by kernel_rfl) (by kernel_rfl) (by kernel_rfl) (of_decide_eq_true (by kernel_rfl)) (of_decide_eq_true (by kernel_rfl)) (fun _ h => h) (fun x => by kernel_rfl)

/-! (*loop.example/g00358/impl.scan).byte -/
def impl_scan_byte.f (k : Nat) (a0 : ByteArray × Bool) : Option (Int × ByteArray × Bool) :=
  (impl_scan_cut.f k a0 1).bind fun r1 => bif (decide (r1.1 = (⟨#[]⟩ : ByteArray))) then (some (0, r1.2)) else ((inb? r1.1.size 0).bind fun j2 => some (IntKind.wrap .i64 (byteAt r1.1 j2), r1.2))

def impl_scan_byte.sig : Sig := ⟨[.box 175 (.pair .str .bool) false true], [⟨false, (.int .i64), true⟩]⟩
def impl_scan_byte.fn : Fn := ⟨impl_scan_byte.sig, fun k (x : ByteArray × Bool) => impl_scan_byte.f k x⟩
noncomputable def impl_scan_byte.env (k : Nat) : Env := ⟨Tryz.prog, 11, fun t => none, look [(154, impl_scan_cut.fn)], k, impl_scan_byte.sig.pin, lookM []⟩
def impl_scan_byte.ann : Ann := .seq .leaf (.seq .leaf (.seq (.seq .leaf (.cond (.seq .leaf .leaf) .leaf)) (.seq .leaf .leaf)))
theorem impl_scan_byte.ok (k : Nat) : FnOk Tryz.prog k 136 impl_scan_byte.fn :=
  fnOk_of (E := impl_scan_byte.env k) (ann := impl_scan_byte.ann) ⟨look_cons (impl_scan_cut.ok k) (look_nil), lookM_nil⟩ (by kernel_rfl) Tryz.func136 (by kernel_rfl) (by kernel_rfl) (by kernel_rfl) (of_decide_eq_true (by kernel_rfl)) (of_decide_eq_true (by kernel_rfl)) (fun _ h => h) (fun x => by kernel_rfl)

/-! loop.example/g00358/impl.Var -/
def impl_Var.b0 (k : Nat) (s : Int × ByteArray × List Int) : Option ((Int × ByteArray × List Int) ⊕ (Int × ByteArray × List Int) ⊕ ByteArray) :=
  bif (decide (127 < s.1)) then ((app? (limOf 1) s.2.2 ([IntKind.wrap .u8 (bits .or .i64 (bits .and .i64 s.1 127) 128)])).bind fun l1 => some (.inl (Int.fdiv s.1 (2 ^ (min (7 : Int).toNat (IntKind.bits .i64))), s.2.1, l1))) else (some (.inr (.inl s)))

def impl_Var.d0 (k : Nat) (y : Int × ByteArray × List Int) : Option ByteArray :=
  (app? (limOf 1) y.2.2 ([IntKind.wrap .u8 (y.1)])).bind fun l1 => some (strOfNums l1)

def impl_Var.f (k : Nat) (a0 : Int) : Option ByteArray :=
  (impl_within.f k a0 0 562949953421311).bind fun r1 => bif (!r1) then (some (⟨#[]⟩ : ByteArray)) else ((iter (X := (Int × ByteArray × List Int) ⊕ ByteArray) (impl_Var.b0 k) k (a0, (⟨#[]⟩ : ByteArray), [])).bind fun r => match r with | .inl y => impl_Var.d0 k y | .inr o => some o)

def impl_Var.sig : Sig := ⟨[.val false (.int .i64)], [⟨false, .str, true⟩]⟩
def impl_Var.fn : Fn := ⟨impl_Var.sig, fun k (x : Int) => impl_Var.f k x⟩
noncomputable def impl_Var.env (k : Nat) : Env := ⟨Tryz.prog, 25, fun t => bif Nat.beq t 5 then some (.int .u8) else none, look [(85, impl_within.fn)], k, impl_Var.sig.pin, lookM []⟩
def impl_Var.ann : Ann := .seq .leaf (.seq (.seq .leaf (.cond (.seq .leaf .leaf) .leaf)) (.seq .leaf (.seq (.loop [.slot 0 false (.int .i64) false, .slot 2 false .str false, .slot 3 false (.sl 5 (.int .u8)) true] [.slot 0 false (.int .i64) false, .slot 2 false .str false, .slot 3 false (.sl 5 (.int .u8)) true] (.seq (.seq .leaf (.cond .leaf .leaf)) (.blk (.seq .leaf .leaf)))) (.seq .leaf .leaf))))
theorem impl_Var.ok (k : Nat) : FnOk Tryz.prog k 157 impl_Var.fn :=
  fnOk_of (E := impl_Var.env k) (ann := impl_Var.ann) ⟨look_cons (impl_within.ok k) (look_nil), lookM_nil⟩ (by kernel_rfl) Tryz.func157 (by kernel_rfl) (by kernel_rfl) (by kernel_rfl) (of_decide_eq_true (by kernel_rfl)) (of_decide_eq_true (by kernel_rfl)) (fun _ h => h) (fun x => by kernel_rfl)

/-! loop.example/g00358/impl.ReadVar -/
def impl_ReadVar.b0 (k : Nat) (s : ByteArray × Int × Int × Int × Int) : Option ((ByteArray × Int × Int × Int × Int) ⊕ (Int × Int) ⊕ (Int × Int)) :=
  bif (decide (s.2.2.2.2 < (s.1.size : Int))) then (bif (decide (s.2.2.2.2 < 7)) then ((inb? s.1.size s.2.2.2.2).bind fun j1 => if IntKind.wrap .i64 (7 * s.2.2.2.2) < 0 then none else ((inb? s.1.size s.2.2.2.2).bind fun j2 => bif (decide (byteAt s.1 j2 < 128)) then ((impl_Var.f k (bits .or .i64 s.2.2.2.1 (IntKind.wrap .i64 ((IntKind.wrap .i64 (bits .and .u8 (byteAt s.1 j1) 127)) * 2 ^ (min (IntKind.wrap .i64 (7 * s.2.2.2.2)).toNat (IntKind.bits .i64)))))).bind fun r3 => (cut? s.1.size 0 (IntKind.wrap .i64 (s.2.2.2.2 + 1))).bind fun p4 => bif (!decide (r3 = s.1.extract p4.1 p4.2)) then (some (.inr (.inr (0, 0)))) else (some (.inr (.inr (bits .or .i64 s.2.2.2.1 (IntKind.wrap .i64 ((IntKind.wrap .i64 (bits .and .u8 (byteAt s.1 j1) 127)) * 2 ^ (min (IntKind.wrap .i64 (7 * s.2.2.2.2)).toNat (IntKind.bits .i64)))), IntKind.wrap .i64 (s.2.2.2.2 + 1)))))) else (some (.inl (s.1, s.2.1, s.2.2.1, bits .or .i64 s.2.2.2.1 (IntKind.wrap .i64 ((IntKind.wrap .i64 (bits .and .u8 (byteAt s.1 j1) 127)) * 2 ^ (min (IntKind.wrap .i64 (7 * s.2.2.2.2)).toNat (IntKind.bits .i64)))), IntKind.wrap .i64 (s.2.2.2.2 + 1)))))) else (some (.inr (.inl (s.2.1, s.2.2.1))))) else (some (.inr (.inl (s.2.1, s.2.2.1))))

def impl_ReadVar.d0 (k : Nat) (y : Int × Int) : Option (Int × Int) :=
  some (0, 0)

def impl_ReadVar.f (k : Nat) (a0 : ByteArray) : Option (Int × Int) :=
  (iter (X := (Int × Int) ⊕ (Int × Int)) (impl_ReadVar.b0 k) k (a0, 0, 0, 0, 0)).bind fun r => match r with | .inl y => impl_ReadVar.d0 k y | .inr o => some o

def impl_ReadVar.sig : Sig := ⟨[.val false .str], [⟨false, (.int .i64), true⟩, ⟨false, (.int .i64), true⟩]⟩
def impl_ReadVar.fn : Fn := ⟨impl_ReadVar.sig, fun k (x : ByteArray) => impl_ReadVar.f k x⟩
noncomputable def impl_ReadVar.env (k : Nat) : Env := ⟨Tryz.prog, 40, fun t => none, look [(157, impl_Var.fn)], k, impl_ReadVar.sig.pin, lookM []⟩
def impl_ReadVar.ann : Ann := .seq .leaf (.seq .leaf (.seq (.seq .leaf (.loop [.slot 0 false .str false, .slot 2 false (.int .i64) false, .slot 3 false (.int .i64) false, .slot 4 false (.int .i64) false, .slot 5 false (.int .i64) false] [.slot 2 false (.int .i64) false, .slot 3 false (.int .i64) false] (.seq (.seq .leaf (.cond .leaf .leaf)) (.seq (.blk (.seq .leaf (.seq .leaf (.cond (.seq (.seq .leaf (.cond (.seq .leaf .leaf) .leaf)) (.seq .leaf .leaf)) .leaf)))) .leaf)))) (.seq .leaf .leaf)))
theorem impl_ReadVar.ok (k : Nat) : FnOk Tryz.prog k 155 impl_ReadVar.fn :=
  fnOk_of (E := impl_ReadVar.env k) (ann := impl_ReadVar.ann) ⟨look_cons (impl_Var.ok k) (look_nil), lookM_nil⟩ (by kernel_rfl) Tryz.func155 (by kernel_rfl) (by kernel_rfl) (by kernel_rfl) (of_decide_eq_true (by kernel_rfl)) (of_decide_eq_true (by kernel_rfl)) (fun _ h => h) (fun x => by kernel_rfl)

/-! (*loop.example/g00358/impl.scan).num -/
def impl_scan_num.f (k : Nat) (a0 : ByteArray × Bool) : Option (Int × ByteArray × Bool) :=
  (impl_ReadVar.f k a0.1).bind fun r1 => bif a0.2 then (some (0, a0.1, true)) else (bif (decide (r1.2 = 0)) then (some (0, a0.1, true)) else ((cut? a0.1.size r1.2 a0.1.size).bind fun p2 => some (r1.1, a0.1.extract p2.1 p2.2, a0.2)))

def impl_scan_num.sig : Sig := ⟨[.box 175 (.pair .str .bool) false true], [⟨false, (.int .i64), true⟩]⟩
def impl_scan_num.fn : Fn := ⟨impl_scan_num.sig, fun k (x : ByteArray × Bool) => impl_scan_num.f k x⟩
noncomputable def impl_scan_num.env (k : Nat) : Env := ⟨Tryz.prog, 34, fun t => none, look [(155, impl_ReadVar.fn)], k, impl_scan_num.sig.pin, lookM []⟩
def impl_scan_num.ann : Ann := .seq .leaf (.seq .leaf (.seq (.seq .leaf (.cond (.seq .leaf (.seq .leaf .leaf)) .leaf)) (.seq .leaf (.seq .leaf .leaf))))
theorem impl_scan_num.ok (k : Nat) : FnOk Tryz.prog k 137 impl_scan_num.fn :=
  fnOk_of (E := impl_scan_num.env k) (ann := impl_scan_num.ann) ⟨look_cons (impl_ReadVar.ok k) (look_nil), lookM_nil⟩ (by kernel_rfl) Tryz.func137 (by kernel_rfl) (by kernel_rfl) (by kernel_rfl) (of_decide_eq_true (by kernel_rfl)) (of_decide_eq_true (by kernel_rfl)) (fun _ h => h) (fun x => by kernel_rfl)

/-! loop.example/g00358/impl.isTerm -/
def impl_isTerm.f (k : Nat) (a0 : Int) : Option Bool :=
  (impl_within.f k a0 0 100000).bind fun r1 => some r1

def impl_isTerm.sig : Sig := ⟨[.val false (.int .i64)], [⟨false, .bool, true⟩]⟩
def impl_isTerm.fn : Fn := ⟨impl_isTerm.sig, fun k (x : Int) => impl_isTerm.f k x⟩
noncomputable def impl_isTerm.env (k : Nat) : Env := ⟨Tryz.prog, 5, fun t => none, look [(85, impl_within.fn)], k, impl_isTerm.sig.pin, lookM []⟩
def impl_isTerm.ann : Ann := .seq .leaf (.seq .leaf .leaf)
theorem impl_isTerm.ok (k : Nat) : FnOk Tryz.prog k 88 impl_isTerm.fn :=
  fnOk_of (E := impl_isTerm.env k) (ann := impl_isTerm.ann) ⟨look_cons (impl_within.ok k) (look_nil), lookM_nil⟩ (by kernel_rfl) Tryz.func88 (by kernel_rfl) (by kernel_rfl) (by kernel_rfl) (of_decide_eq_true (by kernel_rfl)) (of_decide_eq_true (by kernel_rfl)) (fun _ h => h) (fun x => by kernel_rfl)

/-! loop.example/g00358/impl.isVote -/
def impl_isVote.f (k : Nat) (a0 : Int) : Option Bool :=
  (impl_within.f k a0 (-1) 4).bind fun r1 => some r1

def impl_isVote.sig : Sig := ⟨[.val false (.int .i64)], [⟨false, .bool, true⟩]⟩
def impl_isVote.fn : Fn := ⟨impl_isVote.sig, fun k (x : Int) => impl_isVote.f k x⟩
noncomputable def impl_isVote.env (k : Nat) : Env := ⟨Tryz.prog, 5, fun t => none, look [(85, impl_within.fn)], k, impl_isVote.sig.pin, lookM []⟩
def impl_isVote.ann : Ann := .seq .leaf (.seq .leaf .leaf)
theorem impl_isVote.ok (k : Nat) : FnOk Tryz.prog k 89 impl_isVote.fn :=
  fnOk_of (E := impl_isVote.env k) (ann := impl_isVote.ann) ⟨look_cons (impl_within.ok k) (look_nil), lookM_nil⟩ (by kernel_rfl) Tryz.func89 (by kernel_rfl) (by kernel_rfl) (by kernel_rfl) (of_decide_eq_true (by kernel_rfl)) (of_decide_eq_true (by kernel_rfl)) (fun _ h => h) (fun x => by kernel_rfl)

/-! loop.example/g00358/impl.isBase -/
def impl_isBase.f (k : Nat) (a0 : Int) (a1 : Int) : Option Bool :=
  bif (decide (a0 = 0)) then (bif (decide (a1 = 0)) then (some true) else ((impl_within.f k a0 1 100000).bind fun r1 => bif r1 then ((impl_within.f k a1 1 100000).bind fun r2 => some r2) else (some false))) else ((impl_within.f k a0 1 100000).bind fun r3 => bif r3 then ((impl_within.f k a1 1 100000).bind fun r4 => some r4) else (some false))

def impl_isBase.sig : Sig := ⟨[.val false (.int .i64), .val false (.int .i64)], [⟨false, .bool, true⟩]⟩
def impl_isBase.fn : Fn := ⟨impl_isBase.sig, fun k (x : Int × Int) => impl_isBase.f k x.1 x.2⟩
noncomputable def impl_isBase.env (k : Nat) : Env := ⟨Tryz.prog, 19, fun t => none, look [(85, impl_within.fn)], k, impl_isBase.sig.pin, lookM []⟩
def impl_isBase.ann : Ann := .seq .leaf (.seq .leaf .leaf)
theorem impl_isBase.ok (k : Nat) : FnOk Tryz.prog k 90 impl_isBase.fn :=
  fnOk_of (E := impl_isBase.env k) (ann := impl_isBase.ann) ⟨look_cons (impl_within.ok k) (look_nil), lookM_nil⟩ (by kernel_rfl) Tryz.func90 (by kernel_rfl) (by kernel_rfl) (by kernel_rfl) (of_decide_eq_true (by kernel_rfl)) (of_decide_eq_true (by kernel_rfl)) (fun _ h => h) (fun x => by kernel_rfl)

/-! loop.example/g00358/impl.RecOk -/
def impl_RecOk.f (k : Nat) (a0 : Int × Int × Int × Int × ByteArray) : Option Bool :=
  bif (decide (a0.1 = 1)) then ((impl_isTerm.f k a0.2.1).bind fun r1 => bif r1 then ((impl_isVote.f k a0.2.2.2.1).bind fun r2 => bif r2 then (bif (decide (a0.2.2.1 = 0)) then (some (decide (a0.2.2.2.2 = (⟨#[]⟩ : ByteArray)))) else (some false)) else (some false)) else (some false)) else (bif (decide (a0.1 = 2)) then ((impl_within.f k a0.2.1 1 100000).bind fun r3 => bif r3 then ((impl_within.f k a0.2.2.1 1 100000).bind fun r4 => bif r4 then (bif (decide ((a0.2.2.2.2.size : Int) ≤ 900)) then (some (decide (a0.2.2.2.1 = 0))) else (some false)) else (some false)) else (some false)) else (bif (decide (a0.1 = 3)) then (bif (decide (a0.1 = 3) && (decide (a0.2.1 = 0) && (decide (a0.2.2.1 = a0.2.2.1) && (decide (a0.2.2.2.1 = 0) && (decide (a0.2.2.2.2 = (⟨#[]⟩ : ByteArray)) && true))))) then ((impl_within.f k a0.2.2.1 1 100000).bind fun r5 => some r5) else (some false)) else (bif (decide (a0.1 = 4)) then ((impl_isBase.f k a0.2.2.1 a0.2.1).bind fun r6 => bif r6 then (bif (decide (a0.2.2.2.1 = 0)) then (some (decide (a0.2.2.2.2 = (⟨#[]⟩ : ByteArray)))) else (some false)) else (some false)) else (some false))))

def impl_RecOk.sig : Sig := ⟨[.val true (.pair (.int .i64) (.pair (.int .i64) (.pair (.int .i64) (.pair (.int .i64) .str))))], [⟨false, .bool, true⟩]⟩
def impl_RecOk.fn : Fn := ⟨impl_RecOk.sig, fun k (x : Int × Int × Int × Int × ByteArray) => impl_RecOk.f k x⟩
noncomputable def impl_RecOk.env (k : Nat) : Env := ⟨Tryz.prog, 75, fun t => none, look [(88, impl_isTerm.fn), (89, impl_isVote.fn), (85, impl_within.fn), (90, impl_isBase.fn)], k, impl_RecOk.sig.pin, lookM []⟩
def impl_RecOk.ann : Ann := .seq .leaf (.seq (.seq .leaf (.blk (.seq .leaf (.cond (.seq .leaf .leaf) (.seq .leaf (.cond (.seq .leaf .leaf) (.seq .leaf (.cond (.seq .leaf .leaf) (.seq .leaf (.cond (.seq .leaf .leaf) .leaf)))))))))) (.seq .leaf .leaf))
theorem impl_RecOk.ok (k : Nat) : FnOk Tryz.prog k 156 impl_RecOk.fn :=
  fnOk_of (E := impl_RecOk.env k) (ann := impl_RecOk.ann) ⟨look_cons (impl_isTerm.ok k) (look_cons (impl_isVote.ok k) (look_cons (impl_within.ok k) (look_cons (impl_isBase.ok k) (look_nil)))), lookM_nil⟩ (by kernel_rfl) Tryz.func156 (by kernel_rfl) (by kernel_rfl) (by kernel_rfl) (of_decide_eq_true (by kernel_rfl)) (of_decide_eq_true (by kernel_rfl)) (fun _ h => h) (fun x => by kernel_rfl)

/-! loop.example/g00358/impl.ShowRec -/
def impl_ShowRec.f (k : Nat) (a0 : Int × Int × Int × Int × ByteArray) : Option ByteArray :=
  (impl_RecOk.f k a0).bind fun r1 => bif (!r1) then (some (⟨#[]⟩ : ByteArray)) else ((impl_Var.f k a0.2.1).bind fun r2 => (cat? (strOfNums ([IntKind.wrap .u8 (a0.1)])) r2).bind fun s3 => (impl_Var.f k a0.2.2.1).bind fun r4 => (cat? s3 r4).bind fun s5 => (impl_Var.f k (IntKind.wrap .i64 (a0.2.2.2.1 + 1))).bind fun r6 => (cat? s5 r6).bind fun s7 => (cat? s7 a0.2.2.2.2).bind fun s8 => some s8)

def impl_ShowRec.sig : Sig := ⟨[.val true (.pair (.int .i64) (.pair (.int .i64) (.pair (.int .i64) (.pair (.int .i64) .str))))], [⟨false, .str, true⟩]⟩
def impl_ShowRec.fn : Fn := ⟨impl_ShowRec.sig, fun k (x : Int × Int × Int × Int × ByteArray) => impl_ShowRec.f k x⟩
noncomputable def impl_ShowRec.env (k : Nat) : Env := ⟨Tryz.prog, 27, fun t => bif Nat.beq t 5 then some (.int .u8) else none, look [(156, impl_RecOk.fn), (157, impl_Var.fn)], k, impl_ShowRec.sig.pin, lookM []⟩
def impl_ShowRec.ann : Ann := .seq .leaf (.seq (.seq .leaf (.cond (.seq .leaf .leaf) .leaf)) (.seq .leaf .leaf))
theorem impl_ShowRec.ok (k : Nat) : FnOk Tryz.prog k 138 impl_ShowRec.fn :=
  fnOk_of (E := impl_ShowRec.env k) (ann := impl_ShowRec.ann) ⟨look_cons (impl_RecOk.ok k) (look_cons (impl_Var.ok k) (look_nil)), lookM_nil⟩ (by kernel_rfl) Tryz.func138 (by kernel_rfl) (by kernel_rfl) (by kernel_rfl) (of_decide_eq_true (by kernel_rfl)) (of_decide_eq_true (by kernel_rfl)) (fun _ h => h) (fun x => by kernel_rfl)

/-! loop.example/g00358/impl.ReadRec -/
def impl_ReadRec.f (k : Nat) (a0 : ByteArray) : Option ((Int × Int × Int × Int × ByteArray) × Bool) :=
  (impl_scan_byte.f k (a0, false)).bind fun r1 => (impl_scan_num.f k r1.2).bind fun r2 => (impl_scan_num.f k r2.2).bind fun r3 => (impl_scan_num.f k r3.2).bind fun r4 => bif r4.2.2 then (some ((0, 0, 0, 0, (⟨#[]⟩ : ByteArray)), false)) else (bif (decide (a0 = (⟨#[]⟩ : ByteArray))) then (some ((0, 0, 0, 0, (⟨#[]⟩ : ByteArray)), false)) else ((impl_ShowRec.f k (r1.1, r2.1, r3.1, IntKind.wrap .i64 (r4.1 - 1), r4.2.1)).bind fun r5 => bif (!decide (r5 = a0)) then (some ((0, 0, 0, 0, (⟨#[]⟩ : ByteArray)), false)) else (some ((r1.1, r2.1, r3.1, IntKind.wrap .i64 (r4.1 - 1), r4.2.1), true))))

def impl_ReadRec.sig : Sig := ⟨[.val false .str], [⟨true, (.pair (.int .i64) (.pair (.int .i64) (.pair (.int .i64) (.pair (.int .i64) .str)))), true⟩, ⟨false, .bool, true⟩]⟩
def impl_ReadRec.fn : Fn := ⟨impl_ReadRec.sig, fun k (x : ByteArray) => impl_ReadRec.f k x⟩
noncomputable def impl_ReadRec.env (k : Nat) : Env := ⟨Tryz.prog, 45, fun t => none, look [(136, impl_scan_byte.fn), (137, impl_scan_num.fn), (138, impl_ShowRec.fn)], k, impl_ReadRec.sig.pin, lookM []⟩
def impl_ReadRec.ann : Ann := .seq .leaf (.seq .leaf (.seq .leaf (.seq .leaf (.seq .leaf (.seq .leaf (.seq .leaf (.seq .leaf (.seq (.seq .leaf (.cond (.seq .leaf .leaf) .leaf)) (.seq .leaf .leaf)))))))))
theorem impl_ReadRec.ok (k : Nat) : FnOk Tryz.prog k 108 impl_ReadRec.fn :=
  fnOk_of (E := impl_ReadRec.env k) (ann := impl_ReadRec.ann) ⟨look_cons (impl_scan_byte.ok k) (look_cons (impl_scan_num.ok k) (look_cons (impl_ShowRec.ok k) (look_nil))), lookM_nil⟩ (by kernel_rfl) Tryz.func108 (by kernel_rfl) (by kernel_rfl) (by kernel_rfl) (of_decide_eq_true (by kernel_rfl)) (of_decide_eq_true (by kernel_rfl)) (fun _ h => h) (fun x => by kernel_rfl)

/-! (loop.example/g00358/impl.Wal).end -/
def impl_Wal_end.f (k : Nat) (a0 : Int × Int × Int × Int × List (Int × ByteArray)) : Option Int :=
  some (IntKind.wrap .i64 (a0.2.2.1 + (a0.2.2.2.2.length : Int)))

def impl_Wal_end.sig : Sig := ⟨[.val true (.pair (.int .i64) (.pair (.int .i64) (.pair (.int .i64) (.pair (.int .i64) (.sl 97 (.pair (.int .i64) .str))))))], [⟨false, (.int .i64), true⟩]⟩
def impl_Wal_end.fn : Fn := ⟨impl_Wal_end.sig, fun k (x : Int × Int × Int × Int × List (Int × ByteArray)) => impl_Wal_end.f k x⟩
noncomputable def impl_Wal_end.env (k : Nat) : Env := ⟨Tryz.prog, 9, fun t => none, look [], k, impl_Wal_end.sig.pin, lookM []⟩
def impl_Wal_end.ann : Ann := .seq .leaf (.seq .leaf .leaf)
theorem impl_Wal_end.ok (k : Nat) : FnOk Tryz.prog k 91 impl_Wal_end.fn :=
  fnOk_of (E := impl_Wal_end.env k) (ann := impl_Wal_end.ann) ⟨look_nil, lookM_nil⟩ (by kernel_rfl) Tryz.func91 (by kernel_rfl) (by kernel_rfl) (by kernel_rfl) (of_decide_eq_true (by kernel_rfl)) (of_decide_eq_true (by kernel_rfl)) (fun _ h => h) (fun x => by kernel_rfl)

/-! (loop.example/g00358/impl.Wal).endTerm -/
def impl_Wal_endTerm.f (k : Nat) (a0 : Int × Int × Int × Int × List (Int × ByteArray)) : Option Int :=
  bif (decide (0 < (a0.2.2.2.2.length : Int))) then ((inb? a0.2.2.2.2.length (IntKind.wrap .i64 ((a0.2.2.2.2.length : Int) - 1))).bind fun j1 => (a0.2.2.2.2[j1]?).bind fun y2 => some y2.1) else (some a0.2.2.2.1)

def impl_Wal_endTerm.sig : Sig := ⟨[.val true (.pair (.int .i64) (.pair (.int .i64) (.pair (.int .i64) (.pair (.int .i64) (.sl 97 (.pair (.int .i64) .str))))))], [⟨false, (.int .i64), true⟩]⟩
def impl_Wal_endTerm.fn : Fn := ⟨impl_Wal_endTerm.sig, fun k (x : Int × Int × Int × Int × List (Int × ByteArray)) => impl_Wal_endTerm.f k x⟩
noncomputable def impl_Wal_endTerm.env (k : Nat) : Env := ⟨Tryz.prog, 18, fun t => none, look [], k, impl_Wal_endTerm.sig.pin, lookM []⟩
def impl_Wal_endTerm.ann : Ann := .seq .leaf (.seq (.seq .leaf (.seq .leaf (.cond (.seq .leaf .leaf) .leaf))) (.seq .leaf .leaf))
theorem impl_Wal_endTerm.ok (k : Nat) : FnOk Tryz.prog k 139 impl_Wal_endTerm.fn :=
  fnOk_of (E := impl_Wal_endTerm.env k) (ann := impl_Wal_endTerm.ann) ⟨look_nil, lookM_nil⟩ (by kernel_rfl) Tryz.func139 (by kernel_rfl) (by kernel_rfl) (by kernel_rfl) (of_decide_eq_true (by kernel_rfl)) (of_decide_eq_true (by kernel_rfl)) (fun _ h => h) (fun x => by kernel_rfl)

/-! (*loop.example/g00358/impl.Wal).step -/
def impl_Wal_step.c0 (k : Nat) (y : Bool × (Int × Int × Int × Int × List (Int × ByteArray)) × Int × Int × Int × Int × ByteArray) : Option (Bool × Int × Int × Int × Int × List (Int × ByteArray)) :=
  some (true, y.2.2.2.1, y.2.2.2.2.2.1, y.2.1.2.2)

def impl_Wal_step.f (k : Nat) (a0 : Int × Int × Int × Int × List (Int × ByteArray)) (a1 : Int × Int × Int × Int × ByteArray) : Option (Bool × Int × Int × Int × Int × List (Int × ByteArray)) :=
  bif (decide (a1.1 = 1)) then (Option.bind (α := (Bool × (Int × Int × Int × Int × List (Int × ByteArray)) × Int × Int × Int × Int × ByteArray) ⊕ (Bool × Int × Int × Int × Int × List (Int × ByteArray))) (bif (decide (a1.2.1 < a0.1)) then (some (.inr (false, a0))) else (bif (decide (a1.2.1 = a0.1)) then (bif (!decide (a0.2.1 = (-1))) then (bif (!decide (a0.2.1 = a1.2.2.2.1)) then (some (.inr (false, a0))) else (some (.inl (false, a0, a1)))) else (some (.inl (false, a0, a1)))) else (some (.inl (false, a0, a1))))) fun r => match r with | .inl y => impl_Wal_step.c0 k y | .inr o => some o) else (bif (decide (a1.1 = 2)) then ((impl_Wal_end.f k a0).bind fun r1 => bif (!decide (a1.2.2.1 = IntKind.wrap .i64 (r1 + 1))) then (some (false, a0)) else (bif (decide (60 ≤ (a0.2.2.2.2.length : Int))) then (some (false, a0)) else ((impl_Wal_endTerm.f k a0).bind fun r2 => (impl_within.f k a1.2.1 r2 a0.1).bind fun r3 => bif (!r3) then (some (false, a0)) else ((app? (limOf 24) a0.2.2.2.2 ([(a1.2.1, a1.2.2.2.2)])).bind fun l4 => some (true, a0.1, a0.2.1, a0.2.2.1, a0.2.2.2.1, l4))))) else (bif (decide (a1.1 = 3)) then ((impl_Wal_end.f k a0).bind fun r5 => (impl_within.f k a1.2.2.1 (IntKind.wrap .i64 (a0.2.2.1 + 1)) r5).bind fun r6 => bif (!r6) then (some (false, a0)) else ((cut? a0.2.2.2.2.length 0 (IntKind.wrap .i64 ((IntKind.wrap .i64 (a1.2.2.1 - a0.2.2.1)) - 1))).bind fun p7 => some (true, a0.1, a0.2.1, a0.2.2.1, a0.2.2.2.1, (a0.2.2.2.2.take p7.2).drop p7.1))) else (some (false, a0))))

def impl_Wal_step.sig : Sig := ⟨[.box 47 (.pair (.int .i64) (.pair (.int .i64) (.pair (.int .i64) (.pair (.int .i64) (.sl 97 (.pair (.int .i64) .str)))))) true true, .val true (.pair (.int .i64) (.pair (.int .i64) (.pair (.int .i64) (.pair (.int .i64) .str))))], [⟨false, .bool, true⟩]⟩
def impl_Wal_step.fn : Fn := ⟨impl_Wal_step.sig, fun k (x : (Int × Int × Int × Int × List (Int × ByteArray)) × Int × Int × Int × Int × ByteArray) => impl_Wal_step.f k x.1 x.2⟩
noncomputable def impl_Wal_step.env (k : Nat) : Env := ⟨Tryz.prog, 128, fun t => bif Nat.beq t 97 then some (.pair (.int .i64) .str) else none, look [(91, impl_Wal_end.fn), (139, impl_Wal_endTerm.fn), (85, impl_within.fn)], k, impl_Wal_step.sig.pin, lookM []⟩
def impl_Wal_step.ann : Ann := .seq .leaf (.seq (.seq .leaf (.blk (.seq .leaf (.cond (.seq (.cut [.ptr 0 1, .ptr 3 1000, .slot 4 false .bool false, .box 1 47 (.pair (.int .i64) (.pair (.int .i64) (.pair (.int .i64) (.pair (.int .i64) (.sl 97 (.pair (.int .i64) .str)))))) true false, .box 1000 128 (.pair (.int .i64) (.pair (.int .i64) (.pair (.int .i64) (.pair (.int .i64) .str)))) false false] (.seq .leaf (.cond (.seq .leaf .leaf) .leaf))) (.seq .leaf .leaf)) (.seq .leaf (.cond (.seq (.seq .leaf (.cond (.seq .leaf .leaf) .leaf)) .leaf) (.seq .leaf (.cond (.seq (.seq .leaf (.cond (.seq .leaf .leaf) .leaf)) .leaf) (.seq .leaf .leaf))))))))) (.seq .leaf .leaf))
theorem impl_Wal_step.ok (k : Nat) : FnOk Tryz.prog k 109 impl_Wal_step.fn :=
  fnOk_of (E := impl_Wal_step.env k) (ann := impl_Wal_step.ann) ⟨look_cons (impl_Wal_end.ok k) (look_cons (impl_Wal_endTerm.ok k) (look_cons (impl_within.ok k) (look_nil))), lookM_nil⟩ (by kernel_rfl) Tryz.func109 (by kernel_rfl) (by kernel_rfl) (by kernel_rfl) (of_decide_eq_true (by kernel_rfl)) (of_decide_eq_true (by kernel_rfl)) (fun _ h => h) (fun x => by kernel_rfl)

/-! loop.example/g00358/impl.Replay -/
def impl_Replay.b0 (k : Nat) (s : Int × Bool × Int × List ByteArray × Int × Int × (Int × Int × Int × Int × List (Int × ByteArray)) × Int × Int × Int × Int × List (Int × ByteArray)) : Option ((Int × Bool × Int × List ByteArray × Int × Int × (Int × Int × Int × Int × List (Int × ByteArray)) × Int × Int × Int × Int × List (Int × ByteArray)) ⊕ (Int × Bool × Int × (Int × Int × Int × Int × List (Int × ByteArray)) × Int × Int × Int × Int × List (Int × ByteArray)) ⊕ ((Int × Int × Int × Int × List (Int × ByteArray)) × Int × Bool)) :=
  bif (decide (s.2.2.2.2.2.1 < s.2.2.2.2.1)) then ((inb? s.2.2.2.1.length s.2.2.2.2.2.1).bind fun j1 => (s.2.2.2.1[j1]?).bind fun y2 => (impl_ReadRec.f k y2).bind fun r3 => bif (!r3.2) then (some (.inr (.inl (s.1, s.2.1, s.2.2.1, s.2.2.2.2.2.2)))) else ((impl_Wal_step.f k s.2.2.2.2.2.2.2 r3.1).bind fun r4 => bif (!r4.1) then (some (.inr (.inl (s.1, s.2.1, s.2.2.1, s.2.2.2.2.2.2.1, r4.2)))) else (some (.inl (s.1, s.2.1, IntKind.wrap .i64 ((IntKind.wrap .i64 (s.2.2.1 + 8)) + (y2.size : Int)), s.2.2.2.1, s.2.2.2.2.1, IntKind.wrap .i64 (s.2.2.2.2.2.1 + 1), s.2.2.2.2.2.2.1, r4.2))))) else (some (.inr (.inl (s.1, s.2.1, s.2.2.1, s.2.2.2.2.2.2))))

def impl_Replay.d0 (k : Nat) (y : Int × Bool × Int × (Int × Int × Int × Int × List (Int × ByteArray)) × Int × Int × Int × Int × List (Int × ByteArray)) : Option ((Int × Int × Int × Int × List (Int × ByteArray)) × Int × Bool) :=
  some (y.2.2.2.2, y.2.2.1, true)

def impl_Replay.f (k : Nat) (a0 : ByteArray) : Option ((Int × Int × Int × Int × List (Int × ByteArray)) × Int × Bool) :=
  (impl_Frames.f k a0).bind fun r1 => bif (decide ((r1.1.length : Int) = 0)) then (some ((0, 0, 0, 0, []), 0, false)) else ((inb? r1.1.length 0).bind fun j2 => (r1.1[j2]?).bind fun y3 => (impl_ReadRec.f k y3).bind fun r4 => bif (!r4.2) then (some ((0, 0, 0, 0, []), 0, false)) else (bif (!decide (r4.1.1 = 4)) then (some ((0, 0, 0, 0, []), 0, false)) else ((inb? r1.1.length 0).bind fun j5 => (r1.1[j5]?).bind fun y6 => (cut? r1.1.length 1 r1.1.length).bind fun p7 => (iter (X := (Int × Bool × Int × (Int × Int × Int × Int × List (Int × ByteArray)) × Int × Int × Int × Int × List (Int × ByteArray)) ⊕ ((Int × Int × Int × Int × List (Int × ByteArray)) × Int × Bool)) (impl_Replay.b0 k) k (0, false, IntKind.wrap .i64 (8 + (y6.size : Int)), (r1.1.take p7.2).drop p7.1, (((r1.1.take p7.2).drop p7.1).length : Int), 0, (0, 0, 0, 0, []), r4.1.2.1, (-1), r4.1.2.2.1, r4.1.2.1, [])).bind fun r => match r with | .inl y => impl_Replay.d0 k y | .inr o => some o)))

def impl_Replay.sig : Sig := ⟨[.val false .str], [⟨true, (.pair (.int .i64) (.pair (.int .i64) (.pair (.int .i64) (.pair (.int .i64) (.sl 97 (.pair (.int .i64) .str)))))), true⟩, ⟨false, (.int .i64), true⟩, ⟨false, .bool, true⟩]⟩
def impl_Replay.fn : Fn := ⟨impl_Replay.sig, fun k (x : ByteArray) => impl_Replay.f k x⟩
noncomputable def impl_Replay.env (k : Nat) : Env := ⟨Tryz.prog, 78, fun t => none, look [(107, impl_Frames.fn), (108, impl_ReadRec.fn), (109, impl_Wal_step.fn)], k, impl_Replay.sig.pin, lookM []⟩
def impl_Replay.ann : Ann := .seq .leaf (.seq .leaf (.seq (.seq .leaf (.cond (.seq .leaf .leaf) .leaf)) (.seq .leaf (.seq (.seq .leaf (.cond (.seq .leaf .leaf) .leaf)) (.seq .leaf (.seq .leaf (.seq (.seq .leaf (.loop [.ptr 2 1000, .slot 3 false (.int .i64) false, .slot 4 false .bool false, .ptr 9 8007, .slot 10 false (.int .i64) false, .slot 52 false (.sl 9 .str) true, .slot 53 false (.int .i64) false, .slot 54 false (.int .i64) false, .box 1000 47 (.pair (.int .i64) (.pair (.int .i64) (.pair (.int .i64) (.pair (.int .i64) (.sl 97 (.pair (.int .i64) .str)))))) true false, .box 8007 47 (.pair (.int .i64) (.pair (.int .i64) (.pair (.int .i64) (.pair (.int .i64) (.sl 97 (.pair (.int .i64) .str)))))) true false] [.ptr 2 1000, .slot 3 false (.int .i64) false, .slot 4 false .bool false, .ptr 9 8007, .slot 10 false (.int .i64) false, .box 1000 47 (.pair (.int .i64) (.pair (.int .i64) (.pair (.int .i64) (.pair (.int .i64) (.sl 97 (.pair (.int .i64) .str)))))) true false, .box 8007 47 (.pair (.int .i64) (.pair (.int .i64) (.pair (.int .i64) (.pair (.int .i64) (.sl 97 (.pair (.int .i64) .str)))))) true false] (.seq .leaf (.seq (.cond .leaf .leaf) (.seq (.blk (.seq .leaf (.seq .leaf (.seq (.seq .leaf (.cond .leaf .leaf)) .leaf)))) .leaf))))) (.seq .leaf .leaf))))))))
theorem impl_Replay.ok (k : Nat) : FnOk Tryz.prog k 58 impl_Replay.fn :=
  fnOk_of (E := impl_Replay.env k) (ann := impl_Replay.ann) ⟨look_cons (impl_Frames.ok k) (look_cons (impl_ReadRec.ok k) (look_cons (impl_Wal_step.ok k) (look_nil))), lookM_nil⟩ (by kernel_rfl) Tryz.func58 (by kernel_rfl) (by kernel_rfl) (by kernel_rfl) (of_decide_eq_true (by kernel_rfl)) (of_decide_eq_true (by kernel_rfl)) (fun _ h => h) (fun x => by kernel_rfl)

/-! loop.example/g00358/impl.SnapOk -/
def impl_SnapOk.f (k : Nat) (a0 : Int × Int × ByteArray) : Option Bool :=
  bif (decide (a0.1 = 0) && (decide (a0.2.1 = 0) && (decide (a0.2.2 = (⟨#[]⟩ : ByteArray)) && true))) then (some true) else ((impl_within.f k a0.1 1 100000).bind fun r1 => bif r1 then ((impl_within.f k a0.2.1 1 100000).bind fun r2 => bif r2 then (some (decide ((a0.2.2.size : Int) ≤ 8000))) else (some false)) else (some false))

def impl_SnapOk.sig : Sig := ⟨[.val true (.pair (.int .i64) (.pair (.int .i64) .str))], [⟨false, .bool, true⟩]⟩
def impl_SnapOk.fn : Fn := ⟨impl_SnapOk.sig, fun k (x : Int × Int × ByteArray) => impl_SnapOk.f k x⟩
noncomputable def impl_SnapOk.env (k : Nat) : Env := ⟨Tryz.prog, 22, fun t => none, look [(85, impl_within.fn)], k, impl_SnapOk.sig.pin, lookM []⟩
def impl_SnapOk.ann : Ann := .seq .leaf (.seq .leaf .leaf)
theorem impl_SnapOk.ok (k : Nat) : FnOk Tryz.prog k 92 impl_SnapOk.fn :=
  fnOk_of (E := impl_SnapOk.env k) (ann := impl_SnapOk.ann) ⟨look_cons (impl_within.ok k) (look_nil), lookM_nil⟩ (by kernel_rfl) Tryz.func92 (by kernel_rfl) (by kernel_rfl) (by kernel_rfl) (of_decide_eq_true (by kernel_rfl)) (of_decide_eq_true (by kernel_rfl)) (fun _ h => h) (fun x => by kernel_rfl)

/-! loop.example/g00358/impl.fourBytes -/
def impl_fourBytes.f (k : Nat) (a0 : ByteArray) : Option Int :=
  (inb? a0.size 0).bind fun j1 => (inb? a0.size 1).bind fun j2 => (inb? a0.size 2).bind fun j3 => (inb? a0.size 3).bind fun j4 => some (bits .or .u32 (bits .or .u32 (bits .or .u32 (IntKind.wrap .u32 ((IntKind.wrap .u32 (byteAt a0 j1)) * 2 ^ (min (24 : Int).toNat (IntKind.bits .u32)))) (IntKind.wrap .u32 ((IntKind.wrap .u32 (byteAt a0 j2)) * 2 ^ (min (16 : Int).toNat (IntKind.bits .u32))))) (IntKind.wrap .u32 ((IntKind.wrap .u32 (byteAt a0 j3)) * 2 ^ (min (8 : Int).toNat (IntKind.bits .u32))))) (IntKind.wrap .u32 (byteAt a0 j4)))

def impl_fourBytes.sig : Sig := ⟨[.val false .str], [⟨false, (.int .u32), true⟩]⟩
def impl_fourBytes.fn : Fn := ⟨impl_fourBytes.sig, fun k (x : ByteArray) => impl_fourBytes.f k x⟩
noncomputable def impl_fourBytes.env (k : Nat) : Env := ⟨Tryz.prog, 21, fun t => none, look [], k, impl_fourBytes.sig.pin, lookM []⟩
def impl_fourBytes.ann : Ann := .seq .leaf (.seq .leaf .leaf)
theorem impl_fourBytes.ok (k : Nat) : FnOk Tryz.prog k 151 impl_fourBytes.fn :=
  fnOk_of (E := impl_fourBytes.env k) (ann := impl_fourBytes.ann) ⟨look_nil, lookM_nil⟩ (by kernel_rfl) Tryz.func151 (by kernel_rfl) (by kernel_rfl) (by kernel_rfl) (of_decide_eq_true (by kernel_rfl)) (of_decide_eq_true (by kernel_rfl)) (fun _ h => h) (fun x => by kernel_rfl)

/-! math/bits.RotateLeft32 -/
def bits_RotateLeft32.f (k : Nat) (a0 : Int) (a1 : Int) : Option Int :=
  if bits .and .u64 (IntKind.wrap .u64 (a1)) 31 < 0 then none else (if IntKind.wrap .u64 (32 - (bits .and .u64 (IntKind.wrap .u64 (a1)) 31)) < 0 then none else (some (bits .or .u32 (IntKind.wrap .u32 (a0 * 2 ^ (min (bits .and .u64 (IntKind.wrap .u64 (a1)) 31).toNat (IntKind.bits .u32)))) (Int.fdiv a0 (2 ^ (min (IntKind.wrap .u64 (32 - (bits .and .u64 (IntKind.wrap .u64 (a1)) 31))).toNat (IntKind.bits .u32)))))))

def bits_RotateLeft32.sig : Sig := ⟨[.val false (.int .u32), .val false (.int .i64)], [⟨false, (.int .u32), true⟩]⟩
def bits_RotateLeft32.fn : Fn := ⟨bits_RotateLeft32.sig, fun k (x : Int × Int) => bits_RotateLeft32.f k x.1 x.2⟩
noncomputable def bits_RotateLeft32.env (k : Nat) : Env := ⟨Tryz.prog, 17, fun t => none, look [], k, bits_RotateLeft32.sig.pin, lookM []⟩
def bits_RotateLeft32.ann : Ann := .seq .leaf (.seq .leaf (.seq .leaf .leaf))
theorem bits_RotateLeft32.ok (k : Nat) : FnOk Tryz.prog k 152 bits_RotateLeft32.fn :=
  fnOk_of (E := bits_RotateLeft32.env k) (ann := bits_RotateLeft32.ann) ⟨look_nil, lookM_nil⟩ (by kernel_rfl) Tryz.func152 (by kernel_rfl) (by kernel_rfl) (by kernel_rfl) (of_decide_eq_true (by kernel_rfl)) (of_decide_eq_true (by kernel_rfl)) (fun _ h => h) (fun x => by kernel_rfl)

/-! loop.example/g00358/impl.shaBlock -/
def impl_shaBlock.b0 (k : Nat) (s : ByteArray × Int × List Int × List Int × List Int) : Option ((ByteArray × Int × List Int × List Int × List Int) ⊕ (List Int × List Int × List Int) ⊕ (List Int)) :=
  bif (decide (s.2.1 < 16)) then ((cut? s.1.size (IntKind.wrap .i64 (4 * s.2.1)) s.1.size).bind fun p1 => (impl_fourBytes.f k (s.1.extract p1.1 p1.2)).bind fun r2 => (inb? 64 s.2.1).bind fun j3 => some (.inl (s.1, IntKind.wrap .i64 (s.2.1 + 1), arrL 8 s.2.2.1, arrL 8 s.2.2.2.1, arrL 64 ((arrL 64 s.2.2.2.2).set j3 r2)))) else (some (.inr (.inl (arrL 8 s.2.2.1, arrL 8 s.2.2.2.1, arrL 64 s.2.2.2.2))))

def impl_shaBlock.b1 (k : Nat) (s : Int × List Int × List Int × List Int) : Option ((Int × List Int × List Int × List Int) ⊕ (List Int × List Int × List Int) ⊕ (List Int)) :=
  bif (decide (s.1 < 64)) then ((inb? 64 (IntKind.wrap .i64 (s.1 - 15))).bind fun j1 => (inb? 64 (IntKind.wrap .i64 (s.1 - 2))).bind fun j2 => (bits_RotateLeft32.f k ((arrL 64 s.2.2.2).getD j1 0) (-7)).bind fun r3 => (bits_RotateLeft32.f k ((arrL 64 s.2.2.2).getD j1 0) (-18)).bind fun r4 => (bits_RotateLeft32.f k ((arrL 64 s.2.2.2).getD j2 0) (-17)).bind fun r5 => (bits_RotateLeft32.f k ((arrL 64 s.2.2.2).getD j2 0) (-19)).bind fun r6 => (inb? 64 (IntKind.wrap .i64 (s.1 - 16))).bind fun j7 => (inb? 64 (IntKind.wrap .i64 (s.1 - 7))).bind fun j8 => (inb? 64 s.1).bind fun j9 => some (.inl (IntKind.wrap .i64 (s.1 + 1), arrL 8 s.2.1, arrL 8 s.2.2.1, arrL 64 ((arrL 64 s.2.2.2).set j9 (IntKind.wrap .u32 ((IntKind.wrap .u32 ((IntKind.wrap .u32 (((arrL 64 s.2.2.2).getD j7 0) + (bits .xor .u32 (bits .xor .u32 r3 r4) (Int.fdiv ((arrL 64 s.2.2.2).getD j1 0) (2 ^ (min (3 : Int).toNat (IntKind.bits .u32))))))) + ((arrL 64 s.2.2.2).getD j8 0))) + (bits .xor .u32 (bits .xor .u32 r5 r6) (Int.fdiv ((arrL 64 s.2.2.2).getD j2 0) (2 ^ (min (10 : Int).toNat (IntKind.bits .u32))))))))))) else (some (.inr (.inl (arrL 8 s.2.1, arrL 8 s.2.2.1, arrL 64 s.2.2.2))))

def impl_shaBlock.b2 (k : Nat) (s : Int × List Int × List Int × List Int × List Int) : Option ((Int × List Int × List Int × List Int × List Int) ⊕ (List Int × List Int × List Int) ⊕ (List Int)) :=
  bif (decide (s.1 < 64)) then ((bits_RotateLeft32.f k (s.2.2.2.2.getD 4 0) (-6)).bind fun r1 => (bits_RotateLeft32.f k (s.2.2.2.2.getD 4 0) (-11)).bind fun r2 => (bits_RotateLeft32.f k (s.2.2.2.2.getD 4 0) (-25)).bind fun r3 => (inb? 64 s.1).bind fun j4 => (shaTab[j4]?).bind fun y5 => (inb? 64 s.1).bind fun j6 => (bits_RotateLeft32.f k (s.2.2.2.2.getD 0 0) (-2)).bind fun r7 => (bits_RotateLeft32.f k (s.2.2.2.2.getD 0 0) (-13)).bind fun r8 => (bits_RotateLeft32.f k (s.2.2.2.2.getD 0 0) (-22)).bind fun r9 => some (.inl (IntKind.wrap .i64 (s.1 + 1), arrL 8 s.2.1, arrL 8 s.2.2.1, arrL 64 s.2.2.2.1, [IntKind.wrap .u32 ((IntKind.wrap .u32 ((IntKind.wrap .u32 ((IntKind.wrap .u32 ((IntKind.wrap .u32 ((IntKind.wrap .u32 ((s.2.2.2.2.getD 7 0) + (bits .xor .u32 (bits .xor .u32 r1 r2) r3))) + (bits .xor .u32 (bits .and .u32 (s.2.2.2.2.getD 4 0) (s.2.2.2.2.getD 5 0)) (bits .and .u32 (bits .xor .u32 (if IntKind.signed .u32 then -1 else IntKind.max .u32) (s.2.2.2.2.getD 4 0)) (s.2.2.2.2.getD 6 0))))) + y5)) + ((arrL 64 s.2.2.2.1).getD j6 0))) + (bits .xor .u32 (bits .xor .u32 r7 r8) r9))) + (bits .xor .u32 (bits .xor .u32 (bits .and .u32 (s.2.2.2.2.getD 0 0) (s.2.2.2.2.getD 1 0)) (bits .and .u32 (s.2.2.2.2.getD 0 0) (s.2.2.2.2.getD 2 0))) (bits .and .u32 (s.2.2.2.2.getD 1 0) (s.2.2.2.2.getD 2 0)))), s.2.2.2.2.getD 0 0, s.2.2.2.2.getD 1 0, s.2.2.2.2.getD 2 0, IntKind.wrap .u32 ((s.2.2.2.2.getD 3 0) + (IntKind.wrap .u32 ((IntKind.wrap .u32 ((IntKind.wrap .u32 ((IntKind.wrap .u32 ((s.2.2.2.2.getD 7 0) + (bits .xor .u32 (bits .xor .u32 r1 r2) r3))) + (bits .xor .u32 (bits .and .u32 (s.2.2.2.2.getD 4 0) (s.2.2.2.2.getD 5 0)) (bits .and .u32 (bits .xor .u32 (if IntKind.signed .u32 then -1 else IntKind.max .u32) (s.2.2.2.2.getD 4 0)) (s.2.2.2.2.getD 6 0))))) + y5)) + ((arrL 64 s.2.2.2.1).getD j6 0)))), s.2.2.2.2.getD 4 0, s.2.2.2.2.getD 5 0, s.2.2.2.2.getD 6 0]))) else (some (.inr (.inl (arrL 8 s.2.1, arrL 8 s.2.2.1, arrL 8 s.2.2.2.2))))

def impl_shaBlock.b3 (k : Nat) (s : Int × List Int × List Int × List Int) : Option ((Int × List Int × List Int × List Int) ⊕ (List Int × List Int) ⊕ (List Int)) :=
  bif (decide (s.1 < 8)) then ((inb? 8 s.1).bind fun j1 => (inb? 8 s.1).bind fun j2 => (inb? 8 s.1).bind fun j3 => some (.inl (IntKind.wrap .i64 (s.1 + 1), arrL 8 ((arrL 8 s.2.1).set j3 (IntKind.wrap .u32 (((arrL 8 s.2.1).getD j1 0) + ((arrL 8 s.2.2.2).getD j2 0)))), arrL 8 s.2.2.1, arrL 8 s.2.2.2))) else (some (.inr (.inl (arrL 8 s.2.1, arrL 8 s.2.2.1))))

def impl_shaBlock.d3 (k : Nat) (y : List Int × List Int) : Option (List Int) :=
  some (arrL 8 y.1)

def impl_shaBlock.d2 (k : Nat) (y : List Int × List Int × List Int) : Option (List Int) :=
  (iter (X := (List Int × List Int) ⊕ (List Int)) (impl_shaBlock.b3 k) k (0, arrL 8 y.1, arrL 8 y.2.1, arrL 8 y.2.2)).bind fun r => match r with | .inl y => impl_shaBlock.d3 k y | .inr o => some o

def impl_shaBlock.d1 (k : Nat) (y : List Int × List Int × List Int) : Option (List Int) :=
  (iter (X := (List Int × List Int × List Int) ⊕ (List Int)) (impl_shaBlock.b2 k) k (0, arrL 8 y.1, arrL 8 y.2.1, arrL 64 y.2.2, arrL 8 y.1)).bind fun r => match r with | .inl y => impl_shaBlock.d2 k y | .inr o => some o

def impl_shaBlock.d0 (k : Nat) (y : List Int × List Int × List Int) : Option (List Int) :=
  (iter (X := (List Int × List Int × List Int) ⊕ (List Int)) (impl_shaBlock.b1 k) k (16, arrL 8 y.1, arrL 8 y.2.1, arrL 64 y.2.2)).bind fun r => match r with | .inl y => impl_shaBlock.d1 k y | .inr o => some o

def impl_shaBlock.f (k : Nat) (a0 : List Int) (a1 : ByteArray) : Option (List Int) :=
  (iter (X := (List Int × List Int × List Int) ⊕ (List Int)) (impl_shaBlock.b0 k) k (a1, 0, arrL 8 a0, List.replicate 8 0, List.replicate 64 0)).bind fun r => match r with | .inl y => impl_shaBlock.d0 k y | .inr o => some o

def impl_shaBlock.sig : Sig := ⟨[.val true (.arr .u32 8), .val false .str], [⟨true, (.arr .u32 8), true⟩]⟩
def impl_shaBlock.fn : Fn := ⟨impl_shaBlock.sig, fun k (x : List Int × ByteArray) => impl_shaBlock.f k x.1 x.2⟩
noncomputable def impl_shaBlock.env (k : Nat) : Env := ⟨Tryz.prog, 176, fun t => none, look [(151, impl_fourBytes.fn), (152, bits_RotateLeft32.fn)], k, impl_shaBlock.sig.pin, lookM []⟩
def impl_shaBlock.ann : Ann := .seq .leaf (.seq .leaf (.seq (.seq .leaf (.loop [.slot 1 false .str false, .ptr 2 1000, .ptr 4 1001, .ptr 5 2000, .slot 22 false (.int .i64) false, .box 1000 167 (.arr .u32 8) false false, .box 1001 167 (.arr .u32 8) false false, .box 2000 186 (.arr .u32 64) false false] [.ptr 2 1000, .ptr 4 1001, .ptr 5 2000, .box 1000 167 (.arr .u32 8) false false, .box 1001 167 (.arr .u32 8) false false, .box 2000 186 (.arr .u32 64) false false] (.seq .leaf (.seq (.cond .leaf .leaf) (.seq (.blk (.seq .leaf .leaf)) .leaf))))) (.seq (.seq .leaf (.loop [.ptr 2 1000, .ptr 4 1001, .ptr 5 2000, .slot 7 false (.int .i64) false, .box 1000 167 (.arr .u32 8) false false, .box 1001 167 (.arr .u32 8) false false, .box 2000 186 (.arr .u32 64) false false] [.ptr 2 1000, .ptr 4 1001, .ptr 5 2000, .box 1000 167 (.arr .u32 8) false false, .box 1001 167 (.arr .u32 8) false false, .box 2000 186 (.arr .u32 64) false false] (.seq (.seq .leaf (.cond .leaf .leaf)) (.seq (.blk (.seq .leaf (.seq .leaf (.seq .leaf .leaf)))) .leaf)))) (.seq .leaf (.seq (.seq .leaf (.loop [.ptr 2 1000, .ptr 4 1001, .ptr 5 2000, .ptr 12 15001, .slot 77 false (.int .i64) false, .box 1000 167 (.arr .u32 8) false false, .box 1001 167 (.arr .u32 8) false false, .box 2000 186 (.arr .u32 64) false false, .box 15001 167 (.arr .u32 8) false false] [.ptr 2 1000, .ptr 4 1001, .ptr 12 15001, .box 1000 167 (.arr .u32 8) false false, .box 1001 167 (.arr .u32 8) false false, .box 15001 167 (.arr .u32 8) false false] (.seq .leaf (.seq (.cond .leaf .leaf) (.seq (.blk (.seq .leaf (.seq .leaf (.seq .leaf (.seq .leaf (.seq .leaf (.seq .leaf (.seq .leaf .leaf)))))))) .leaf))))) (.seq (.seq .leaf (.loop [.ptr 2 1000, .ptr 4 1001, .ptr 12 15001, .slot 162 false (.int .i64) false, .box 1000 167 (.arr .u32 8) false false, .box 1001 167 (.arr .u32 8) false false, .box 15001 167 (.arr .u32 8) false false] [.ptr 2 1000, .ptr 4 1001, .box 1000 167 (.arr .u32 8) false false, .box 1001 167 (.arr .u32 8) false false] (.seq .leaf (.seq (.cond .leaf .leaf) (.seq (.blk (.seq .leaf .leaf)) .leaf))))) (.seq .leaf .leaf)))))))
theorem impl_shaBlock.ok (k : Nat) : FnOk Tryz.prog k 130 impl_shaBlock.fn :=
  fnOk_of (E := impl_shaBlock.env k) (ann := impl_shaBlock.ann) ⟨look_cons (impl_fourBytes.ok k) (look_cons (bits_RotateLeft32.ok k) (look_nil)), lookM_nil⟩ (by kernel_rfl) Tryz.func130 (by kernel_rfl) (by kernel_rfl) (by kernel_rfl) (of_decide_eq_true (by kernel_rfl)) (of_decide_eq_true (by kernel_rfl)) (fun _ h => h) (fun x => by kernel_rfl)

/-! loop.example/g00358/impl.Sha -/
def impl_Sha.b0 (k : Nat) (s : ByteArray × ByteArray × Int × List Int) : Option ((ByteArray × ByteArray × Int × List Int) ⊕ (ByteArray × List Int) ⊕ ByteArray) :=
  bif (decide (s.2.2.1 < (s.2.1.size : Int))) then ((cut? s.2.1.size s.2.2.1 (IntKind.wrap .i64 (s.2.2.1 + 64))).bind fun p1 => (impl_shaBlock.f k (arrL 8 s.2.2.2) (s.2.1.extract p1.1 p1.2)).bind fun r2 => some (.inl (s.1, s.2.1, IntKind.wrap .i64 (s.2.2.1 + 64), arrL 8 r2))) else (some (.inr (.inl (s.1, arrL 8 s.2.2.2))))

def impl_Sha.b1 (k : Nat) (s : ByteArray × ByteArray × List Int × Int) : Option ((ByteArray × ByteArray × List Int × Int) ⊕ (ByteArray × ByteArray) ⊕ ByteArray) :=
  bif (decide (s.2.2.2 < 8)) then ((inb? 8 s.2.2.2).bind fun j1 => (impl_Fixed.f k (IntKind.wrap .i64 ((arrL 8 s.2.2.1).getD j1 0)) 4).bind fun r2 => (cat? s.2.1 r2).bind fun s3 => some (.inl (s.1, s3, arrL 8 s.2.2.1, IntKind.wrap .i64 (s.2.2.2 + 1)))) else (some (.inr (.inl (s.1, s.2.1))))

def impl_Sha.d1 (k : Nat) (y : ByteArray × ByteArray) : Option ByteArray :=
  some y.2

def impl_Sha.d0 (k : Nat) (y : ByteArray × List Int) : Option ByteArray :=
  (iter (X := (ByteArray × ByteArray) ⊕ ByteArray) (impl_Sha.b1 k) k (y.1, (⟨#[]⟩ : ByteArray), arrL 8 y.2, 0)).bind fun r => match r with | .inl y => impl_Sha.d1 k y | .inr o => some o

def impl_Sha.f (k : Nat) (a0 : ByteArray) : Option ByteArray :=
  (cat? a0 (⟨#[128]⟩ : ByteArray)).bind fun s1 => (mk? (limOf 1) (IntKind.wrap .i64 ((Int.tmod (IntKind.wrap .i64 (64 - (Int.tmod (IntKind.wrap .i64 ((a0.size : Int) + 9)) 64))) 64) + 1)) (0 : Int)).bind fun l2 => (cat? s1 (strOfNums l2)).bind fun s3 => (impl_Fixed.f k (IntKind.wrap .i64 (8 * (a0.size : Int))) 7).bind fun r4 => (cat? s3 r4).bind fun s5 => (iter (X := (ByteArray × List Int) ⊕ ByteArray) (impl_Sha.b0 k) k ((⟨#[]⟩ : ByteArray), s5, 0, [1779033703, 3144134277, 1013904242, 2773480762, 1359893119, 2600822924, 528734635, 1541459225])).bind fun r => match r with | .inl y => impl_Sha.d0 k y | .inr o => some o

def impl_Sha.sig : Sig := ⟨[.val false .str], [⟨false, .str, true⟩]⟩
def impl_Sha.fn : Fn := ⟨impl_Sha.sig, fun k (x : ByteArray) => impl_Sha.f k x⟩
noncomputable def impl_Sha.env (k : Nat) : Env := ⟨Tryz.prog, 55, fun t => bif Nat.beq t 5 then some (.int .u8) else none, look [(94, impl_Fixed.fn), (130, impl_shaBlock.fn)], k, impl_Sha.sig.pin, lookM []⟩
def impl_Sha.ann : Ann := .seq .leaf (.seq .leaf (.seq .leaf (.seq .leaf (.seq .leaf (.seq (.seq .leaf (.loop [.slot 2 false .str false, .slot 5 false .str false, .ptr 6 5001, .slot 7 false (.int .i64) false, .box 5001 167 (.arr .u32 8) false false] [.slot 2 false .str false, .ptr 6 5001, .box 5001 167 (.arr .u32 8) false false] (.seq (.seq .leaf (.cond .leaf .leaf)) (.seq (.blk .leaf) .leaf)))) (.seq .leaf (.seq (.seq .leaf (.loop [.slot 2 false .str false, .slot 8 false .str false, .slot 44 true (.arr .u32 8) false, .slot 45 false (.int .i64) false] [.slot 2 false .str false, .slot 8 false .str false] (.seq .leaf (.seq (.cond .leaf .leaf) (.seq (.blk (.seq .leaf .leaf)) .leaf))))) (.seq .leaf .leaf))))))))
theorem impl_Sha.ok (k : Nat) : FnOk Tryz.prog k 95 impl_Sha.fn :=
  fnOk_of (E := impl_Sha.env k) (ann := impl_Sha.ann) ⟨look_cons (impl_Fixed.ok k) (look_cons (impl_shaBlock.ok k) (look_nil)), lookM_nil⟩ (by kernel_rfl) Tryz.func95 (by kernel_rfl) (by kernel_rfl) (by kernel_rfl) (of_decide_eq_true (by kernel_rfl)) (of_decide_eq_true (by kernel_rfl)) (fun _ h => h) (fun x => by kernel_rfl)

/-! loop.example/g00358/impl.ShowSnap -/
def impl_ShowSnap.f (k : Nat) (a0 : Int × Int × ByteArray) : Option ByteArray :=
  (impl_SnapOk.f k a0).bind fun r1 => bif (!r1) then (some (⟨#[]⟩ : ByteArray)) else (bif (decide (a0.1 = 0) && (decide (a0.2.1 = 0) && (decide (a0.2.2 = (⟨#[]⟩ : ByteArray)) && true))) then (some (⟨#[]⟩ : ByteArray)) else ((impl_Fixed.f k a0.1 4).bind fun r2 => (impl_Fixed.f k a0.2.1 4).bind fun r3 => (cat? r2 r3).bind fun s4 => (impl_Fixed.f k (a0.2.2.size : Int) 4).bind fun r5 => (cat? s4 r5).bind fun s6 => (impl_Sha.f k a0.2.2).bind fun r7 => (cat? s6 r7).bind fun s8 => (impl_Frame.f k s8).bind fun r9 => (cat? r9 a0.2.2).bind fun s10 => some s10))

def impl_ShowSnap.sig : Sig := ⟨[.val true (.pair (.int .i64) (.pair (.int .i64) .str))], [⟨false, .str, true⟩]⟩
def impl_ShowSnap.fn : Fn := ⟨impl_ShowSnap.sig, fun k (x : Int × Int × ByteArray) => impl_ShowSnap.f k x⟩
noncomputable def impl_ShowSnap.env (k : Nat) : Env := ⟨Tryz.prog, 31, fun t => none, look [(92, impl_SnapOk.fn), (94, impl_Fixed.fn), (95, impl_Sha.fn), (93, impl_Frame.fn)], k, impl_ShowSnap.sig.pin, lookM []⟩
def impl_ShowSnap.ann : Ann := .seq .leaf (.seq (.seq .leaf (.cond (.seq .leaf .leaf) .leaf)) (.seq .leaf .leaf))
theorem impl_ShowSnap.ok (k : Nat) : FnOk Tryz.prog k 41 impl_ShowSnap.fn :=
  fnOk_of (E := impl_ShowSnap.env k) (ann := impl_ShowSnap.ann) ⟨look_cons (impl_SnapOk.ok k) (look_cons (impl_Fixed.ok k) (look_cons (impl_Sha.ok k) (look_cons (impl_Frame.ok k) (look_nil)))), lookM_nil⟩ (by kernel_rfl) Tryz.func41 (by kernel_rfl) (by kernel_rfl) (by kernel_rfl) (of_decide_eq_true (by kernel_rfl)) (of_decide_eq_true (by kernel_rfl)) (fun _ h => h) (fun x => by kernel_rfl)

/-! loop.example/g00358/impl.ReadSnap -/
def impl_ReadSnap.f (k : Nat) (a0 : ByteArray) : Option ((Int × Int × ByteArray) × Bool) :=
  (impl_Unframe.f k a0).bind fun r1 => bif (!decide (r1.2.2 = 0)) then (some ((0, 0, (⟨#[]⟩ : ByteArray)), false)) else (bif (!decide ((r1.1.size : Int) = 44)) then (some ((0, 0, (⟨#[]⟩ : ByteArray)), false)) else ((cut? a0.size r1.2.1 a0.size).bind fun p2 => (impl_ReadFixed.f k r1.1 4).bind fun r3 => (cut? r1.1.size 4 r1.1.size).bind fun p4 => (impl_ReadFixed.f k (r1.1.extract p4.1 p4.2) 4).bind fun r5 => (impl_ShowSnap.f k (r3.1, r5.1, a0.extract p2.1 p2.2)).bind fun r6 => bif (!decide (r6 = a0)) then (some ((0, 0, (⟨#[]⟩ : ByteArray)), false)) else (some ((r3.1, r5.1, a0.extract p2.1 p2.2), true))))

def impl_ReadSnap.sig : Sig := ⟨[.val false .str], [⟨true, (.pair (.int .i64) (.pair (.int .i64) .str)), true⟩, ⟨false, .bool, true⟩]⟩
def impl_ReadSnap.fn : Fn := ⟨impl_ReadSnap.sig, fun k (x : ByteArray) => impl_ReadSnap.f k x⟩
noncomputable def impl_ReadSnap.env (k : Nat) : Env := ⟨Tryz.prog, 45, fun t => none, look [(110, impl_Unframe.fn), (111, impl_ReadFixed.fn), (41, impl_ShowSnap.fn)], k, impl_ReadSnap.sig.pin, lookM []⟩
def impl_ReadSnap.ann : Ann := .seq .leaf (.seq .leaf (.seq (.seq .leaf (.cond (.seq .leaf .leaf) .leaf)) (.seq .leaf (.seq .leaf (.seq .leaf (.seq (.seq .leaf (.cond (.seq .leaf .leaf) .leaf)) (.seq .leaf .leaf)))))))
theorem impl_ReadSnap.ok (k : Nat) : FnOk Tryz.prog k 59 impl_ReadSnap.fn :=
  fnOk_of (E := impl_ReadSnap.env k) (ann := impl_ReadSnap.ann) ⟨look_cons (impl_Unframe.ok k) (look_cons (impl_ReadFixed.ok k) (look_cons (impl_ShowSnap.ok k) (look_nil))), lookM_nil⟩ (by kernel_rfl) Tryz.func59 (by kernel_rfl) (by kernel_rfl) (by kernel_rfl) (of_decide_eq_true (by kernel_rfl)) (of_decide_eq_true (by kernel_rfl)) (fun _ h => h) (fun x => by kernel_rfl)

/-! loop.example/g00358/impl.copyEntries -/
def impl_copyEntries.f (k : Nat) (a0 : List (Int × ByteArray)) : Option (List (Int × ByteArray)) :=
  (app? (limOf 24) [] a0).bind fun l1 => some l1

def impl_copyEntries.sig : Sig := ⟨[.val false (.sl 97 (.pair (.int .i64) .str))], [⟨false, (.sl 97 (.pair (.int .i64) .str)), true⟩]⟩
def impl_copyEntries.fn : Fn := ⟨impl_copyEntries.sig, fun k (x : List (Int × ByteArray)) => impl_copyEntries.f k x⟩
noncomputable def impl_copyEntries.env (k : Nat) : Env := ⟨Tryz.prog, 5, fun t => bif Nat.beq t 97 then some (.pair (.int .i64) .str) else none, look [], k, impl_copyEntries.sig.pin, lookM []⟩
def impl_copyEntries.ann : Ann := .seq .leaf (.seq .leaf .leaf)
theorem impl_copyEntries.ok (k : Nat) : FnOk Tryz.prog k 61 impl_copyEntries.fn :=
  fnOk_of (E := impl_copyEntries.env k) (ann := impl_copyEntries.ann) ⟨look_nil, lookM_nil⟩ (by kernel_rfl) Tryz.func61 (by kernel_rfl) (by kernel_rfl) (by kernel_rfl) (of_decide_eq_true (by kernel_rfl)) (of_decide_eq_true (by kernel_rfl)) (fun _ h => h) (fun x => by kernel_rfl)

/-! loop.example/g00358/impl.copyWal -/
def impl_copyWal.f (k : Nat) (a0 : Int × Int × Int × Int × List (Int × ByteArray)) : Option (Int × Int × Int × Int × List (Int × ByteArray)) :=
  (impl_copyEntries.f k a0.2.2.2.2).bind fun r1 => some (a0.1, a0.2.1, a0.2.2.1, a0.2.2.2.1, r1)

def impl_copyWal.sig : Sig := ⟨[.val true (.pair (.int .i64) (.pair (.int .i64) (.pair (.int .i64) (.pair (.int .i64) (.sl 97 (.pair (.int .i64) .str))))))], [⟨true, (.pair (.int .i64) (.pair (.int .i64) (.pair (.int .i64) (.pair (.int .i64) (.sl 97 (.pair (.int .i64) .str)))))), true⟩]⟩
def impl_copyWal.fn : Fn := ⟨impl_copyWal.sig, fun k (x : Int × Int × Int × Int × List (Int × ByteArray)) => impl_copyWal.f k x⟩
noncomputable def impl_copyWal.env (k : Nat) : Env := ⟨Tryz.prog, 8, fun t => none, look [(61, impl_copyEntries.fn)], k, impl_copyWal.sig.pin, lookM []⟩
def impl_copyWal.ann : Ann := .seq .leaf (.seq .leaf (.seq .leaf .leaf))
theorem impl_copyWal.ok (k : Nat) : FnOk Tryz.prog k 62 impl_copyWal.fn :=
  fnOk_of (E := impl_copyWal.env k) (ann := impl_copyWal.ann) ⟨look_cons (impl_copyEntries.ok k) (look_nil), lookM_nil⟩ (by kernel_rfl) Tryz.func62 (by kernel_rfl) (by kernel_rfl) (by kernel_rfl) (of_decide_eq_true (by kernel_rfl)) (of_decide_eq_true (by kernel_rfl)) (fun _ h => h) (fun x => by kernel_rfl)

/-! loop.example/g00358/impl.Recover -/
def impl_Recover.c2 (k : Nat) (y : Int × List (Int × ByteArray) × ((Int × Int × Int × Int × List (Int × ByteArray)) × (Int × Int × ByteArray) × Bool) × (Int × Int × Int × Int × List (Int × ByteArray)) × (Int × Int × ByteArray) × (Int × Int × Int × Int × List (Int × ByteArray)) × (Int × Int × ByteArray) × Bool) : Option ((Int × ((Int × Int × Int × Int × List (Int × ByteArray)) × (Int × Int × ByteArray) × Bool) × (Int × Int × Int × Int × List (Int × ByteArray)) × (Int × Int × Int × Int × List (Int × ByteArray)) × (Int × Int × ByteArray) × Bool) ⊕ (((Int × Int × Int × Int × List (Int × ByteArray)) × (Int × Int × ByteArray) × Bool) × Int)) :=
  bif (decide (y.2.2.2.1.1 < y.2.2.2.2.1.2.1)) then (some (.inl (y.1, y.2.2.1, (y.2.2.2.2.1.2.1, (-1), y.2.2.2.2.1.1, y.2.2.2.2.1.2.1, y.2.1), y.2.2.2.2.2))) else (some (.inl (y.1, y.2.2.1, (y.2.2.2.1.1, y.2.2.2.1.2.1, y.2.2.2.2.1.1, y.2.2.2.2.1.2.1, y.2.1), y.2.2.2.2.2)))

def impl_Recover.c3 (k : Nat) (y : Int × ((Int × Int × Int × Int × List (Int × ByteArray)) × (Int × Int × ByteArray) × Bool) × (Int × Int × Int × Int × List (Int × ByteArray)) × (Int × Int × Int × Int × List (Int × ByteArray)) × (Int × Int × ByteArray) × Bool) : Option (((Int × Int × Int × Int × List (Int × ByteArray)) × (Int × Int × ByteArray) × Bool) × Int) :=
  (impl_copyWal.f k y.2.2.1).bind fun r1 => some ((r1, y.2.2.2.2), 0)

def impl_Recover.c1 (k : Nat) (y : Int × ByteArray × Int × (Int × Int × List (Int × ByteArray × Int) × List (ByteArray × Int) × List (Int × ByteArray × ByteArray × Int)) × ((Int × Int × Int × Int × List (Int × ByteArray)) × (Int × Int × ByteArray) × Bool) × (Int × Int × Int × Int × List (Int × ByteArray)) × Int × Int × ByteArray) : Option (((Int × Int × Int × Int × List (Int × ByteArray)) × (Int × Int × ByteArray) × Bool) × Int) :=
  bif (decide (y.2.2.1 < (y.2.1.size : Int))) then (Option.bind (α := (Int × ((Int × Int × Int × Int × List (Int × ByteArray)) × (Int × Int × ByteArray) × Bool) × (Int × Int × Int × Int × List (Int × ByteArray)) × (Int × Int × Int × Int × List (Int × ByteArray)) × (Int × Int × ByteArray) × Bool) ⊕ (((Int × Int × Int × Int × List (Int × ByteArray)) × (Int × Int × ByteArray) × Bool) × Int)) (bif (decide (y.2.2.2.2.2.1.2.2.1 < y.2.2.2.2.2.2.1)) then (Option.bind (α := (Int × List (Int × ByteArray) × ((Int × Int × Int × Int × List (Int × ByteArray)) × (Int × Int × ByteArray) × Bool) × (Int × Int × Int × Int × List (Int × ByteArray)) × (Int × Int × ByteArray) × (Int × Int × Int × Int × List (Int × ByteArray)) × (Int × Int × ByteArray) × Bool) ⊕ (((Int × Int × Int × Int × List (Int × ByteArray)) × (Int × Int × ByteArray) × Bool) × Int)) (bif (decide (IntKind.wrap .i64 (y.2.2.2.2.2.2.1 - y.2.2.2.2.2.1.2.2.1) ≤ (y.2.2.2.2.2.1.2.2.2.2.length : Int))) then ((inb? y.2.2.2.2.2.1.2.2.2.2.length (IntKind.wrap .i64 ((IntKind.wrap .i64 (y.2.2.2.2.2.2.1 - y.2.2.2.2.2.1.2.2.1)) - 1))).bind fun j1 => (y.2.2.2.2.2.1.2.2.2.2[j1]?).bind fun y2 => bif (decide (y2.1 = y.2.2.2.2.2.2.2.1)) then ((cut? y.2.2.2.2.2.1.2.2.2.2.length (IntKind.wrap .i64 (y.2.2.2.2.2.2.1 - y.2.2.2.2.2.1.2.2.1)) y.2.2.2.2.2.1.2.2.2.2.length).bind fun p3 => (impl_copyEntries.f k ((y.2.2.2.2.2.1.2.2.2.2.take p3.2).drop p3.1)).bind fun r4 => some (.inl (y.1, r4, y.2.2.2.2.1, y.2.2.2.2.2.1, y.2.2.2.2.2.2, (0, 0, 0, 0, []), y.2.2.2.2.2.2, true))) else (some (.inl (y.1, [], y.2.2.2.2.1, y.2.2.2.2.2.1, y.2.2.2.2.2.2, (0, 0, 0, 0, []), y.2.2.2.2.2.2, true)))) else (some (.inl (y.1, [], y.2.2.2.2.1, y.2.2.2.2.2.1, y.2.2.2.2.2.2, (0, 0, 0, 0, []), y.2.2.2.2.2.2, true)))) fun r => match r with | .inl y => impl_Recover.c2 k y | .inr o => some (.inr o)) else (some (.inl (y.1, y.2.2.2.2.1, y.2.2.2.2.2.1, (0, 0, 0, 0, []), y.2.2.2.2.2.2, true)))) fun r => match r with | .inl y => impl_Recover.c3 k y | .inr o => some o) else (bif (decide (y.2.2.2.2.2.1.2.2.1 < y.2.2.2.2.2.2.1)) then (Option.bind (α := (Int × ((Int × Int × Int × Int × List (Int × ByteArray)) × (Int × Int × ByteArray) × Bool) × (Int × Int × Int × Int × List (Int × ByteArray)) × (Int × Int × Int × Int × List (Int × ByteArray)) × (Int × Int × ByteArray) × Bool) ⊕ (((Int × Int × Int × Int × List (Int × ByteArray)) × (Int × Int × ByteArray) × Bool) × Int)) (bif (decide (y.2.2.2.2.2.1.2.2.1 < y.2.2.2.2.2.2.1)) then (Option.bind (α := (Int × List (Int × ByteArray) × ((Int × Int × Int × Int × List (Int × ByteArray)) × (Int × Int × ByteArray) × Bool) × (Int × Int × Int × Int × List (Int × ByteArray)) × (Int × Int × ByteArray) × (Int × Int × Int × Int × List (Int × ByteArray)) × (Int × Int × ByteArray) × Bool) ⊕ (((Int × Int × Int × Int × List (Int × ByteArray)) × (Int × Int × ByteArray) × Bool) × Int)) (bif (decide (IntKind.wrap .i64 (y.2.2.2.2.2.2.1 - y.2.2.2.2.2.1.2.2.1) ≤ (y.2.2.2.2.2.1.2.2.2.2.length : Int))) then ((inb? y.2.2.2.2.2.1.2.2.2.2.length (IntKind.wrap .i64 ((IntKind.wrap .i64 (y.2.2.2.2.2.2.1 - y.2.2.2.2.2.1.2.2.1)) - 1))).bind fun j5 => (y.2.2.2.2.2.1.2.2.2.2[j5]?).bind fun y6 => bif (decide (y6.1 = y.2.2.2.2.2.2.2.1)) then ((cut? y.2.2.2.2.2.1.2.2.2.2.length (IntKind.wrap .i64 (y.2.2.2.2.2.2.1 - y.2.2.2.2.2.1.2.2.1)) y.2.2.2.2.2.1.2.2.2.2.length).bind fun p7 => (impl_copyEntries.f k ((y.2.2.2.2.2.1.2.2.2.2.take p7.2).drop p7.1)).bind fun r8 => some (.inl (y.1, r8, y.2.2.2.2.1, y.2.2.2.2.2.1, y.2.2.2.2.2.2, (0, 0, 0, 0, []), y.2.2.2.2.2.2, true))) else (some (.inl (y.1, [], y.2.2.2.2.1, y.2.2.2.2.2.1, y.2.2.2.2.2.2, (0, 0, 0, 0, []), y.2.2.2.2.2.2, true)))) else (some (.inl (y.1, [], y.2.2.2.2.1, y.2.2.2.2.2.1, y.2.2.2.2.2.2, (0, 0, 0, 0, []), y.2.2.2.2.2.2, true)))) fun r => match r with | .inl y => impl_Recover.c2 k y | .inr o => some (.inr o)) else (some (.inl (y.1, y.2.2.2.2.1, y.2.2.2.2.2.1, (0, 0, 0, 0, []), y.2.2.2.2.2.2, true)))) fun r => match r with | .inl y => impl_Recover.c3 k y | .inr o => some o) else ((impl_Disk_file.f k y.2.2.2.1 (⟨#[108, 111, 103, 46, 110, 101, 119]⟩ : ByteArray)).bind fun r9 => bif (decide (0 ≤ r9)) then (Option.bind (α := (Int × ((Int × Int × Int × Int × List (Int × ByteArray)) × (Int × Int × ByteArray) × Bool) × (Int × Int × Int × Int × List (Int × ByteArray)) × (Int × Int × Int × Int × List (Int × ByteArray)) × (Int × Int × ByteArray) × Bool) ⊕ (((Int × Int × Int × Int × List (Int × ByteArray)) × (Int × Int × ByteArray) × Bool) × Int)) (bif (decide (y.2.2.2.2.2.1.2.2.1 < y.2.2.2.2.2.2.1)) then (Option.bind (α := (Int × List (Int × ByteArray) × ((Int × Int × Int × Int × List (Int × ByteArray)) × (Int × Int × ByteArray) × Bool) × (Int × Int × Int × Int × List (Int × ByteArray)) × (Int × Int × ByteArray) × (Int × Int × Int × Int × List (Int × ByteArray)) × (Int × Int × ByteArray) × Bool) ⊕ (((Int × Int × Int × Int × List (Int × ByteArray)) × (Int × Int × ByteArray) × Bool) × Int)) (bif (decide (IntKind.wrap .i64 (y.2.2.2.2.2.2.1 - y.2.2.2.2.2.1.2.2.1) ≤ (y.2.2.2.2.2.1.2.2.2.2.length : Int))) then ((inb? y.2.2.2.2.2.1.2.2.2.2.length (IntKind.wrap .i64 ((IntKind.wrap .i64 (y.2.2.2.2.2.2.1 - y.2.2.2.2.2.1.2.2.1)) - 1))).bind fun j10 => (y.2.2.2.2.2.1.2.2.2.2[j10]?).bind fun y11 => bif (decide (y11.1 = y.2.2.2.2.2.2.2.1)) then ((cut? y.2.2.2.2.2.1.2.2.2.2.length (IntKind.wrap .i64 (y.2.2.2.2.2.2.1 - y.2.2.2.2.2.1.2.2.1)) y.2.2.2.2.2.1.2.2.2.2.length).bind fun p12 => (impl_copyEntries.f k ((y.2.2.2.2.2.1.2.2.2.2.take p12.2).drop p12.1)).bind fun r13 => some (.inl (y.1, r13, y.2.2.2.2.1, y.2.2.2.2.2.1, y.2.2.2.2.2.2, (0, 0, 0, 0, []), y.2.2.2.2.2.2, true))) else (some (.inl (y.1, [], y.2.2.2.2.1, y.2.2.2.2.2.1, y.2.2.2.2.2.2, (0, 0, 0, 0, []), y.2.2.2.2.2.2, true)))) else (some (.inl (y.1, [], y.2.2.2.2.1, y.2.2.2.2.2.1, y.2.2.2.2.2.2, (0, 0, 0, 0, []), y.2.2.2.2.2.2, true)))) fun r => match r with | .inl y => impl_Recover.c2 k y | .inr o => some (.inr o)) else (some (.inl (y.1, y.2.2.2.2.1, y.2.2.2.2.2.1, (0, 0, 0, 0, []), y.2.2.2.2.2.2, true)))) fun r => match r with | .inl y => impl_Recover.c3 k y | .inr o => some o) else ((impl_Disk_file.f k y.2.2.2.1 (⟨#[115, 110, 97, 112, 46, 110, 101, 119]⟩ : ByteArray)).bind fun r14 => Option.bind (α := (Int × ((Int × Int × Int × Int × List (Int × ByteArray)) × (Int × Int × ByteArray) × Bool) × (Int × Int × Int × Int × List (Int × ByteArray)) × (Int × Int × Int × Int × List (Int × ByteArray)) × (Int × Int × ByteArray) × Bool) ⊕ (((Int × Int × Int × Int × List (Int × ByteArray)) × (Int × Int × ByteArray) × Bool) × Int)) (bif (decide (y.2.2.2.2.2.1.2.2.1 < y.2.2.2.2.2.2.1)) then (Option.bind (α := (Int × List (Int × ByteArray) × ((Int × Int × Int × Int × List (Int × ByteArray)) × (Int × Int × ByteArray) × Bool) × (Int × Int × Int × Int × List (Int × ByteArray)) × (Int × Int × ByteArray) × (Int × Int × Int × Int × List (Int × ByteArray)) × (Int × Int × ByteArray) × Bool) ⊕ (((Int × Int × Int × Int × List (Int × ByteArray)) × (Int × Int × ByteArray) × Bool) × Int)) (bif (decide (IntKind.wrap .i64 (y.2.2.2.2.2.2.1 - y.2.2.2.2.2.1.2.2.1) ≤ (y.2.2.2.2.2.1.2.2.2.2.length : Int))) then ((inb? y.2.2.2.2.2.1.2.2.2.2.length (IntKind.wrap .i64 ((IntKind.wrap .i64 (y.2.2.2.2.2.2.1 - y.2.2.2.2.2.1.2.2.1)) - 1))).bind fun j15 => (y.2.2.2.2.2.1.2.2.2.2[j15]?).bind fun y16 => bif (decide (y16.1 = y.2.2.2.2.2.2.2.1)) then ((cut? y.2.2.2.2.2.1.2.2.2.2.length (IntKind.wrap .i64 (y.2.2.2.2.2.2.1 - y.2.2.2.2.2.1.2.2.1)) y.2.2.2.2.2.1.2.2.2.2.length).bind fun p17 => (impl_copyEntries.f k ((y.2.2.2.2.2.1.2.2.2.2.take p17.2).drop p17.1)).bind fun r18 => some (.inl (y.1, r18, y.2.2.2.2.1, y.2.2.2.2.2.1, y.2.2.2.2.2.2, (0, 0, 0, 0, []), y.2.2.2.2.2.2, (decide (0 ≤ r14))))) else (some (.inl (y.1, [], y.2.2.2.2.1, y.2.2.2.2.2.1, y.2.2.2.2.2.2, (0, 0, 0, 0, []), y.2.2.2.2.2.2, (decide (0 ≤ r14)))))) else (some (.inl (y.1, [], y.2.2.2.2.1, y.2.2.2.2.2.1, y.2.2.2.2.2.2, (0, 0, 0, 0, []), y.2.2.2.2.2.2, (decide (0 ≤ r14)))))) fun r => match r with | .inl y => impl_Recover.c2 k y | .inr o => some (.inr o)) else (some (.inl (y.1, y.2.2.2.2.1, y.2.2.2.2.2.1, (0, 0, 0, 0, []), y.2.2.2.2.2.2, (decide (0 ≤ r14)))))) fun r => match r with | .inl y => impl_Recover.c3 k y | .inr o => some o)))

def impl_Recover.c0 (k : Nat) (y : Int × ByteArray × Int × Bool × (Int × Int × List (Int × ByteArray × Int) × List (ByteArray × Int) × List (Int × ByteArray × ByteArray × Int)) × ((Int × Int × Int × Int × List (Int × ByteArray)) × (Int × Int × ByteArray) × Bool) × (Int × Int × Int × Int × List (Int × ByteArray)) × Int × Int × ByteArray) : Option (((Int × Int × Int × Int × List (Int × ByteArray)) × (Int × Int × ByteArray) × Bool) × Int) :=
  Option.bind (α := (Int × ByteArray × Int × (Int × Int × List (Int × ByteArray × Int) × List (ByteArray × Int) × List (Int × ByteArray × ByteArray × Int)) × ((Int × Int × Int × Int × List (Int × ByteArray)) × (Int × Int × ByteArray) × Bool) × (Int × Int × Int × Int × List (Int × ByteArray)) × Int × Int × ByteArray) ⊕ (((Int × Int × Int × Int × List (Int × ByteArray)) × (Int × Int × ByteArray) × Bool) × Int)) (bif (!y.2.2.2.1) then (some (.inr (((0, 0, 0, 0, []), (0, 0, (⟨#[]⟩ : ByteArray)), false), 2))) else (bif (decide (y.2.2.2.2.2.2.2.1 < y.2.2.2.2.2.2.1.2.2.1)) then (some (.inr (((0, 0, 0, 0, []), (0, 0, (⟨#[]⟩ : ByteArray)), false), 2))) else (bif (decide (y.2.2.2.2.2.2.1.2.2.1 = y.2.2.2.2.2.2.2.1)) then (bif (!decide (y.2.2.2.2.2.2.1.2.2.2.1 = y.2.2.2.2.2.2.2.2.1)) then (some (.inr (((0, 0, 0, 0, []), (0, 0, (⟨#[]⟩ : ByteArray)), false), 2))) else (some (.inl (y.1, y.2.1, y.2.2.1, y.2.2.2.2)))) else (some (.inl (y.1, y.2.1, y.2.2.1, y.2.2.2.2)))))) fun r => match r with | .inl y => impl_Recover.c1 k y | .inr o => some o

def impl_Recover.f (k : Nat) (a0 : Int × Int × List (Int × ByteArray × Int) × List (ByteArray × Int) × List (Int × ByteArray × ByteArray × Int)) : Option (((Int × Int × Int × Int × List (Int × ByteArray)) × (Int × Int × ByteArray) × Bool) × Int) :=
  (impl_DiskOk.f k a0).bind fun r1 => bif (!r1) then (some (((0, 0, 0, 0, []), (0, 0, (⟨#[]⟩ : ByteArray)), false), 2)) else ((impl_Load.f k a0 (⟨#[108, 111, 103]⟩ : ByteArray)).bind fun r2 => bif (!r2.2) then (some (((0, 0, 0, 0, []), (0, 0, (⟨#[]⟩ : ByteArray)), false), 1)) else ((impl_Replay.f k r2.1).bind fun r3 => Option.bind (α := (Int × ByteArray × Int × Bool × (Int × Int × List (Int × ByteArray × Int) × List (ByteArray × Int) × List (Int × ByteArray × ByteArray × Int)) × ((Int × Int × Int × Int × List (Int × ByteArray)) × (Int × Int × ByteArray) × Bool) × (Int × Int × Int × Int × List (Int × ByteArray)) × Int × Int × ByteArray) ⊕ (((Int × Int × Int × Int × List (Int × ByteArray)) × (Int × Int × ByteArray) × Bool) × Int)) ((impl_Load.f k a0 (⟨#[115, 110, 97, 112]⟩ : ByteArray)).bind fun r4 => bif r4.2 then ((impl_ReadSnap.f k r4.1).bind fun r5 => bif r3.2.2 then (some (.inl (0, r2.1, r3.2.1, r5.2, a0, ((0, 0, 0, 0, []), (0, 0, (⟨#[]⟩ : ByteArray)), false), r3.1, r5.1))) else (some (.inl (0, r2.1, r3.2.1, false, a0, ((0, 0, 0, 0, []), (0, 0, (⟨#[]⟩ : ByteArray)), false), r3.1, r5.1)))) else (some (.inl (0, r2.1, r3.2.1, r3.2.2, a0, ((0, 0, 0, 0, []), (0, 0, (⟨#[]⟩ : ByteArray)), false), r3.1, 0, 0, (⟨#[]⟩ : ByteArray))))) fun r => match r with | .inl y => impl_Recover.c0 k y | .inr o => some o))

def impl_Recover.sig : Sig := ⟨[.val true (.pair (.int .i64) (.pair (.int .i64) (.pair (.sl 115 (.pair (.int .i64) (.pair .str (.int .i64)))) (.pair (.sl 118 (.pair .str (.int .i64))) (.sl 120 (.pair (.int .i64) (.pair .str (.pair .str (.int .i64)))))))))], [⟨true, (.pair (.pair (.int .i64) (.pair (.int .i64) (.pair (.int .i64) (.pair (.int .i64) (.sl 97 (.pair (.int .i64) .str)))))) (.pair (.pair (.int .i64) (.pair (.int .i64) .str)) .bool)), true⟩, ⟨false, (.int .i64), true⟩]⟩
def impl_Recover.fn : Fn := ⟨impl_Recover.sig, fun k (x : Int × Int × List (Int × ByteArray × Int) × List (ByteArray × Int) × List (Int × ByteArray × ByteArray × Int)) => impl_Recover.f k x⟩
noncomputable def impl_Recover.env (k : Nat) : Env := ⟨Tryz.prog, 153, fun t => bif Nat.beq t 97 then some (.pair (.int .i64) .str) else none, look [(39, impl_DiskOk.fn), (57, impl_Load.fn), (58, impl_Replay.fn), (59, impl_ReadSnap.fn), (61, impl_copyEntries.fn), (62, impl_copyWal.fn), (60, impl_Disk_file.fn)], k, impl_Recover.sig.pin, lookM []⟩
def impl_Recover.ann : Ann := .seq .leaf (.seq (.seq .leaf (.cond (.seq .leaf .leaf) .leaf)) (.seq .leaf (.seq (.seq .leaf (.cond (.seq .leaf .leaf) .leaf)) (.seq .leaf (.seq .leaf (.seq (.cut [.ptr 1 1000, .ptr 2 1001, .slot 3 false (.int .i64) false, .slot 4 false .str false, .ptr 6 7006, .slot 7 false (.int .i64) false, .slot 8 false .bool false, .ptr 9 8001, .box 1000 41 (.pair (.int .i64) (.pair (.int .i64) (.pair (.sl 115 (.pair (.int .i64) (.pair .str (.int .i64)))) (.pair (.sl 118 (.pair .str (.int .i64))) (.sl 120 (.pair (.int .i64) (.pair .str (.pair .str (.int .i64))))))))) false false, .box 1001 57 (.pair (.pair (.int .i64) (.pair (.int .i64) (.pair (.int .i64) (.pair (.int .i64) (.sl 97 (.pair (.int .i64) .str)))))) (.pair (.pair (.int .i64) (.pair (.int .i64) .str)) .bool)) true false, .box 7006 47 (.pair (.int .i64) (.pair (.int .i64) (.pair (.int .i64) (.pair (.int .i64) (.sl 97 (.pair (.int .i64) .str)))))) true false, .box 8001 43 (.pair (.int .i64) (.pair (.int .i64) .str)) false false] (.seq .leaf (.seq .leaf (.cond (.seq .leaf (.seq .leaf .leaf)) .leaf)))) (.seq (.cut [.ptr 1 1000, .ptr 2 1001, .slot 3 false (.int .i64) false, .slot 4 false .str false, .ptr 6 7006, .slot 7 false (.int .i64) false, .ptr 9 8001, .box 1000 41 (.pair (.int .i64) (.pair (.int .i64) (.pair (.sl 115 (.pair (.int .i64) (.pair .str (.int .i64)))) (.pair (.sl 118 (.pair .str (.int .i64))) (.sl 120 (.pair (.int .i64) (.pair .str (.pair .str (.int .i64))))))))) false false, .box 1001 57 (.pair (.pair (.int .i64) (.pair (.int .i64) (.pair (.int .i64) (.pair (.int .i64) (.sl 97 (.pair (.int .i64) .str)))))) (.pair (.pair (.int .i64) (.pair (.int .i64) .str)) .bool)) true false, .box 7006 47 (.pair (.int .i64) (.pair (.int .i64) (.pair (.int .i64) (.pair (.int .i64) (.sl 97 (.pair (.int .i64) .str)))))) true false, .box 8001 43 (.pair (.int .i64) (.pair (.int .i64) .str)) false false] (.seq .leaf (.cond (.seq .leaf .leaf) .leaf))) (.seq .leaf (.seq (.cut [.ptr 2 1001, .slot 3 false (.int .i64) false, .ptr 6 7006, .ptr 14 16023, .box 1001 57 (.pair (.pair (.int .i64) (.pair (.int .i64) (.pair (.int .i64) (.pair (.int .i64) (.sl 97 (.pair (.int .i64) .str)))))) (.pair (.pair (.int .i64) (.pair (.int .i64) .str)) .bool)) true false, .box 7006 47 (.pair (.int .i64) (.pair (.int .i64) (.pair (.int .i64) (.pair (.int .i64) (.sl 97 (.pair (.int .i64) .str)))))) true false, .box 16023 57 (.pair (.pair (.int .i64) (.pair (.int .i64) (.pair (.int .i64) (.pair (.int .i64) (.sl 97 (.pair (.int .i64) .str)))))) (.pair (.pair (.int .i64) (.pair (.int .i64) .str)) .bool)) true false] (.seq .leaf (.cond (.seq .leaf (.seq .leaf (.seq (.cut [.ptr 2 1001, .slot 3 false (.int .i64) false, .ptr 6 7006, .ptr 9 8001, .ptr 14 16023, .slot 16 false (.sl 97 (.pair (.int .i64) .str)) true, .box 1001 57 (.pair (.pair (.int .i64) (.pair (.int .i64) (.pair (.int .i64) (.pair (.int .i64) (.sl 97 (.pair (.int .i64) .str)))))) (.pair (.pair (.int .i64) (.pair (.int .i64) .str)) .bool)) true false, .box 7006 47 (.pair (.int .i64) (.pair (.int .i64) (.pair (.int .i64) (.pair (.int .i64) (.sl 97 (.pair (.int .i64) .str)))))) true false, .box 8001 43 (.pair (.int .i64) (.pair (.int .i64) .str)) false false, .box 16023 57 (.pair (.pair (.int .i64) (.pair (.int .i64) (.pair (.int .i64) (.pair (.int .i64) (.sl 97 (.pair (.int .i64) .str)))))) (.pair (.pair (.int .i64) (.pair (.int .i64) .str)) .bool)) true false] (.seq .leaf (.cond .leaf .leaf))) (.seq .leaf (.seq .leaf (.seq .leaf (.seq .leaf (.cond (.seq .leaf .leaf) .leaf)))))))) .leaf))) (.seq .leaf (.seq .leaf .leaf)))))))))))
theorem impl_Recover.ok (k : Nat) : FnOk Tryz.prog k 21 impl_Recover.fn :=
  fnOk_of (E := impl_Recover.env k) (ann := impl_Recover.ann) ⟨look_cons (impl_DiskOk.ok k) (look_cons (impl_Load.ok k) (look_cons (impl_Replay.ok k) (look_cons (impl_ReadSnap.ok k) (look_cons (impl_copyEntries.ok k) (look_cons (impl_copyWal.ok k) (look_cons (impl_Disk_file.ok k) (look_nil))))))), lookM_nil⟩ (by kernel_rfl) Tryz.func21 (by kernel_rfl) (by kernel_rfl) (by kernel_rfl) (of_decide_eq_true (by kernel_rfl)) (of_decide_eq_true (by kernel_rfl)) (fun _ h => h) (fun x => by kernel_rfl)

/-! loop.example/g00358/laws.eqEntry -/
def laws_eqEntry.f (k : Nat) (a0 : Int × ByteArray) (a1 : Int × ByteArray) : Option Bool :=
  bif (!decide (a0.1 = a1.1)) then (some false) else (bif (!decide (a0.2 = a1.2)) then (some false) else (some true))

def laws_eqEntry.sig : Sig := ⟨[.val true (.pair (.int .i64) .str), .val true (.pair (.int .i64) .str)], [⟨false, .bool, true⟩]⟩
def laws_eqEntry.fn : Fn := ⟨laws_eqEntry.sig, fun k (x : (Int × ByteArray) × Int × ByteArray) => laws_eqEntry.f k x.1 x.2⟩
noncomputable def laws_eqEntry.env (k : Nat) : Env := ⟨Tryz.prog, 15, fun t => none, look [], k, laws_eqEntry.sig.pin, lookM []⟩
def laws_eqEntry.ann : Ann := .seq .leaf (.seq (.seq .leaf (.cond (.seq .leaf .leaf) .leaf)) (.seq (.seq .leaf (.cond (.seq .leaf .leaf) .leaf)) (.seq .leaf .leaf)))
theorem laws_eqEntry.ok (k : Nat) : FnOk Tryz.prog k 100 laws_eqEntry.fn :=
  fnOk_of (E := laws_eqEntry.env k) (ann := laws_eqEntry.ann) ⟨look_nil, lookM_nil⟩ (by kernel_rfl) Tryz.func100 (by kernel_rfl) (by kernel_rfl) (by kernel_rfl) (of_decide_eq_true (by kernel_rfl)) (of_decide_eq_true (by kernel_rfl)) (fun _ h => h) (fun x => by kernel_rfl)

/-! loop.example/g00358/laws.eqEntryS -/
def laws_eqEntryS.b0 (k : Nat) (s : List (Int × ByteArray) × List (Int × ByteArray) × Bool × Int) : Option ((List (Int × ByteArray) × List (Int × ByteArray) × Bool × Int) ⊕ Bool ⊕ Bool) :=
  bif (decide (s.2.2.2 < (s.1.length : Int))) then ((inb? s.1.length s.2.2.2).bind fun j1 => (s.1[j1]?).bind fun y2 => (inb? s.2.1.length s.2.2.2).bind fun j3 => (s.2.1[j3]?).bind fun y4 => (laws_eqEntry.f k y2 y4).bind fun r5 => bif (!r5) then (some (.inr (.inr false))) else (some (.inl (s.1, s.2.1, s.2.2.1, IntKind.wrap .i64 (s.2.2.2 + 1))))) else (some (.inr (.inl s.2.2.1)))

def laws_eqEntryS.d0 (k : Nat) (y : Bool) : Option Bool :=
  some true

def laws_eqEntryS.f (k : Nat) (a0 : List (Int × ByteArray)) (a1 : List (Int × ByteArray)) : Option Bool :=
  bif (!decide ((a0.length : Int) = (a1.length : Int))) then (some false) else ((iter (X := Bool ⊕ Bool) (laws_eqEntryS.b0 k) k (a0, a1, false, 0)).bind fun r => match r with | .inl y => laws_eqEntryS.d0 k y | .inr o => some o)

def laws_eqEntryS.sig : Sig := ⟨[.val false (.sl 97 (.pair (.int .i64) .str)), .val false (.sl 97 (.pair (.int .i64) .str))], [⟨false, .bool, true⟩]⟩
def laws_eqEntryS.fn : Fn := ⟨laws_eqEntryS.sig, fun k (x : List (Int × ByteArray) × List (Int × ByteArray)) => laws_eqEntryS.f k x.1 x.2⟩
noncomputable def laws_eqEntryS.env (k : Nat) : Env := ⟨Tryz.prog, 27, fun t => none, look [(100, laws_eqEntry.fn)], k, laws_eqEntryS.sig.pin, lookM []⟩
def laws_eqEntryS.ann : Ann := .seq .leaf (.seq (.seq .leaf (.cond (.seq .leaf .leaf) .leaf)) (.seq (.seq .leaf (.loop [.slot 0 false (.sl 97 (.pair (.int .i64) .str)) false, .slot 1 false (.sl 97 (.pair (.int .i64) .str)) false, .slot 4 false .bool false, .slot 5 false (.int .i64) false] [.slot 4 false .bool false] (.seq (.seq .leaf (.cond .leaf .leaf)) (.seq (.blk (.seq .leaf (.cond (.seq .leaf .leaf) .leaf))) .leaf)))) (.seq .leaf .leaf)))
theorem laws_eqEntryS.ok (k : Nat) : FnOk Tryz.prog k 48 laws_eqEntryS.fn :=
  fnOk_of (E := laws_eqEntryS.env k) (ann := laws_eqEntryS.ann) ⟨look_cons (laws_eqEntry.ok k) (look_nil), lookM_nil⟩ (by kernel_rfl) Tryz.func48 (by kernel_rfl) (by kernel_rfl) (by kernel_rfl) (of_decide_eq_true (by kernel_rfl)) (of_decide_eq_true (by kernel_rfl)) (fun _ h => h) (fun x => by kernel_rfl)

/-! loop.example/g00358/laws.eqWal -/
def laws_eqWal.f (k : Nat) (a0 : Int × Int × Int × Int × List (Int × ByteArray)) (a1 : Int × Int × Int × Int × List (Int × ByteArray)) : Option Bool :=
  bif (!decide (a0.1 = a1.1)) then (some false) else (bif (!decide (a0.2.1 = a1.2.1)) then (some false) else (bif (!decide (a0.2.2.1 = a1.2.2.1)) then (some false) else (bif (!decide (a0.2.2.2.1 = a1.2.2.2.1)) then (some false) else ((laws_eqEntryS.f k a0.2.2.2.2 a1.2.2.2.2).bind fun r1 => bif (!r1) then (some false) else (some true)))))

def laws_eqWal.sig : Sig := ⟨[.val true (.pair (.int .i64) (.pair (.int .i64) (.pair (.int .i64) (.pair (.int .i64) (.sl 97 (.pair (.int .i64) .str)))))), .val true (.pair (.int .i64) (.pair (.int .i64) (.pair (.int .i64) (.pair (.int .i64) (.sl 97 (.pair (.int .i64) .str))))))], [⟨false, .bool, true⟩]⟩
def laws_eqWal.fn : Fn := ⟨laws_eqWal.sig, fun k (x : (Int × Int × Int × Int × List (Int × ByteArray)) × Int × Int × Int × Int × List (Int × ByteArray)) => laws_eqWal.f k x.1 x.2⟩
noncomputable def laws_eqWal.env (k : Nat) : Env := ⟨Tryz.prog, 31, fun t => none, look [(48, laws_eqEntryS.fn)], k, laws_eqWal.sig.pin, lookM []⟩
def laws_eqWal.ann : Ann := .seq .leaf (.seq (.seq .leaf (.cond (.seq .leaf .leaf) .leaf)) (.seq (.seq .leaf (.cond (.seq .leaf .leaf) .leaf)) (.seq (.seq .leaf (.cond (.seq .leaf .leaf) .leaf)) (.seq (.seq .leaf (.cond (.seq .leaf .leaf) .leaf)) (.seq (.seq .leaf (.cond (.seq .leaf .leaf) .leaf)) (.seq .leaf .leaf))))))
theorem laws_eqWal.ok (k : Nat) : FnOk Tryz.prog k 15 laws_eqWal.fn :=
  fnOk_of (E := laws_eqWal.env k) (ann := laws_eqWal.ann) ⟨look_cons (laws_eqEntryS.ok k) (look_nil), lookM_nil⟩ (by kernel_rfl) Tryz.func15 (by kernel_rfl) (by kernel_rfl) (by kernel_rfl) (of_decide_eq_true (by kernel_rfl)) (of_decide_eq_true (by kernel_rfl)) (fun _ h => h) (fun x => by kernel_rfl)

/-! loop.example/g00358/laws.eqSnap -/
def laws_eqSnap.f (k : Nat) (a0 : Int × Int × ByteArray) (a1 : Int × Int × ByteArray) : Option Bool :=
  bif (!decide (a0.1 = a1.1)) then (some false) else (bif (!decide (a0.2.1 = a1.2.1)) then (some false) else (bif (!decide (a0.2.2 = a1.2.2)) then (some false) else (some true)))

def laws_eqSnap.sig : Sig := ⟨[.val true (.pair (.int .i64) (.pair (.int .i64) .str)), .val true (.pair (.int .i64) (.pair (.int .i64) .str))], [⟨false, .bool, true⟩]⟩
def laws_eqSnap.fn : Fn := ⟨laws_eqSnap.sig, fun k (x : (Int × Int × ByteArray) × Int × Int × ByteArray) => laws_eqSnap.f k x.1 x.2⟩
noncomputable def laws_eqSnap.env (k : Nat) : Env := ⟨Tryz.prog, 20, fun t => none, look [], k, laws_eqSnap.sig.pin, lookM []⟩
def laws_eqSnap.ann : Ann := .seq .leaf (.seq (.seq .leaf (.cond (.seq .leaf .leaf) .leaf)) (.seq (.seq .leaf (.cond (.seq .leaf .leaf) .leaf)) (.seq (.seq .leaf (.cond (.seq .leaf .leaf) .leaf)) (.seq .leaf .leaf))))
theorem laws_eqSnap.ok (k : Nat) : FnOk Tryz.prog k 63 laws_eqSnap.fn :=
  fnOk_of (E := laws_eqSnap.env k) (ann := laws_eqSnap.ann) ⟨look_nil, lookM_nil⟩ (by kernel_rfl) Tryz.func63 (by kernel_rfl) (by kernel_rfl) (by kernel_rfl) (of_decide_eq_true (by kernel_rfl)) (of_decide_eq_true (by kernel_rfl)) (fun _ h => h) (fun x => by kernel_rfl)

/-! loop.example/g00358/laws.eqKept -/
def laws_eqKept.f (k : Nat) (a0 : (Int × Int × Int × Int × List (Int × ByteArray)) × (Int × Int × ByteArray) × Bool) (a1 : (Int × Int × Int × Int × List (Int × ByteArray)) × (Int × Int × ByteArray) × Bool) : Option Bool :=
  (laws_eqWal.f k a0.1 a1.1).bind fun r1 => bif (!r1) then (some false) else ((laws_eqSnap.f k a0.2.1 a1.2.1).bind fun r2 => bif (!r2) then (some false) else (bif (!decide (a0.2.2 = a1.2.2)) then (some false) else (some true)))

def laws_eqKept.sig : Sig := ⟨[.val true (.pair (.pair (.int .i64) (.pair (.int .i64) (.pair (.int .i64) (.pair (.int .i64) (.sl 97 (.pair (.int .i64) .str)))))) (.pair (.pair (.int .i64) (.pair (.int .i64) .str)) .bool)), .val true (.pair (.pair (.int .i64) (.pair (.int .i64) (.pair (.int .i64) (.pair (.int .i64) (.sl 97 (.pair (.int .i64) .str)))))) (.pair (.pair (.int .i64) (.pair (.int .i64) .str)) .bool))], [⟨false, .bool, true⟩]⟩
def laws_eqKept.fn : Fn := ⟨laws_eqKept.sig, fun k (x : ((Int × Int × Int × Int × List (Int × ByteArray)) × (Int × Int × ByteArray) × Bool) × (Int × Int × Int × Int × List (Int × ByteArray)) × (Int × Int × ByteArray) × Bool) => laws_eqKept.f k x.1 x.2⟩
noncomputable def laws_eqKept.env (k : Nat) : Env := ⟨Tryz.prog, 22, fun t => none, look [(15, laws_eqWal.fn), (63, laws_eqSnap.fn)], k, laws_eqKept.sig.pin, lookM []⟩
def laws_eqKept.ann : Ann := .seq .leaf (.seq (.seq .leaf (.cond (.seq .leaf .leaf) .leaf)) (.seq (.seq .leaf (.cond (.seq .leaf .leaf) .leaf)) (.seq (.seq .leaf (.cond (.seq .leaf .leaf) .leaf)) (.seq .leaf .leaf))))
theorem laws_eqKept.ok (k : Nat) : FnOk Tryz.prog k 22 laws_eqKept.fn :=
  fnOk_of (E := laws_eqKept.env k) (ann := laws_eqKept.ann) ⟨look_cons (laws_eqWal.ok k) (look_cons (laws_eqSnap.ok k) (look_nil)), lookM_nil⟩ (by kernel_rfl) Tryz.func22 (by kernel_rfl) (by kernel_rfl) (by kernel_rfl) (of_decide_eq_true (by kernel_rfl)) (of_decide_eq_true (by kernel_rfl)) (fun _ h => h) (fun x => by kernel_rfl)

/-! loop.example/g00358/laws.eqInode -/
def laws_eqInode.f (k : Nat) (a0 : Int × ByteArray × Int) (a1 : Int × ByteArray × Int) : Option Bool :=
  bif (!decide (a0.1 = a1.1)) then (some false) else (bif (!decide (a0.2.1 = a1.2.1)) then (some false) else (bif (!decide (a0.2.2 = a1.2.2)) then (some false) else (some true)))

def laws_eqInode.sig : Sig := ⟨[.val true (.pair (.int .i64) (.pair .str (.int .i64))), .val true (.pair (.int .i64) (.pair .str (.int .i64)))], [⟨false, .bool, true⟩]⟩
def laws_eqInode.fn : Fn := ⟨laws_eqInode.sig, fun k (x : (Int × ByteArray × Int) × Int × ByteArray × Int) => laws_eqInode.f k x.1 x.2⟩
noncomputable def laws_eqInode.env (k : Nat) : Env := ⟨Tryz.prog, 20, fun t => none, look [], k, laws_eqInode.sig.pin, lookM []⟩
def laws_eqInode.ann : Ann := .seq .leaf (.seq (.seq .leaf (.cond (.seq .leaf .leaf) .leaf)) (.seq (.seq .leaf (.cond (.seq .leaf .leaf) .leaf)) (.seq (.seq .leaf (.cond (.seq .leaf .leaf) .leaf)) (.seq .leaf .leaf))))
theorem laws_eqInode.ok (k : Nat) : FnOk Tryz.prog k 97 laws_eqInode.fn :=
  fnOk_of (E := laws_eqInode.env k) (ann := laws_eqInode.ann) ⟨look_nil, lookM_nil⟩ (by kernel_rfl) Tryz.func97 (by kernel_rfl) (by kernel_rfl) (by kernel_rfl) (of_decide_eq_true (by kernel_rfl)) (of_decide_eq_true (by kernel_rfl)) (fun _ h => h) (fun x => by kernel_rfl)

/-! loop.example/g00358/laws.eqInodeS -/
def laws_eqInodeS.b0 (k : Nat) (s : List (Int × ByteArray × Int) × List (Int × ByteArray × Int) × Bool × Int) : Option ((List (Int × ByteArray × Int) × List (Int × ByteArray × Int) × Bool × Int) ⊕ Bool ⊕ Bool) :=
  bif (decide (s.2.2.2 < (s.1.length : Int))) then ((inb? s.1.length s.2.2.2).bind fun j1 => (s.1[j1]?).bind fun y2 => (inb? s.2.1.length s.2.2.2).bind fun j3 => (s.2.1[j3]?).bind fun y4 => (laws_eqInode.f k y2 y4).bind fun r5 => bif (!r5) then (some (.inr (.inr false))) else (some (.inl (s.1, s.2.1, s.2.2.1, IntKind.wrap .i64 (s.2.2.2 + 1))))) else (some (.inr (.inl s.2.2.1)))

def laws_eqInodeS.d0 (k : Nat) (y : Bool) : Option Bool :=
  some true

def laws_eqInodeS.f (k : Nat) (a0 : List (Int × ByteArray × Int)) (a1 : List (Int × ByteArray × Int)) : Option Bool :=
  bif (!decide ((a0.length : Int) = (a1.length : Int))) then (some false) else ((iter (X := Bool ⊕ Bool) (laws_eqInodeS.b0 k) k (a0, a1, false, 0)).bind fun r => match r with | .inl y => laws_eqInodeS.d0 k y | .inr o => some o)

def laws_eqInodeS.sig : Sig := ⟨[.val false (.sl 115 (.pair (.int .i64) (.pair .str (.int .i64)))), .val false (.sl 115 (.pair (.int .i64) (.pair .str (.int .i64))))], [⟨false, .bool, true⟩]⟩
def laws_eqInodeS.fn : Fn := ⟨laws_eqInodeS.sig, fun k (x : List (Int × ByteArray × Int) × List (Int × ByteArray × Int)) => laws_eqInodeS.f k x.1 x.2⟩
noncomputable def laws_eqInodeS.env (k : Nat) : Env := ⟨Tryz.prog, 27, fun t => none, look [(97, laws_eqInode.fn)], k, laws_eqInodeS.sig.pin, lookM []⟩
def laws_eqInodeS.ann : Ann := .seq .leaf (.seq (.seq .leaf (.cond (.seq .leaf .leaf) .leaf)) (.seq (.seq .leaf (.loop [.slot 0 false (.sl 115 (.pair (.int .i64) (.pair .str (.int .i64)))) false, .slot 1 false (.sl 115 (.pair (.int .i64) (.pair .str (.int .i64)))) false, .slot 4 false .bool false, .slot 5 false (.int .i64) false] [.slot 4 false .bool false] (.seq (.seq .leaf (.cond .leaf .leaf)) (.seq (.blk (.seq .leaf (.cond (.seq .leaf .leaf) .leaf))) .leaf)))) (.seq .leaf .leaf)))
theorem laws_eqInodeS.ok (k : Nat) : FnOk Tryz.prog k 45 laws_eqInodeS.fn :=
  fnOk_of (E := laws_eqInodeS.env k) (ann := laws_eqInodeS.ann) ⟨look_cons (laws_eqInode.ok k) (look_nil), lookM_nil⟩ (by kernel_rfl) Tryz.func45 (by kernel_rfl) (by kernel_rfl) (by kernel_rfl) (of_decide_eq_true (by kernel_rfl)) (of_decide_eq_true (by kernel_rfl)) (fun _ h => h) (fun x => by kernel_rfl)

/-! loop.example/g00358/laws.eqLink -/
def laws_eqLink.f (k : Nat) (a0 : ByteArray × Int) (a1 : ByteArray × Int) : Option Bool :=
  bif (!decide (a0.1 = a1.1)) then (some false) else (bif (!decide (a0.2 = a1.2)) then (some false) else (some true))

def laws_eqLink.sig : Sig := ⟨[.val true (.pair .str (.int .i64)), .val true (.pair .str (.int .i64))], [⟨false, .bool, true⟩]⟩
def laws_eqLink.fn : Fn := ⟨laws_eqLink.sig, fun k (x : (ByteArray × Int) × ByteArray × Int) => laws_eqLink.f k x.1 x.2⟩
noncomputable def laws_eqLink.env (k : Nat) : Env := ⟨Tryz.prog, 15, fun t => none, look [], k, laws_eqLink.sig.pin, lookM []⟩
def laws_eqLink.ann : Ann := .seq .leaf (.seq (.seq .leaf (.cond (.seq .leaf .leaf) .leaf)) (.seq (.seq .leaf (.cond (.seq .leaf .leaf) .leaf)) (.seq .leaf .leaf)))
theorem laws_eqLink.ok (k : Nat) : FnOk Tryz.prog k 98 laws_eqLink.fn :=
  fnOk_of (E := laws_eqLink.env k) (ann := laws_eqLink.ann) ⟨look_nil, lookM_nil⟩ (by kernel_rfl) Tryz.func98 (by kernel_rfl) (by kernel_rfl) (by kernel_rfl) (of_decide_eq_true (by kernel_rfl)) (of_decide_eq_true (by kernel_rfl)) (fun _ h => h) (fun x => by kernel_rfl)

/-! loop.example/g00358/laws.eqLinkS -/
def laws_eqLinkS.b0 (k : Nat) (s : List (ByteArray × Int) × List (ByteArray × Int) × Bool × Int) : Option ((List (ByteArray × Int) × List (ByteArray × Int) × Bool × Int) ⊕ Bool ⊕ Bool) :=
  bif (decide (s.2.2.2 < (s.1.length : Int))) then ((inb? s.1.length s.2.2.2).bind fun j1 => (s.1[j1]?).bind fun y2 => (inb? s.2.1.length s.2.2.2).bind fun j3 => (s.2.1[j3]?).bind fun y4 => (laws_eqLink.f k y2 y4).bind fun r5 => bif (!r5) then (some (.inr (.inr false))) else (some (.inl (s.1, s.2.1, s.2.2.1, IntKind.wrap .i64 (s.2.2.2 + 1))))) else (some (.inr (.inl s.2.2.1)))

def laws_eqLinkS.d0 (k : Nat) (y : Bool) : Option Bool :=
  some true

def laws_eqLinkS.f (k : Nat) (a0 : List (ByteArray × Int)) (a1 : List (ByteArray × Int)) : Option Bool :=
  bif (!decide ((a0.length : Int) = (a1.length : Int))) then (some false) else ((iter (X := Bool ⊕ Bool) (laws_eqLinkS.b0 k) k (a0, a1, false, 0)).bind fun r => match r with | .inl y => laws_eqLinkS.d0 k y | .inr o => some o)

def laws_eqLinkS.sig : Sig := ⟨[.val false (.sl 118 (.pair .str (.int .i64))), .val false (.sl 118 (.pair .str (.int .i64)))], [⟨false, .bool, true⟩]⟩
def laws_eqLinkS.fn : Fn := ⟨laws_eqLinkS.sig, fun k (x : List (ByteArray × Int) × List (ByteArray × Int)) => laws_eqLinkS.f k x.1 x.2⟩
noncomputable def laws_eqLinkS.env (k : Nat) : Env := ⟨Tryz.prog, 27, fun t => none, look [(98, laws_eqLink.fn)], k, laws_eqLinkS.sig.pin, lookM []⟩
def laws_eqLinkS.ann : Ann := .seq .leaf (.seq (.seq .leaf (.cond (.seq .leaf .leaf) .leaf)) (.seq (.seq .leaf (.loop [.slot 0 false (.sl 118 (.pair .str (.int .i64))) false, .slot 1 false (.sl 118 (.pair .str (.int .i64))) false, .slot 4 false .bool false, .slot 5 false (.int .i64) false] [.slot 4 false .bool false] (.seq (.seq .leaf (.cond .leaf .leaf)) (.seq (.blk (.seq .leaf (.cond (.seq .leaf .leaf) .leaf))) .leaf)))) (.seq .leaf .leaf)))
theorem laws_eqLinkS.ok (k : Nat) : FnOk Tryz.prog k 46 laws_eqLinkS.fn :=
  fnOk_of (E := laws_eqLinkS.env k) (ann := laws_eqLinkS.ann) ⟨look_cons (laws_eqLink.ok k) (look_nil), lookM_nil⟩ (by kernel_rfl) Tryz.func46 (by kernel_rfl) (by kernel_rfl) (by kernel_rfl) (of_decide_eq_true (by kernel_rfl)) (of_decide_eq_true (by kernel_rfl)) (fun _ h => h) (fun x => by kernel_rfl)

/-! loop.example/g00358/laws.eqMove -/
def laws_eqMove.f (k : Nat) (a0 : Int × ByteArray × ByteArray × Int) (a1 : Int × ByteArray × ByteArray × Int) : Option Bool :=
  bif (!decide (a0.1 = a1.1)) then (some false) else (bif (!decide (a0.2.1 = a1.2.1)) then (some false) else (bif (!decide (a0.2.2.1 = a1.2.2.1)) then (some false) else (bif (!decide (a0.2.2.2 = a1.2.2.2)) then (some false) else (some true))))

def laws_eqMove.sig : Sig := ⟨[.val true (.pair (.int .i64) (.pair .str (.pair .str (.int .i64)))), .val true (.pair (.int .i64) (.pair .str (.pair .str (.int .i64))))], [⟨false, .bool, true⟩]⟩
def laws_eqMove.fn : Fn := ⟨laws_eqMove.sig, fun k (x : (Int × ByteArray × ByteArray × Int) × Int × ByteArray × ByteArray × Int) => laws_eqMove.f k x.1 x.2⟩
noncomputable def laws_eqMove.env (k : Nat) : Env := ⟨Tryz.prog, 25, fun t => none, look [], k, laws_eqMove.sig.pin, lookM []⟩
def laws_eqMove.ann : Ann := .seq .leaf (.seq (.seq .leaf (.cond (.seq .leaf .leaf) .leaf)) (.seq (.seq .leaf (.cond (.seq .leaf .leaf) .leaf)) (.seq (.seq .leaf (.cond (.seq .leaf .leaf) .leaf)) (.seq (.seq .leaf (.cond (.seq .leaf .leaf) .leaf)) (.seq .leaf .leaf)))))
theorem laws_eqMove.ok (k : Nat) : FnOk Tryz.prog k 99 laws_eqMove.fn :=
  fnOk_of (E := laws_eqMove.env k) (ann := laws_eqMove.ann) ⟨look_nil, lookM_nil⟩ (by kernel_rfl) Tryz.func99 (by kernel_rfl) (by kernel_rfl) (by kernel_rfl) (of_decide_eq_true (by kernel_rfl)) (of_decide_eq_true (by kernel_rfl)) (fun _ h => h) (fun x => by kernel_rfl)

/-! loop.example/g00358/laws.eqMoveS -/
def laws_eqMoveS.b0 (k : Nat) (s : List (Int × ByteArray × ByteArray × Int) × List (Int × ByteArray × ByteArray × Int) × Bool × Int) : Option ((List (Int × ByteArray × ByteArray × Int) × List (Int × ByteArray × ByteArray × Int) × Bool × Int) ⊕ Bool ⊕ Bool) :=
  bif (decide (s.2.2.2 < (s.1.length : Int))) then ((inb? s.1.length s.2.2.2).bind fun j1 => (s.1[j1]?).bind fun y2 => (inb? s.2.1.length s.2.2.2).bind fun j3 => (s.2.1[j3]?).bind fun y4 => (laws_eqMove.f k y2 y4).bind fun r5 => bif (!r5) then (some (.inr (.inr false))) else (some (.inl (s.1, s.2.1, s.2.2.1, IntKind.wrap .i64 (s.2.2.2 + 1))))) else (some (.inr (.inl s.2.2.1)))

def laws_eqMoveS.d0 (k : Nat) (y : Bool) : Option Bool :=
  some true

def laws_eqMoveS.f (k : Nat) (a0 : List (Int × ByteArray × ByteArray × Int)) (a1 : List (Int × ByteArray × ByteArray × Int)) : Option Bool :=
  bif (!decide ((a0.length : Int) = (a1.length : Int))) then (some false) else ((iter (X := Bool ⊕ Bool) (laws_eqMoveS.b0 k) k (a0, a1, false, 0)).bind fun r => match r with | .inl y => laws_eqMoveS.d0 k y | .inr o => some o)

def laws_eqMoveS.sig : Sig := ⟨[.val false (.sl 120 (.pair (.int .i64) (.pair .str (.pair .str (.int .i64))))), .val false (.sl 120 (.pair (.int .i64) (.pair .str (.pair .str (.int .i64)))))], [⟨false, .bool, true⟩]⟩
def laws_eqMoveS.fn : Fn := ⟨laws_eqMoveS.sig, fun k (x : List (Int × ByteArray × ByteArray × Int) × List (Int × ByteArray × ByteArray × Int)) => laws_eqMoveS.f k x.1 x.2⟩
noncomputable def laws_eqMoveS.env (k : Nat) : Env := ⟨Tryz.prog, 27, fun t => none, look [(99, laws_eqMove.fn)], k, laws_eqMoveS.sig.pin, lookM []⟩
def laws_eqMoveS.ann : Ann := .seq .leaf (.seq (.seq .leaf (.cond (.seq .leaf .leaf) .leaf)) (.seq (.seq .leaf (.loop [.slot 0 false (.sl 120 (.pair (.int .i64) (.pair .str (.pair .str (.int .i64))))) false, .slot 1 false (.sl 120 (.pair (.int .i64) (.pair .str (.pair .str (.int .i64))))) false, .slot 4 false .bool false, .slot 5 false (.int .i64) false] [.slot 4 false .bool false] (.seq (.seq .leaf (.cond .leaf .leaf)) (.seq (.blk (.seq .leaf (.cond (.seq .leaf .leaf) .leaf))) .leaf)))) (.seq .leaf .leaf)))
theorem laws_eqMoveS.ok (k : Nat) : FnOk Tryz.prog k 47 laws_eqMoveS.fn :=
  fnOk_of (E := laws_eqMoveS.env k) (ann := laws_eqMoveS.ann) ⟨look_cons (laws_eqMove.ok k) (look_nil), lookM_nil⟩ (by kernel_rfl) Tryz.func47 (by kernel_rfl) (by kernel_rfl) (by kernel_rfl) (of_decide_eq_true (by kernel_rfl)) (of_decide_eq_true (by kernel_rfl)) (fun _ h => h) (fun x => by kernel_rfl)

/-! loop.example/g00358/laws.eqDisk -/
def laws_eqDisk.f (k : Nat) (a0 : Int × Int × List (Int × ByteArray × Int) × List (ByteArray × Int) × List (Int × ByteArray × ByteArray × Int)) (a1 : Int × Int × List (Int × ByteArray × Int) × List (ByteArray × Int) × List (Int × ByteArray × ByteArray × Int)) : Option Bool :=
  bif (!decide (a0.1 = a1.1)) then (some false) else (bif (!decide (a0.2.1 = a1.2.1)) then (some false) else ((laws_eqInodeS.f k a0.2.2.1 a1.2.2.1).bind fun r1 => bif (!r1) then (some false) else ((laws_eqLinkS.f k a0.2.2.2.1 a1.2.2.2.1).bind fun r2 => bif (!r2) then (some false) else ((laws_eqMoveS.f k a0.2.2.2.2 a1.2.2.2.2).bind fun r3 => bif (!r3) then (some false) else (some true)))))

def laws_eqDisk.sig : Sig := ⟨[.val true (.pair (.int .i64) (.pair (.int .i64) (.pair (.sl 115 (.pair (.int .i64) (.pair .str (.int .i64)))) (.pair (.sl 118 (.pair .str (.int .i64))) (.sl 120 (.pair (.int .i64) (.pair .str (.pair .str (.int .i64))))))))), .val true (.pair (.int .i64) (.pair (.int .i64) (.pair (.sl 115 (.pair (.int .i64) (.pair .str (.int .i64)))) (.pair (.sl 118 (.pair .str (.int .i64))) (.sl 120 (.pair (.int .i64) (.pair .str (.pair .str (.int .i64)))))))))], [⟨false, .bool, true⟩]⟩
def laws_eqDisk.fn : Fn := ⟨laws_eqDisk.sig, fun k (x : (Int × Int × List (Int × ByteArray × Int) × List (ByteArray × Int) × List (Int × ByteArray × ByteArray × Int)) × Int × Int × List (Int × ByteArray × Int) × List (ByteArray × Int) × List (Int × ByteArray × ByteArray × Int)) => laws_eqDisk.f k x.1 x.2⟩
noncomputable def laws_eqDisk.env (k : Nat) : Env := ⟨Tryz.prog, 33, fun t => none, look [(45, laws_eqInodeS.fn), (46, laws_eqLinkS.fn), (47, laws_eqMoveS.fn)], k, laws_eqDisk.sig.pin, lookM []⟩
def laws_eqDisk.ann : Ann := .seq .leaf (.seq (.seq .leaf (.cond (.seq .leaf .leaf) .leaf)) (.seq (.seq .leaf (.cond (.seq .leaf .leaf) .leaf)) (.seq (.seq .leaf (.cond (.seq .leaf .leaf) .leaf)) (.seq (.seq .leaf (.cond (.seq .leaf .leaf) .leaf)) (.seq (.seq .leaf (.cond (.seq .leaf .leaf) .leaf)) (.seq .leaf .leaf))))))
theorem laws_eqDisk.ok (k : Nat) : FnOk Tryz.prog k 14 laws_eqDisk.fn :=
  fnOk_of (E := laws_eqDisk.env k) (ann := laws_eqDisk.ann) ⟨look_cons (laws_eqInodeS.ok k) (look_cons (laws_eqLinkS.ok k) (look_cons (laws_eqMoveS.ok k) (look_nil))), lookM_nil⟩ (by kernel_rfl) Tryz.func14 (by kernel_rfl) (by kernel_rfl) (by kernel_rfl) (of_decide_eq_true (by kernel_rfl)) (of_decide_eq_true (by kernel_rfl)) (fun _ h => h) (fun x => by kernel_rfl)

/-! loop.example/g00358/laws.markText -/
def laws_markText.b0 (k : Nat) (s : Int × ByteArray × ByteArray) : Option ((Int × ByteArray × ByteArray) ⊕ (ByteArray × ByteArray) ⊕ ByteArray) :=
  bif (decide (0 < s.1)) then ((cat? (strOfNums ([IntKind.wrap .u8 (IntKind.wrap .i64 (48 + (Int.tmod s.1 10)))])) s.2.2).bind fun s1 => some (.inl (IntKind.wrap .i64 (Int.tdiv s.1 10), s.2.1, s1))) else (some (.inr (.inl s.2)))

def laws_markText.d0 (k : Nat) (y : ByteArray × ByteArray) : Option ByteArray :=
  (cat? (⟨#[109]⟩ : ByteArray) y.2).bind fun s1 => some s1

def laws_markText.f (k : Nat) (a0 : Int) : Option ByteArray :=
  bif (decide (a0 ≤ 0)) then (some (⟨#[109, 48]⟩ : ByteArray)) else ((iter (X := (ByteArray × ByteArray) ⊕ ByteArray) (laws_markText.b0 k) k (a0, (⟨#[]⟩ : ByteArray), (⟨#[]⟩ : ByteArray))).bind fun r => match r with | .inl y => laws_markText.d0 k y | .inr o => some o)

def laws_markText.sig : Sig := ⟨[.val false (.int .i64)], [⟨false, .str, true⟩]⟩
def laws_markText.fn : Fn := ⟨laws_markText.sig, fun k (x : Int) => laws_markText.f k x⟩
noncomputable def laws_markText.env (k : Nat) : Env := ⟨Tryz.prog, 20, fun t => bif Nat.beq t 5 then some (.int .u8) else none, look [], k, laws_markText.sig.pin, lookM []⟩
def laws_markText.ann : Ann := .seq .leaf (.seq (.seq .leaf (.cond (.seq .leaf .leaf) .leaf)) (.seq .leaf (.seq (.loop [.slot 0 false (.int .i64) false, .slot 2 false .str false, .slot 3 false .str false] [.slot 2 false .str false, .slot 3 false .str false] (.seq (.seq .leaf (.cond .leaf .leaf)) (.blk (.seq .leaf .leaf)))) (.seq .leaf .leaf))))
theorem laws_markText.ok (k : Nat) : FnOk Tryz.prog k 53 laws_markText.fn :=
  fnOk_of (E := laws_markText.env k) (ann := laws_markText.ann) ⟨look_nil, lookM_nil⟩ (by kernel_rfl) Tryz.func53 (by kernel_rfl) (by kernel_rfl) (by kernel_rfl) (of_decide_eq_true (by kernel_rfl)) (of_decide_eq_true (by kernel_rfl)) (fun _ h => h) (fun x => by kernel_rfl)

/-! loop.example/g00358/laws.markInodeS -/
def laws_markInodeS.b0 (k : Nat) (s : List (Int × ByteArray × Int) × Int × Int × Int) : Option ((List (Int × ByteArray × Int) × Int × Int × Int) ⊕ (List (Int × ByteArray × Int) × Int × Int) ⊕ (Int × List (Int × ByteArray × Int))) :=
  bif (decide (s.2.2.2 < (s.1.length : Int))) then ((inb? s.1.length s.2.2.2).bind fun j1 => (s.1[j1]?).bind fun y2 => (laws_markText.f k (IntKind.wrap .i64 (s.2.1 + 1))).bind fun r3 => (inb? (s.1.set j1 (s.2.1, y2.2)).length s.2.2.2).bind fun j4 => ((s.1.set j1 (s.2.1, y2.2))[j4]?).bind fun y5 => (inb? ((s.1.set j1 (s.2.1, y2.2)).set j4 (y5.1, r3, y5.2.2)).length s.2.2.2).bind fun j6 => (((s.1.set j1 (s.2.1, y2.2)).set j4 (y5.1, r3, y5.2.2))[j6]?).bind fun y7 => some (.inl (((s.1.set j1 (s.2.1, y2.2)).set j4 (y5.1, r3, y5.2.2)).set j6 (y7.1, y7.2.1, IntKind.wrap .i64 ((IntKind.wrap .i64 (s.2.1 + 1)) + 1)), IntKind.wrap .i64 ((IntKind.wrap .i64 ((IntKind.wrap .i64 (s.2.1 + 1)) + 1)) + 1), s.2.2.1, IntKind.wrap .i64 (s.2.2.2 + 1)))) else (some (.inr (.inl (s.1, s.2.1, s.2.2.1))))

def laws_markInodeS.d0 (k : Nat) (y : List (Int × ByteArray × Int) × Int × Int) : Option (Int × List (Int × ByteArray × Int)) :=
  some (y.2.1, y.1)

def laws_markInodeS.f (k : Nat) (a0 : List (Int × ByteArray × Int)) (a1 : Int) : Option (Int × List (Int × ByteArray × Int)) :=
  (iter (X := (List (Int × ByteArray × Int) × Int × Int) ⊕ (Int × List (Int × ByteArray × Int))) (laws_markInodeS.b0 k) k (a0, a1, 0, 0)).bind fun r => match r with | .inl y => laws_markInodeS.d0 k y | .inr o => some o

def laws_markInodeS.sig : Sig := ⟨[.lent false (.sl 115 (.pair (.int .i64) (.pair .str (.int .i64)))), .val false (.int .i64)], [⟨false, (.int .i64), true⟩]⟩
def laws_markInodeS.fn : Fn := ⟨laws_markInodeS.sig, fun k (x : List (Int × ByteArray × Int) × Int) => laws_markInodeS.f k x.1 x.2⟩
noncomputable def laws_markInodeS.env (k : Nat) : Env := ⟨Tryz.prog, 35, fun t => none, look [(53, laws_markText.fn)], k, laws_markInodeS.sig.pin, lookM []⟩
def laws_markInodeS.ann : Ann := .seq .leaf (.seq (.seq .leaf (.loop [.slot 0 false (.sl 115 (.pair (.int .i64) (.pair .str (.int .i64)))) true, .slot 1 false (.int .i64) false, .slot 4 false (.int .i64) false, .slot 5 false (.int .i64) false] [.slot 0 false (.sl 115 (.pair (.int .i64) (.pair .str (.int .i64)))) true, .slot 1 false (.int .i64) false, .slot 4 false (.int .i64) false] (.seq (.seq .leaf (.cond .leaf .leaf)) (.seq (.blk (.seq .leaf (.seq .leaf (.seq .leaf (.seq .leaf (.seq .leaf .leaf)))))) .leaf)))) (.seq .leaf .leaf))
theorem laws_markInodeS.ok (k : Nat) : FnOk Tryz.prog k 49 laws_markInodeS.fn :=
  fnOk_of (E := laws_markInodeS.env k) (ann := laws_markInodeS.ann) ⟨look_cons (laws_markText.ok k) (look_nil), lookM_nil⟩ (by kernel_rfl) Tryz.func49 (by kernel_rfl) (by kernel_rfl) (by kernel_rfl) (of_decide_eq_true (by kernel_rfl)) (of_decide_eq_true (by kernel_rfl)) (fun _ h => h) (fun x => by kernel_rfl)

/-! loop.example/g00358/laws.markLinkS -/
def laws_markLinkS.b0 (k : Nat) (s : List (ByteArray × Int) × Int × Int × Int) : Option ((List (ByteArray × Int) × Int × Int × Int) ⊕ (List (ByteArray × Int) × Int × Int) ⊕ (Int × List (ByteArray × Int))) :=
  bif (decide (s.2.2.2 < (s.1.length : Int))) then ((laws_markText.f k s.2.1).bind fun r1 => (inb? s.1.length s.2.2.2).bind fun j2 => (s.1[j2]?).bind fun y3 => (inb? (s.1.set j2 (r1, y3.2)).length s.2.2.2).bind fun j4 => ((s.1.set j2 (r1, y3.2))[j4]?).bind fun y5 => some (.inl ((s.1.set j2 (r1, y3.2)).set j4 (y5.1, IntKind.wrap .i64 (s.2.1 + 1)), IntKind.wrap .i64 ((IntKind.wrap .i64 (s.2.1 + 1)) + 1), s.2.2.1, IntKind.wrap .i64 (s.2.2.2 + 1)))) else (some (.inr (.inl (s.1, s.2.1, s.2.2.1))))

def laws_markLinkS.d0 (k : Nat) (y : List (ByteArray × Int) × Int × Int) : Option (Int × List (ByteArray × Int)) :=
  some (y.2.1, y.1)

def laws_markLinkS.f (k : Nat) (a0 : List (ByteArray × Int)) (a1 : Int) : Option (Int × List (ByteArray × Int)) :=
  (iter (X := (List (ByteArray × Int) × Int × Int) ⊕ (Int × List (ByteArray × Int))) (laws_markLinkS.b0 k) k (a0, a1, 0, 0)).bind fun r => match r with | .inl y => laws_markLinkS.d0 k y | .inr o => some o

def laws_markLinkS.sig : Sig := ⟨[.lent false (.sl 118 (.pair .str (.int .i64))), .val false (.int .i64)], [⟨false, (.int .i64), true⟩]⟩
def laws_markLinkS.fn : Fn := ⟨laws_markLinkS.sig, fun k (x : List (ByteArray × Int) × Int) => laws_markLinkS.f k x.1 x.2⟩
noncomputable def laws_markLinkS.env (k : Nat) : Env := ⟨Tryz.prog, 28, fun t => none, look [(53, laws_markText.fn)], k, laws_markLinkS.sig.pin, lookM []⟩
def laws_markLinkS.ann : Ann := .seq .leaf (.seq (.seq .leaf (.loop [.slot 0 false (.sl 118 (.pair .str (.int .i64))) true, .slot 1 false (.int .i64) false, .slot 4 false (.int .i64) false, .slot 5 false (.int .i64) false] [.slot 0 false (.sl 118 (.pair .str (.int .i64))) true, .slot 1 false (.int .i64) false, .slot 4 false (.int .i64) false] (.seq (.seq .leaf (.cond .leaf .leaf)) (.seq (.blk (.seq .leaf (.seq .leaf (.seq .leaf .leaf)))) .leaf)))) (.seq .leaf .leaf))
theorem laws_markLinkS.ok (k : Nat) : FnOk Tryz.prog k 50 laws_markLinkS.fn :=
  fnOk_of (E := laws_markLinkS.env k) (ann := laws_markLinkS.ann) ⟨look_cons (laws_markText.ok k) (look_nil), lookM_nil⟩ (by kernel_rfl) Tryz.func50 (by kernel_rfl) (by kernel_rfl) (by kernel_rfl) (of_decide_eq_true (by kernel_rfl)) (of_decide_eq_true (by kernel_rfl)) (fun _ h => h) (fun x => by kernel_rfl)

/-! loop.example/g00358/laws.markMoveS -/
def laws_markMoveS.b0 (k : Nat) (s : List (Int × ByteArray × ByteArray × Int) × Int × Int × Int) : Option ((List (Int × ByteArray × ByteArray × Int) × Int × Int × Int) ⊕ (List (Int × ByteArray × ByteArray × Int) × Int × Int) ⊕ (Int × List (Int × ByteArray × ByteArray × Int))) :=
  bif (decide (s.2.2.2 < (s.1.length : Int))) then ((inb? s.1.length s.2.2.2).bind fun j1 => (s.1[j1]?).bind fun y2 => (laws_markText.f k (IntKind.wrap .i64 (s.2.1 + 1))).bind fun r3 => (inb? (s.1.set j1 (s.2.1, y2.2)).length s.2.2.2).bind fun j4 => ((s.1.set j1 (s.2.1, y2.2))[j4]?).bind fun y5 => (laws_markText.f k (IntKind.wrap .i64 ((IntKind.wrap .i64 (s.2.1 + 1)) + 1))).bind fun r6 => (inb? ((s.1.set j1 (s.2.1, y2.2)).set j4 (y5.1, r3, y5.2.2)).length s.2.2.2).bind fun j7 => (((s.1.set j1 (s.2.1, y2.2)).set j4 (y5.1, r3, y5.2.2))[j7]?).bind fun y8 => (inb? (((s.1.set j1 (s.2.1, y2.2)).set j4 (y5.1, r3, y5.2.2)).set j7 (y8.1, y8.2.1, r6, y8.2.2.2)).length s.2.2.2).bind fun j9 => ((((s.1.set j1 (s.2.1, y2.2)).set j4 (y5.1, r3, y5.2.2)).set j7 (y8.1, y8.2.1, r6, y8.2.2.2))[j9]?).bind fun y10 => some (.inl ((((s.1.set j1 (s.2.1, y2.2)).set j4 (y5.1, r3, y5.2.2)).set j7 (y8.1, y8.2.1, r6, y8.2.2.2)).set j9 (y10.1, y10.2.1, y10.2.2.1, IntKind.wrap .i64 ((IntKind.wrap .i64 ((IntKind.wrap .i64 (s.2.1 + 1)) + 1)) + 1)), IntKind.wrap .i64 ((IntKind.wrap .i64 ((IntKind.wrap .i64 ((IntKind.wrap .i64 (s.2.1 + 1)) + 1)) + 1)) + 1), s.2.2.1, IntKind.wrap .i64 (s.2.2.2 + 1)))) else (some (.inr (.inl (s.1, s.2.1, s.2.2.1))))

def laws_markMoveS.d0 (k : Nat) (y : List (Int × ByteArray × ByteArray × Int) × Int × Int) : Option (Int × List (Int × ByteArray × ByteArray × Int)) :=
  some (y.2.1, y.1)

def laws_markMoveS.f (k : Nat) (a0 : List (Int × ByteArray × ByteArray × Int)) (a1 : Int) : Option (Int × List (Int × ByteArray × ByteArray × Int)) :=
  (iter (X := (List (Int × ByteArray × ByteArray × Int) × Int × Int) ⊕ (Int × List (Int × ByteArray × ByteArray × Int))) (laws_markMoveS.b0 k) k (a0, a1, 0, 0)).bind fun r => match r with | .inl y => laws_markMoveS.d0 k y | .inr o => some o

def laws_markMoveS.sig : Sig := ⟨[.lent false (.sl 120 (.pair (.int .i64) (.pair .str (.pair .str (.int .i64))))), .val false (.int .i64)], [⟨false, (.int .i64), true⟩]⟩
def laws_markMoveS.fn : Fn := ⟨laws_markMoveS.sig, fun k (x : List (Int × ByteArray × ByteArray × Int) × Int) => laws_markMoveS.f k x.1 x.2⟩
noncomputable def laws_markMoveS.env (k : Nat) : Env := ⟨Tryz.prog, 43, fun t => none, look [(53, laws_markText.fn)], k, laws_markMoveS.sig.pin, lookM []⟩
def laws_markMoveS.ann : Ann := .seq .leaf (.seq (.seq .leaf (.loop [.slot 0 false (.sl 120 (.pair (.int .i64) (.pair .str (.pair .str (.int .i64))))) true, .slot 1 false (.int .i64) false, .slot 4 false (.int .i64) false, .slot 5 false (.int .i64) false] [.slot 0 false (.sl 120 (.pair (.int .i64) (.pair .str (.pair .str (.int .i64))))) true, .slot 1 false (.int .i64) false, .slot 4 false (.int .i64) false] (.seq (.seq .leaf (.cond .leaf .leaf)) (.seq (.blk (.seq .leaf (.seq .leaf (.seq .leaf (.seq .leaf (.seq .leaf (.seq .leaf (.seq .leaf .leaf)))))))) .leaf)))) (.seq .leaf .leaf))
theorem laws_markMoveS.ok (k : Nat) : FnOk Tryz.prog k 51 laws_markMoveS.fn :=
  fnOk_of (E := laws_markMoveS.env k) (ann := laws_markMoveS.ann) ⟨look_cons (laws_markText.ok k) (look_nil), lookM_nil⟩ (by kernel_rfl) Tryz.func51 (by kernel_rfl) (by kernel_rfl) (by kernel_rfl) (of_decide_eq_true (by kernel_rfl)) (of_decide_eq_true (by kernel_rfl)) (fun _ h => h) (fun x => by kernel_rfl)

/-! loop.example/g00358/laws.markDisk -/
def laws_markDisk.f (k : Nat) (a0 : Int × Int × List (Int × ByteArray × Int) × List (ByteArray × Int) × List (Int × ByteArray × ByteArray × Int)) (a1 : Int) : Option (Int × Int × Int × List (Int × ByteArray × Int) × List (ByteArray × Int) × List (Int × ByteArray × ByteArray × Int)) :=
  (laws_markInodeS.f k a0.2.2.1 a1).bind fun r1 => (laws_markLinkS.f k a0.2.2.2.1 r1.1).bind fun r2 => (laws_markMoveS.f k a0.2.2.2.2 r2.1).bind fun r3 => some (r3.1, a0.1, a0.2.1, r1.2, r2.2, r3.2)

def laws_markDisk.sig : Sig := ⟨[.lent true (.pair (.int .i64) (.pair (.int .i64) (.pair (.sl 115 (.pair (.int .i64) (.pair .str (.int .i64)))) (.pair (.sl 118 (.pair .str (.int .i64))) (.sl 120 (.pair (.int .i64) (.pair .str (.pair .str (.int .i64))))))))), .val false (.int .i64)], [⟨false, (.int .i64), true⟩]⟩
def laws_markDisk.fn : Fn := ⟨laws_markDisk.sig, fun k (x : (Int × Int × List (Int × ByteArray × Int) × List (ByteArray × Int) × List (Int × ByteArray × ByteArray × Int)) × Int) => laws_markDisk.f k x.1 x.2⟩
noncomputable def laws_markDisk.env (k : Nat) : Env := ⟨Tryz.prog, 18, fun t => none, look [(49, laws_markInodeS.fn), (50, laws_markLinkS.fn), (51, laws_markMoveS.fn)], k, laws_markDisk.sig.pin, lookM []⟩
def laws_markDisk.ann : Ann := .seq .leaf (.seq .leaf (.seq .leaf (.seq .leaf (.seq .leaf .leaf))))
theorem laws_markDisk.ok (k : Nat) : FnOk Tryz.prog k 16 laws_markDisk.fn :=
  fnOk_of (E := laws_markDisk.env k) (ann := laws_markDisk.ann) ⟨look_cons (laws_markInodeS.ok k) (look_cons (laws_markLinkS.ok k) (look_cons (laws_markMoveS.ok k) (look_nil))), lookM_nil⟩ (by kernel_rfl) Tryz.func16 (by kernel_rfl) (by kernel_rfl) (by kernel_rfl) (of_decide_eq_true (by kernel_rfl)) (of_decide_eq_true (by kernel_rfl)) (fun _ h => h) (fun x => by kernel_rfl)

/-! loop.example/g00358/laws.markEntryS -/
def laws_markEntryS.b0 (k : Nat) (s : List (Int × ByteArray) × Int × Int × Int) : Option ((List (Int × ByteArray) × Int × Int × Int) ⊕ (List (Int × ByteArray) × Int × Int) ⊕ (Int × List (Int × ByteArray))) :=
  bif (decide (s.2.2.2 < (s.1.length : Int))) then ((inb? s.1.length s.2.2.2).bind fun j1 => (s.1[j1]?).bind fun y2 => (laws_markText.f k (IntKind.wrap .i64 (s.2.1 + 1))).bind fun r3 => (inb? (s.1.set j1 (s.2.1, y2.2)).length s.2.2.2).bind fun j4 => ((s.1.set j1 (s.2.1, y2.2))[j4]?).bind fun y5 => some (.inl ((s.1.set j1 (s.2.1, y2.2)).set j4 (y5.1, r3), IntKind.wrap .i64 ((IntKind.wrap .i64 (s.2.1 + 1)) + 1), s.2.2.1, IntKind.wrap .i64 (s.2.2.2 + 1)))) else (some (.inr (.inl (s.1, s.2.1, s.2.2.1))))

def laws_markEntryS.d0 (k : Nat) (y : List (Int × ByteArray) × Int × Int) : Option (Int × List (Int × ByteArray)) :=
  some (y.2.1, y.1)

def laws_markEntryS.f (k : Nat) (a0 : List (Int × ByteArray)) (a1 : Int) : Option (Int × List (Int × ByteArray)) :=
  (iter (X := (List (Int × ByteArray) × Int × Int) ⊕ (Int × List (Int × ByteArray))) (laws_markEntryS.b0 k) k (a0, a1, 0, 0)).bind fun r => match r with | .inl y => laws_markEntryS.d0 k y | .inr o => some o

def laws_markEntryS.sig : Sig := ⟨[.lent false (.sl 97 (.pair (.int .i64) .str)), .val false (.int .i64)], [⟨false, (.int .i64), true⟩]⟩
def laws_markEntryS.fn : Fn := ⟨laws_markEntryS.sig, fun k (x : List (Int × ByteArray) × Int) => laws_markEntryS.f k x.1 x.2⟩
noncomputable def laws_markEntryS.env (k : Nat) : Env := ⟨Tryz.prog, 28, fun t => none, look [(53, laws_markText.fn)], k, laws_markEntryS.sig.pin, lookM []⟩
def laws_markEntryS.ann : Ann := .seq .leaf (.seq (.seq .leaf (.loop [.slot 0 false (.sl 97 (.pair (.int .i64) .str)) true, .slot 1 false (.int .i64) false, .slot 4 false (.int .i64) false, .slot 5 false (.int .i64) false] [.slot 0 false (.sl 97 (.pair (.int .i64) .str)) true, .slot 1 false (.int .i64) false, .slot 4 false (.int .i64) false] (.seq (.seq .leaf (.cond .leaf .leaf)) (.seq (.blk (.seq .leaf (.seq .leaf (.seq .leaf .leaf)))) .leaf)))) (.seq .leaf .leaf))
theorem laws_markEntryS.ok (k : Nat) : FnOk Tryz.prog k 52 laws_markEntryS.fn :=
  fnOk_of (E := laws_markEntryS.env k) (ann := laws_markEntryS.ann) ⟨look_cons (laws_markText.ok k) (look_nil), lookM_nil⟩ (by kernel_rfl) Tryz.func52 (by kernel_rfl) (by kernel_rfl) (by kernel_rfl) (of_decide_eq_true (by kernel_rfl)) (of_decide_eq_true (by kernel_rfl)) (fun _ h => h) (fun x => by kernel_rfl)

/-! loop.example/g00358/laws.markWal -/
def laws_markWal.f (k : Nat) (a0 : Int × Int × Int × Int × List (Int × ByteArray)) (a1 : Int) : Option (Int × Int × Int × Int × Int × List (Int × ByteArray)) :=
  (laws_markEntryS.f k a0.2.2.2.2 a1).bind fun r1 => some (r1.1, a0.1, a0.2.1, a0.2.2.1, a0.2.2.2.1, r1.2)

def laws_markWal.sig : Sig := ⟨[.lent true (.pair (.int .i64) (.pair (.int .i64) (.pair (.int .i64) (.pair (.int .i64) (.sl 97 (.pair (.int .i64) .str)))))), .val false (.int .i64)], [⟨false, (.int .i64), true⟩]⟩
def laws_markWal.fn : Fn := ⟨laws_markWal.sig, fun k (x : (Int × Int × Int × Int × List (Int × ByteArray)) × Int) => laws_markWal.f k x.1 x.2⟩
noncomputable def laws_markWal.env (k : Nat) : Env := ⟨Tryz.prog, 10, fun t => none, look [(52, laws_markEntryS.fn)], k, laws_markWal.sig.pin, lookM []⟩
def laws_markWal.ann : Ann := .seq .leaf (.seq .leaf (.seq .leaf .leaf))
theorem laws_markWal.ok (k : Nat) : FnOk Tryz.prog k 17 laws_markWal.fn :=
  fnOk_of (E := laws_markWal.env k) (ann := laws_markWal.ann) ⟨look_cons (laws_markEntryS.ok k) (look_nil), lookM_nil⟩ (by kernel_rfl) Tryz.func17 (by kernel_rfl) (by kernel_rfl) (by kernel_rfl) (of_decide_eq_true (by kernel_rfl)) (of_decide_eq_true (by kernel_rfl)) (fun _ h => h) (fun x => by kernel_rfl)

/-! loop.example/g00358/laws.markKept -/
def laws_markKept.f (k : Nat) (a0 : (Int × Int × Int × Int × List (Int × ByteArray)) × (Int × Int × ByteArray) × Bool) (a1 : Int) : Option (Int × (Int × Int × Int × Int × List (Int × ByteArray)) × (Int × Int × ByteArray) × Bool) :=
  (laws_markWal.f k a0.1 a1).bind fun r1 => some (r1.1, (a0.1.1, a0.1.2.1, a0.1.2.2.1, a0.1.2.2.2.1, r1.2.2.2.2.2), a0.2)

def laws_markKept.sig : Sig := ⟨[.lent true (.pair (.pair (.int .i64) (.pair (.int .i64) (.pair (.int .i64) (.pair (.int .i64) (.sl 97 (.pair (.int .i64) .str)))))) (.pair (.pair (.int .i64) (.pair (.int .i64) .str)) .bool)), .val false (.int .i64)], [⟨false, (.int .i64), true⟩]⟩
def laws_markKept.fn : Fn := ⟨laws_markKept.sig, fun k (x : ((Int × Int × Int × Int × List (Int × ByteArray)) × (Int × Int × ByteArray) × Bool) × Int) => laws_markKept.f k x.1 x.2⟩
noncomputable def laws_markKept.env (k : Nat) : Env := ⟨Tryz.prog, 10, fun t => none, look [(17, laws_markWal.fn)], k, laws_markKept.sig.pin, lookM []⟩
def laws_markKept.ann : Ann := .seq .leaf (.seq .leaf (.seq .leaf .leaf))
theorem laws_markKept.ok (k : Nat) : FnOk Tryz.prog k 23 laws_markKept.fn :=
  fnOk_of (E := laws_markKept.env k) (ann := laws_markKept.ann) ⟨look_cons (laws_markWal.ok k) (look_nil), lookM_nil⟩ (by kernel_rfl) Tryz.func23 (by kernel_rfl) (by kernel_rfl) (by kernel_rfl) (of_decide_eq_true (by kernel_rfl)) (of_decide_eq_true (by kernel_rfl)) (fun _ h => h) (fun x => by kernel_rfl)

/-! loop.example/g00358/laws.heldEntryS -/
def laws_heldEntryS.b0 (k : Nat) (s : List (Int × ByteArray) × Int × Int × Int) : Option ((List (Int × ByteArray) × Int × Int × Int) ⊕ (Int × Int) ⊕ Int) :=
  bif (decide (s.2.2.2 < (s.1.length : Int))) then ((inb? s.1.length s.2.2.2).bind fun j1 => (s.1[j1]?).bind fun y2 => bif (!decide (y2.1 = s.2.1)) then (some (.inr (.inr (-1)))) else ((inb? s.1.length s.2.2.2).bind fun j3 => (s.1[j3]?).bind fun y4 => (laws_markText.f k (IntKind.wrap .i64 (s.2.1 + 1))).bind fun r5 => bif (!decide (y4.2 = r5)) then (some (.inr (.inr (-1)))) else (some (.inl (s.1, IntKind.wrap .i64 ((IntKind.wrap .i64 (s.2.1 + 1)) + 1), s.2.2.1, IntKind.wrap .i64 (s.2.2.2 + 1)))))) else (some (.inr (.inl (s.2.1, s.2.2.1))))

def laws_heldEntryS.d0 (k : Nat) (y : Int × Int) : Option Int :=
  some y.1

def laws_heldEntryS.f (k : Nat) (a0 : List (Int × ByteArray)) (a1 : Int) : Option Int :=
  (iter (X := (Int × Int) ⊕ Int) (laws_heldEntryS.b0 k) k (a0, a1, 0, 0)).bind fun r => match r with | .inl y => laws_heldEntryS.d0 k y | .inr o => some o

def laws_heldEntryS.sig : Sig := ⟨[.val false (.sl 97 (.pair (.int .i64) .str)), .val false (.int .i64)], [⟨false, (.int .i64), true⟩]⟩
def laws_heldEntryS.fn : Fn := ⟨laws_heldEntryS.sig, fun k (x : List (Int × ByteArray) × Int) => laws_heldEntryS.f k x.1 x.2⟩
noncomputable def laws_heldEntryS.env (k : Nat) : Env := ⟨Tryz.prog, 32, fun t => none, look [(53, laws_markText.fn)], k, laws_heldEntryS.sig.pin, lookM []⟩
def laws_heldEntryS.ann : Ann := .seq .leaf (.seq (.seq .leaf (.loop [.slot 0 false (.sl 97 (.pair (.int .i64) .str)) false, .slot 1 false (.int .i64) false, .slot 4 false (.int .i64) false, .slot 5 false (.int .i64) false] [.slot 1 false (.int .i64) false, .slot 4 false (.int .i64) false] (.seq (.seq .leaf (.cond .leaf .leaf)) (.seq (.blk (.seq (.seq .leaf (.cond (.seq .leaf .leaf) .leaf)) (.seq .leaf (.seq (.seq .leaf (.cond (.seq .leaf .leaf) .leaf)) .leaf)))) .leaf)))) (.seq .leaf .leaf))
theorem laws_heldEntryS.ok (k : Nat) : FnOk Tryz.prog k 115 laws_heldEntryS.fn :=
  fnOk_of (E := laws_heldEntryS.env k) (ann := laws_heldEntryS.ann) ⟨look_cons (laws_markText.ok k) (look_nil), lookM_nil⟩ (by kernel_rfl) Tryz.func115 (by kernel_rfl) (by kernel_rfl) (by kernel_rfl) (of_decide_eq_true (by kernel_rfl)) (of_decide_eq_true (by kernel_rfl)) (fun _ h => h) (fun x => by kernel_rfl)

/-! loop.example/g00358/laws.heldWal -/
def laws_heldWal.f (k : Nat) (a0 : Int × Int × Int × Int × List (Int × ByteArray)) (a1 : Int) : Option Int :=
  (laws_heldEntryS.f k a0.2.2.2.2 a1).bind fun r1 => bif (decide (r1 < 0)) then (some (-1)) else (some r1)

def laws_heldWal.sig : Sig := ⟨[.val true (.pair (.int .i64) (.pair (.int .i64) (.pair (.int .i64) (.pair (.int .i64) (.sl 97 (.pair (.int .i64) .str)))))), .val false (.int .i64)], [⟨false, (.int .i64), true⟩]⟩
def laws_heldWal.fn : Fn := ⟨laws_heldWal.sig, fun k (x : (Int × Int × Int × Int × List (Int × ByteArray)) × Int) => laws_heldWal.f k x.1 x.2⟩
noncomputable def laws_heldWal.env (k : Nat) : Env := ⟨Tryz.prog, 12, fun t => none, look [(115, laws_heldEntryS.fn)], k, laws_heldWal.sig.pin, lookM []⟩
def laws_heldWal.ann : Ann := .seq .leaf (.seq .leaf (.seq (.seq .leaf (.cond (.seq .leaf .leaf) .leaf)) (.seq .leaf .leaf)))
theorem laws_heldWal.ok (k : Nat) : FnOk Tryz.prog k 64 laws_heldWal.fn :=
  fnOk_of (E := laws_heldWal.env k) (ann := laws_heldWal.ann) ⟨look_cons (laws_heldEntryS.ok k) (look_nil), lookM_nil⟩ (by kernel_rfl) Tryz.func64 (by kernel_rfl) (by kernel_rfl) (by kernel_rfl) (of_decide_eq_true (by kernel_rfl)) (of_decide_eq_true (by kernel_rfl)) (fun _ h => h) (fun x => by kernel_rfl)

/-! loop.example/g00358/laws.heldKept -/
def laws_heldKept.f (k : Nat) (a0 : (Int × Int × Int × Int × List (Int × ByteArray)) × (Int × Int × ByteArray) × Bool) (a1 : Int) : Option Int :=
  (laws_heldWal.f k a0.1 a1).bind fun r1 => bif (decide (r1 < 0)) then (some (-1)) else (some r1)

def laws_heldKept.sig : Sig := ⟨[.val true (.pair (.pair (.int .i64) (.pair (.int .i64) (.pair (.int .i64) (.pair (.int .i64) (.sl 97 (.pair (.int .i64) .str)))))) (.pair (.pair (.int .i64) (.pair (.int .i64) .str)) .bool)), .val false (.int .i64)], [⟨false, (.int .i64), true⟩]⟩
def laws_heldKept.fn : Fn := ⟨laws_heldKept.sig, fun k (x : ((Int × Int × Int × Int × List (Int × ByteArray)) × (Int × Int × ByteArray) × Bool) × Int) => laws_heldKept.f k x.1 x.2⟩
noncomputable def laws_heldKept.env (k : Nat) : Env := ⟨Tryz.prog, 12, fun t => none, look [(64, laws_heldWal.fn)], k, laws_heldKept.sig.pin, lookM []⟩
def laws_heldKept.ann : Ann := .seq .leaf (.seq .leaf (.seq (.seq .leaf (.cond (.seq .leaf .leaf) .leaf)) (.seq .leaf .leaf)))
theorem laws_heldKept.ok (k : Nat) : FnOk Tryz.prog k 24 laws_heldKept.fn :=
  fnOk_of (E := laws_heldKept.env k) (ann := laws_heldKept.ann) ⟨look_cons (laws_heldWal.ok k) (look_nil), lookM_nil⟩ (by kernel_rfl) Tryz.func24 (by kernel_rfl) (by kernel_rfl) (by kernel_rfl) (of_decide_eq_true (by kernel_rfl)) (of_decide_eq_true (by kernel_rfl)) (fun _ h => h) (fun x => by kernel_rfl)

/-! loop.example/g00358/laws.FnExactRecover -/
def laws_FnExactRecover.f (k : Nat) (a0 : Int × Int × List (Int × ByteArray × Int) × List (ByteArray × Int) × List (Int × ByteArray × ByteArray × Int)) : Option Bool :=
  (laws_szDisk.f k a0 1048576).bind fun r1 => bif (decide (r1 < 0)) then (some true) else ((laws_toDisk.f k a0).bind fun r2 => (spec_Recover.f k r2).bind fun r3 => (laws_toDisk.f k a0).bind fun r4 => (impl_Recover.f k r4).bind fun r5 => (laws_eqKept.f k r5.1 r3.1).bind fun r6 => bif (!r6) then (some false) else (bif (!decide (r5.2 = r3.2)) then (some false) else ((laws_toDisk.f k a0).bind fun r7 => (laws_eqDisk.f k r4 r7).bind fun r8 => bif (!r8) then (some false) else ((laws_markDisk.f k r4 1).bind fun r9 => bif (decide (r9.1 < 0)) then (some false) else ((laws_eqKept.f k r5.1 r3.1).bind fun r10 => bif (!r10) then (some false) else (bif (!decide (r5.2 = r3.2)) then (some false) else ((laws_markKept.f k r5.1 1).bind fun r11 => (laws_heldKept.f k ((r5.1.1.1, r5.1.1.2.1, r5.1.1.2.2.1, r5.1.1.2.2.2.1, r11.2.1.2.2.2.2), r5.1.2) 1).bind fun r12 => bif (decide (r12 < 0)) then (some false) else (bif (!decide (r12 = r11.1)) then (some false) else ((laws_toDisk.f k a0).bind fun r13 => (impl_Recover.f k r13).bind fun r14 => (laws_eqKept.f k r14.1 r3.1).bind fun r15 => bif (!r15) then (some false) else (bif (!decide (r14.2 = r3.2)) then (some false) else ((laws_heldKept.f k ((r5.1.1.1, r5.1.1.2.1, r5.1.1.2.2.1, r5.1.1.2.2.2.1, r11.2.1.2.2.2.2), r5.1.2) 1).bind fun r16 => bif (decide (r16 < 0)) then (some false) else (bif (!decide (r16 = r11.1)) then (some false) else (some true)))))))))))))

def laws_FnExactRecover.sig : Sig := ⟨[.val true (.pair (.int .i64) (.pair (.int .i64) (.pair (.sl 104 (.pair (.int .i64) (.pair .str (.int .i64)))) (.pair (.sl 107 (.pair .str (.int .i64))) (.sl 110 (.pair (.int .i64) (.pair .str (.pair .str (.int .i64)))))))))], [⟨false, .bool, true⟩]⟩
def laws_FnExactRecover.fn : Fn := ⟨laws_FnExactRecover.sig, fun k (x : Int × Int × List (Int × ByteArray × Int) × List (ByteArray × Int) × List (Int × ByteArray × ByteArray × Int)) => laws_FnExactRecover.f k x⟩
noncomputable def laws_FnExactRecover.env (k : Nat) : Env := ⟨Tryz.prog, 96, fun t => none, look [(5, laws_szDisk.fn), (9, laws_toDisk.fn), (20, spec_Recover.fn), (21, impl_Recover.fn), (22, laws_eqKept.fn), (14, laws_eqDisk.fn), (16, laws_markDisk.fn), (23, laws_markKept.fn), (24, laws_heldKept.fn)], k, laws_FnExactRecover.sig.pin, lookM []⟩
def laws_FnExactRecover.ann : Ann := .seq .leaf (.seq .leaf (.seq .leaf (.seq (.seq .leaf (.cond (.seq .leaf .leaf) .leaf)) (.seq .leaf (.seq .leaf (.seq .leaf (.seq (.seq .leaf (.cond (.seq .leaf .leaf) .leaf)) (.seq (.seq .leaf (.cond (.seq .leaf .leaf) .leaf)) (.seq .leaf (.seq .leaf (.seq (.seq .leaf (.cond (.seq .leaf .leaf) .leaf)) (.seq .leaf (.seq .leaf (.seq .leaf (.seq .leaf (.seq (.seq .leaf (.cond (.seq .leaf .leaf) .leaf)) (.seq (.seq .leaf (.cond (.seq .leaf .leaf) .leaf)) (.seq .leaf (.seq (.seq .leaf (.cond (.seq .leaf .leaf) .leaf)) (.seq .leaf (.seq .leaf (.seq (.seq .leaf (.cond (.seq .leaf .leaf) .leaf)) (.seq (.seq .leaf (.cond (.seq .leaf .leaf) .leaf)) (.seq .leaf .leaf))))))))))))))))))))))))
theorem laws_FnExactRecover.ok (k : Nat) : FnOk Tryz.prog k 4 laws_FnExactRecover.fn :=
  fnOk_of (E := laws_FnExactRecover.env k) (ann := laws_FnExactRecover.ann) ⟨look_cons (laws_szDisk.ok k) (look_cons (laws_toDisk.ok k) (look_cons (spec_Recover.ok k) (look_cons (impl_Recover.ok k) (look_cons (laws_eqKept.ok k) (look_cons (laws_eqDisk.ok k) (look_cons (laws_markDisk.ok k) (look_cons (laws_markKept.ok k) (look_cons (laws_heldKept.ok k) (look_nil))))))))), lookM_nil⟩ (by kernel_rfl) Tryz.func4 (by kernel_rfl) (by kernel_rfl) (by kernel_rfl) (of_decide_eq_true (by kernel_rfl)) (of_decide_eq_true (by kernel_rfl)) (fun _ h => h) (fun x => by kernel_rfl)

end Go.Proofs.YtgocmmfhglppjaaGreatDoor.Rx
