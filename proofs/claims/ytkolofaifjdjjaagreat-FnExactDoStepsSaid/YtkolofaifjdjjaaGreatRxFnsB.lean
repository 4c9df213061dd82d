/- Functions of the program as typed functions, each with its contract, shown by the evaluator's soundness. No condition. -/
import Derived.Test.YtkolofaifjdjjaaGreatRxFnsA
import Derived.Test.YtkolofaifjdjjaaGreatProg
import Derived.KernelRfl
set_option linter.unusedVariables false
set_option linter.unusedSimpArgs false
namespace Go.Proofs.YtkolofaifjdjjaaGreat.Rx
open Go.Proofs
/-! loop.example/g00358/impl.linkAt$1 -/
def impl_linkAt_in.f (k : Nat) (a0 : ByteArray × Int) (a1 : ByteArray) : Option Bool :=
  some (decide (a0.1 = a1))

def impl_linkAt_in.sig : Sig := ⟨[.val true (.pair .str (.int .i64)), .box 9 .str false false], [⟨false, .bool, true⟩]⟩
def impl_linkAt_in.fn : Fn := ⟨impl_linkAt_in.sig, fun k (x : (ByteArray × Int) × ByteArray) => impl_linkAt_in.f k x.1 x.2⟩
noncomputable def impl_linkAt_in.env (k : Nat) : Env := ⟨Tryz.prog, 8, fun t => none, look [], k, impl_linkAt_in.sig.pin⟩
def impl_linkAt_in.ann : Ann := .seq .leaf (.seq .leaf .leaf)
theorem impl_linkAt_in.ok (k : Nat) : FnOk Tryz.prog k 102 impl_linkAt_in.fn :=
  fnOk_of (E := impl_linkAt_in.env k) (ann := impl_linkAt_in.ann) (look_nil) (by kernel_rfl) Tryz.func102 (by kernel_rfl) (by kernel_rfl) (by kernel_rfl) (of_decide_eq_true (by kernel_rfl)) (of_decide_eq_true (by kernel_rfl)) (fun _ h => h) (fun x => by kernel_rfl)

/-! slices.IndexFunc[[]loop.example/g00358/impl.Link,loop.example/g00358/impl.Link] -/
def slices_IndexFunc_Link_impl_linkAt_in.b0 (k : Nat) (s : List (ByteArray × Int) × Int × Int × Int × ByteArray) : Option ((List (ByteArray × Int) × Int × Int × Int × ByteArray) ⊕ Int ⊕ Int) :=
  bif (decide (s.2.2.2.1 < s.2.2.1)) then ((inb? s.1.length s.2.2.2.1).bind fun j1 => (s.1[j1]?).bind fun y2 => (impl_linkAt_in.f k y2 s.2.2.2.2).bind fun r3 => bif r3 then (some (.inr (.inr s.2.2.2.1))) else (some (.inl (s.1, s.2.1, s.2.2.1, IntKind.wrap .i64 (s.2.2.2.1 + 1), s.2.2.2.2)))) else (some (.inr (.inl s.2.1)))

def slices_IndexFunc_Link_impl_linkAt_in.d0 (k : Nat) (y : Int) : Option Int :=
  some (-1)

def slices_IndexFunc_Link_impl_linkAt_in.f (k : Nat) (a0 : List (ByteArray × Int)) (a1 : ByteArray) : Option Int :=
  (iter (X := Int ⊕ Int) (slices_IndexFunc_Link_impl_linkAt_in.b0 k) k (a0, 0, (a0.length : Int), 0, a1)).bind fun r => match r with | .inl y => slices_IndexFunc_Link_impl_linkAt_in.d0 k y | .inr o => some o

def slices_IndexFunc_Link_impl_linkAt_in.sig : Sig := ⟨[.val false (.sl 82 (.pair .str (.int .i64))), .clo 102 false 9 .str], [⟨false, (.int .i64), true⟩]⟩
def slices_IndexFunc_Link_impl_linkAt_in.fn : Fn := ⟨slices_IndexFunc_Link_impl_linkAt_in.sig, fun k (x : List (ByteArray × Int) × ByteArray) => slices_IndexFunc_Link_impl_linkAt_in.f k x.1 x.2⟩
noncomputable def slices_IndexFunc_Link_impl_linkAt_in.env (k : Nat) : Env := ⟨Tryz.prog, 19, fun t => none, look [(102, impl_linkAt_in.fn)], k, slices_IndexFunc_Link_impl_linkAt_in.sig.pin⟩
def slices_IndexFunc_Link_impl_linkAt_in.ann : Ann := .seq .leaf (.seq (.seq .leaf (.loop [.slot 0 false (.sl 82 (.pair .str (.int .i64))) false, .fnp 1 102 false 2, .slot 4 false (.int .i64) false, .slot 7 false (.int .i64) false, .slot 8 false (.int .i64) false, .box 2 9 .str false true] [.slot 4 false (.int .i64) false] (.seq .leaf (.seq (.cond .leaf .leaf) (.seq (.blk (.seq .leaf (.seq .leaf (.cond (.seq .leaf .leaf) .leaf)))) .leaf))))) (.seq .leaf .leaf))
theorem slices_IndexFunc_Link_impl_linkAt_in.ok (k : Nat) : FnOk Tryz.prog k 101 slices_IndexFunc_Link_impl_linkAt_in.fn :=
  fnOk_of (E := slices_IndexFunc_Link_impl_linkAt_in.env k) (ann := slices_IndexFunc_Link_impl_linkAt_in.ann) (look_cons (impl_linkAt_in.ok k) (look_nil)) (by kernel_rfl) Tryz.func101 (by kernel_rfl) (by kernel_rfl) (by kernel_rfl) (of_decide_eq_true (by kernel_rfl)) (of_decide_eq_true (by kernel_rfl)) (fun _ h => h) (fun x => by kernel_rfl)

/-! loop.example/g00358/impl.linkAt -/
def impl_linkAt.f (k : Nat) (a0 : List (ByteArray × Int)) (a1 : ByteArray) : Option Int :=
  (slices_IndexFunc_Link_impl_linkAt_in.f k a0 a1).bind fun r1 => some r1

def impl_linkAt.sig : Sig := ⟨[.val false (.sl 82 (.pair .str (.int .i64))), .val false .str], [⟨false, (.int .i64), true⟩]⟩
def impl_linkAt.fn : Fn := ⟨impl_linkAt.sig, fun k (x : List (ByteArray × Int) × ByteArray) => impl_linkAt.f k x.1 x.2⟩
noncomputable def impl_linkAt.env (k : Nat) : Env := ⟨Tryz.prog, 8, fun t => none, look [(101, slices_IndexFunc_Link_impl_linkAt_in.fn)], k, impl_linkAt.sig.pin⟩
def impl_linkAt.ann : Ann := .seq .leaf (.seq .leaf .leaf)
theorem impl_linkAt.ok (k : Nat) : FnOk Tryz.prog k 91 impl_linkAt.fn :=
  fnOk_of (E := impl_linkAt.env k) (ann := impl_linkAt.ann) (look_cons (slices_IndexFunc_Link_impl_linkAt_in.ok k) (look_nil)) (by kernel_rfl) Tryz.func91 (by kernel_rfl) (by kernel_rfl) (by kernel_rfl) (of_decide_eq_true (by kernel_rfl)) (of_decide_eq_true (by kernel_rfl)) (fun _ h => h) (fun x => by kernel_rfl)

section
open Go.Proofs Go.Shelf Go.RowKit Go.Lib
theorem Hand.infoLink : ∃ i : TypeInfo, Tryz.prog.info? 82 = some i ∧ i.size = 2 ∧ i.bytes = 24 ∧ ∃ z, i.zero = some z ∧ z.cells.size = 2 := by
  have h : (Tryz.prog.info? 82).map (fun i => (i.zero, i.size, i.bytes)) = some (some (.agg #[.string ⟨#[]⟩, .int .i64 0]), 2, 24) := by kernel_rfl
  cases hq : Tryz.prog.info? 82 with
  | none => rw [hq] at h; cases h
  | some i =>
    rw [hq] at h
    simp only [Option.map_some, Option.some.injEq, Prod.mk.injEq] at h
    exact ⟨i, rfl, h.2.1, h.2.2, _, h.1, rfl⟩

theorem Hand.zeroLink : ∃ z : Value, (∀ w, (zeroValue 82).run Tryz.prog w = .ok z w) ∧ z.cells.size = 2 ∧ ∀ n, ∀ v ∈ (Builtin.zeroCells z.cells n).toList, v.oneCell' = true := by
  refine ⟨_, Tryz.zeroValue82, rfl, fun n v hv => ?_⟩
  simp only [Builtin.zeroCells] at hv
  obtain ⟨j, hj, rfl⟩ := List.getElem_of_mem hv
  simp [Value.cells]
  have : j % 2 = 0 ∨ j % 2 = 1 := by omega
  rcases this with h | h <;> rw [h] <;> rfl

end
def cvLink (x : (ByteArray × Int)) : List Value := [.string x.1, .int .i64 x.2]
theorem cvLink_len (x : (ByteArray × Int)) : (cvLink x).length = 2 := rfl
theorem cvLink_rd {w : World} {S : Nat → Prop} (x : (ByteArray × Int)) : RdT w S (.pair .str (.int .i64)) x (cvLink x) := by unfold cvLink; exact ⟨[_], [_], rfl, rfl, rfl⟩
section
open Go.Proofs Go.Shelf Go.RowKit Go.Lib

set_option maxHeartbeats 4000000 in
set_option maxRecDepth 100000 in
theorem Hand.ins_shift_Link (w : World) (b off n c i vb voff vc : Nat) (cur curv : Array Value) (X V : List Value) (hb : w.heap[b]? = some (.cells cur 82 (0, 0))) (hv : w.heap[vb]? = some (.cells curv 82 (0, 0))) (hne : vb ≠ b)
    (hi : i < n) (hroom : n + 1 ≤ c) (hbig : (n + 1) * 24 ≤ 140737488355328) (hfit : off + c * 2 ≤ cur.size) (hfv : voff + vc * 2 ≤ curv.size) (h1c : 1 ≤ vc)
    (hXl : X.length = n * 2) (hX : ∀ (j : Nat) (v : Value), X[j]? = some v → cur[off + j]? = some v) (h1X : ∀ v ∈ X, v.oneCell' = true)
    (hVl : V.length = 2) (hV : ∀ (j : Nat) (v : Value), V[j]? = some v → curv[voff + j]? = some v) (h1V : ∀ v ∈ V, v.oneCell' = true) :
    Calls Tryz.prog 103 #[.slice (some ⟨b, off, none⟩) n c, .int .i64 i, .slice (some ⟨vb, voff, none⟩) 1 vc] w (InsPost 82 2 w (some b) (X.take (i * 2) ++ V ++ X.drop (i * 2)) (n + 1)) := by
  have hz2 : ¬ ((i : Int) = (n : Int)) := by omega
  have hov : ∀ lb cb, (callFunc 104 #[.slice (some ⟨vb, voff, none⟩) 1 vc, .slice (some ⟨b, off + (i + 1) * 2, none⟩) lb cb]).run Tryz.prog w = .ok (.value (.bool false)) w := fun lb cb => by
    rw [run_callFunc_extern Tryz.func104 (by kernel_rfl) (by kernel_rfl) (by kernel_rfl) (e := Extern.SlicesOverlaps.overlaps #[31, 31] #[4]) (by kernel_rfl),
      Lib.run_overlaps_apart w 31 4 82 Tryz.underlying31 2 Tryz.sizeOf82 ⟨vb, voff, none⟩ ⟨b, off + (i + 1) * 2, none⟩ 1 vc lb cb hne 82 82 curv.size cur.size (by simp [World.shape?, hv]) (by simp [World.shape?, hb]) (by omega) (by simp [World.frozen?, hv]) (by simp [World.frozen?, hv])]
    rfl
  have hw1 : IntKind.i64.wrap ((i : Int) + 1) = (i : Int) + 1 := by rw [IntKind.wrap_i64]; omega
  have hw2 : IntKind.i64.wrap ((n : Int) + 1) = (n : Int) + 1 := by rw [IntKind.wrap_i64]; omega
  have hb1 : (0 : Int) ≤ (i : Int) + 1 := by omega
  have hin : i ≤ n := by omega
  have htn : ((i : Int) + 1).toNat = i + 1 := by omega
  have htn2 : ((n : Int) + 1).toNat = n + 1 := by omega
  have hb2 : ¬ (c = i + 1) := by omega
  have hb3 : (i : Int) ≤ (n : Int) + 1 := by omega
  have hb4 : ¬ (c = i) := by omega
  have hb5 : ¬ ((c : Int) < (n : Int) + 1) := by omega
  have hsz : (Tryz.prog.info? 82).map (·.size) = some 2 := by kernel_rfl
  have hdl : (X.drop (i * 2)).length = (n - i) * 2 := by rw [List.length_drop, hXl, Nat.sub_mul]
  obtain ⟨A, hA⟩ : ∃ A : Array Value, A = (cur.toList.take (off + (i + 1) * 2) ++ X.drop (i * 2) ++ cur.toList.drop (off + (i + 1) * 2 + (X.drop (i * 2)).length)).toArray := ⟨_, rfl⟩
  have hcp1 : ∀ ty dc sc, (Builtin.copy_ #[31, 31] ty #[.slice (some ⟨b, off + (i + 1) * 2, none⟩) (n - i) dc, .slice (some ⟨b, off + i * 2, none⟩) (n + 1 - i) sc]).run Tryz.prog w.drew = .ok (goInt ((n - i : Nat) : Int)) (w.drew.setRow b A) := fun ty dc sc => by
    rw [hA]
    exact run_copy_k w.drew 31 31 ty 82 b (off + (i + 1) * 2) (n - i) dc ⟨b, off + i * 2, none⟩ (n + 1 - i) sc cur 82 (X.drop (i * 2)) 2 Tryz.underlying31 hsz hb (n - i) (by simp only [Nat.min_def]; split <;> omega) hdl
      (fun j v hj => by
        rw [List.getElem?_drop] at hj
        show w.cell? _ = _
        rw [Addr.add_lit, cell_of_row w b _ cur 82 (0, 0) hb, show off + i * 2 + j = off + (i * 2 + j) by omega]
        exact hX _ v hj) (by rw [hdl]; omega) (fun v hv => h1X v (List.mem_of_mem_drop hv))
  have hAl : A.toList = cur.toList.take (off + (i + 1) * 2) ++ X.drop (i * 2) ++ cur.toList.drop (off + (i + 1) * 2 + (X.drop (i * 2)).length) := by rw [hA]
  have hAs : A.size = cur.size := by rw [hA]; simp only [List.size_toArray, List.length_append, List.length_take, List.length_drop, Array.length_toList, hXl]; omega
  obtain ⟨B, hB⟩ : ∃ B : Array Value, B = (A.toList.take (off + i * 2) ++ V ++ A.toList.drop (off + i * 2 + V.length)).toArray := ⟨_, rfl⟩
  have hBl : B.toList = A.toList.take (off + i * 2) ++ V ++ A.toList.drop (off + i * 2 + V.length) := by rw [hB]
  have hBs : B.size = A.size := by rw [hB]; simp only [List.size_toArray, List.length_append, List.length_take, List.length_drop, Array.length_toList, hVl]; omega
  have hgA : (w.drew.setRow b A).heap[b]? = some (.cells A 82 (0, 0)) := setRow_heap w.drew b cur A 82 (0, 0) hb
  have hgv : (w.drew.setRow b A).heap[vb]? = some (.cells curv 82 (0, 0)) := (setRow_other w.drew b _ _ hne).trans hv
  have hcp2 : ∀ (W : World), W.heap = (w.drew.setRow b A).heap → ∀ ty dc, (Builtin.copy_ #[31, 31] ty #[.slice (some ⟨b, off + i * 2, none⟩) (n + 1 - i) dc, .slice (some ⟨vb, voff, none⟩) 1 vc]).run Tryz.prog W = .ok (goInt ((1 : Nat) : Int)) (W.setRow b B) := fun W hW ty dc => by
    rw [hB]
    exact run_copy_k W 31 31 ty 82 b (off + i * 2) (n + 1 - i) dc ⟨vb, voff, none⟩ 1 vc A 82 V 2 Tryz.underlying31 hsz (by rw [hW]; exact hgA) 1 (by simp only [Nat.min_def]; split <;> omega) hVl
      (fun j v hj => by
        rw [Addr.add_lit, cell_of_row W vb _ curv 82 (0, 0) (by rw [hW]; exact hgv)]
        exact hV _ v hj) (by rw [hVl, hAs]; omega) h1V
  have hfin : ∀ (j : Nat) (v : Value), (X.take (i * 2) ++ V ++ X.drop (i * 2))[j]? = some v → B[off + j]? = some v := by
    intro j v hj
    rw [← Array.getElem?_toList, hBl, laid_get A.toList V (off + i * 2) (off + j) (by simp; omega), hVl]
    have hXt : (X.take (i * 2)).length = i * 2 := by rw [List.length_take, hXl]; omega
    by_cases c1 : j < i * 2
    · rw [if_pos (by omega), hAl, laid_get cur.toList (X.drop (i * 2)) (off + (i + 1) * 2) (off + j) (by rw [hdl]; simp; omega), if_pos (by omega)]
      rw [List.append_assoc, List.getElem?_append_left (by omega), List.getElem?_take, if_pos c1] at hj
      simpa using hX j v hj
    · rw [if_neg (by omega)]
      rw [List.append_assoc, List.getElem?_append_right (by omega), hXt] at hj
      by_cases c2 : j < i * 2 + 2
      · rw [if_pos (by omega)]
        rw [List.getElem?_append_left (by omega)] at hj
        rw [show off + j - (off + i * 2) = j - i * 2 by omega]; exact hj
      · rw [if_neg (by omega), hAl, laid_get cur.toList (X.drop (i * 2)) (off + (i + 1) * 2) (off + j) (by rw [hdl]; simp; omega), if_neg (by omega)]
        rw [List.getElem?_append_right (by omega), hVl] at hj
        have hlt := (List.getElem?_eq_some_iff.1 hj).1
        rw [if_pos (by omega), show off + j - (off + (i + 1) * 2) = j - i * 2 - 2 by omega]; exact hj
  have F : Aside ((w.drew.setRow b A).heap[b]? = some (.cells A 82 (0, 0)) ∧ off + c * 2 ≤ B.size ∧ ∀ (j : Nat) (v : Value), (X.take (i * 2) ++ V ++ X.drop (i * 2))[j]? = some v → B[off + j]? = some v) := ⟨hgA, by omega, hfin⟩
  clear hA hB hAl hBl hAs hBs hfin hgA hgv hX hV hdl hb hv
  have mixed : Tryz.prog.follows .mixedOrders = true := by kernel_rfl
  go_enter Tryz.func103, Tryz.ntmps103
  go_wp2_with (simp only [hov])
  go_region_law_o (refine step_copy_runI rfl _ _ 31 31 rfl _ _ (by simp [Act.eval, Act.put]) (by simp [Act.eval, Act.put]) (hcp1 _ _ _) ?_)
  go_wp2_with (at_builtin; refine wpList_copy_runI _ rfl _ _ 31 31 rfl _ _ rfl rfl (hcp2 _ rfl _ _) ?_)
  go_ret
  refine ⟨b, off, c, B, rfl, hroom, setRow_heap _ b A B 82 (0, 0) F.out.1, F.out.2.1, by simpa [List.append_assoc] using F.out.2.2, ⟨rfl, rfl, rfl, rfl, by simp [size_setRow], fun k hk hm => ?_⟩, .inl rfl⟩
  rw [setRow_other _ b _ _ (fun e => hm (by rw [e])), setRow_other _ b _ _ (fun e => hm (by rw [e]))]
  rfl

set_option maxHeartbeats 4000000 in
set_option maxRecDepth 100000 in
/-- at the end -/
theorem Hand.ins_end_Link (w : World) (b : Option Addr) (n c vb voff vc : Nat) (curv : Array Value) (X V : List Value) (hb : ∀ ad, b = some ad → ad.spot = none ∧ ∃ cur, w.heap[ad.block]? = some (.cells cur 82 (0, 0)) ∧ ad.off + c * 2 ≤ cur.size ∧ ∀ (j : Nat) (v : Value), X[j]? = some v → cur[ad.off + j]? = some v)
    (hnil : b = none → n = 0 ∧ c = 0) (hv : w.heap[vb]? = some (.cells curv 82 (0, 0))) (hnc : n ≤ c) (hbig : (n + 1) * 24 ≤ 140737488355328) (hfv : voff + vc * 2 ≤ curv.size) (h1c : 1 ≤ vc)
    (hXl : X.length = n * 2) (h1X : ∀ v ∈ X, v.oneCell' = true)
    (hVl : V.length = 2) (hV : ∀ (j : Nat) (v : Value), V[j]? = some v → curv[voff + j]? = some v) (h1V : ∀ v ∈ V, v.oneCell' = true) :
    Calls Tryz.prog 103 #[.slice b n c, .int .i64 n, .slice (some ⟨vb, voff, none⟩) 1 vc] w (InsPost 82 2 w (b.map (·.block)) (X ++ V) (n + 1)) := by
  obtain ⟨i0, hi0, hz0, hbt, z, hz, hzs⟩ := Hand.infoLink
  have hVc : ∀ j u, V[j]? = some u → w.cell? ((⟨vb, voff, none⟩ : Addr).add j) = some u := fun j u hj => by
    rw [Addr.add_lit, cell_of_row w vb _ curv 82 (0, 0) hv]; exact hV j u hj
  -- what the append does
  obtain ⟨val, w1, hrun, hpost⟩ : ∃ val w1, (∀ ty, (Builtin.append_ #[31, 31] ty #[.slice b n c, .slice (some ⟨vb, voff, none⟩) 1 vc]).run Tryz.prog w = .ok val w1) ∧ InsPost 82 2 w (b.map (·.block)) (X ++ V) (n + 1) (.returned val) w1 := by
    cases b with
    | none =>
      obtain ⟨rfl, rfl⟩ := hnil rfl
      obtain rfl : X = [] := List.eq_nil_of_length_eq_zero (by simpa using hXl)
      refine ⟨_, _, fun ty => run_append_nil w 31 ty 82 i0 z Tryz.underlying31 hi0 hz ⟨vb, voff, none⟩ 1 vc V (by rw [hVl, hz0]) hVc (by omega) (by omega) (by rw [hbt]; omega), ?_⟩
      refine InsPost.new (pad := (Builtin.zeroCells z.cells (grownCap w 1 0 82 - 1)).toList) (by congr 2; apply Array.toList_inj.1; simp) (grownCap_ge w 1 0 82) ?_
      have hge := grownCap_ge w 1 0 82
      simp only [List.nil_append, hVl, Array.length_toList, size_zeroCells, hzs]
      omega
    | some ad =>
      obtain ⟨hsp, cur, hcur, hfit, hX⟩ := hb ad rfl
      obtain ⟨ab, ao, asp⟩ := ad
      simp only at hsp hcur hfit hX
      subst hsp
      by_cases hroom : n + 1 ≤ c
      · refine ⟨_, _, fun ty => run_append_room' w 31 ty 82 i0 Tryz.underlying31 hi0 ab ao n c cur hcur ⟨vb, voff, none⟩ 1 vc V (by rw [hVl, hz0]) hVc h1V hroom (by rw [hz0, hVl]; omega), ?_⟩
        rw [hz0]
        refine ⟨ab, ao, c, _, rfl, hroom, setRow_heap w ab cur _ 82 (0, 0) hcur, ?_, fun j v hj => ?_, ⟨rfl, rfl, rfl, rfl, by simp [size_setRow], fun k hk hm => setRow_other w ab k _ (fun e => hm (by simp [e]))⟩, .inl rfl⟩
        · simp only [List.size_toArray, List.length_append, List.length_take, List.length_drop, Array.length_toList, hVl]; omega
        · simp only [List.getElem?_toArray]
          rw [laid_get cur.toList V (ao + n * 2) (ao + j) (by simp [hVl]; omega), hVl]
          by_cases c1 : j < n * 2
          · rw [if_pos (by omega)]
            rw [List.getElem?_append_left (by omega)] at hj
            simpa using hX j v hj
          · rw [if_neg (by omega)]
            rw [List.getElem?_append_right (by omega), hXl] at hj
            have hlt := (List.getElem?_eq_some_iff.1 hj).1
            rw [if_pos (by omega), show ao + j - (ao + n * 2) = j - n * 2 by omega]; exact hj
      · refine ⟨_, _, fun ty => run_append_grow w 31 ty 82 i0 z Tryz.underlying31 hi0 hz ⟨ab, ao, none⟩ n c X (by rw [hXl, hz0]) (fun j u hj => by rw [Addr.add_lit, cell_of_row w ab _ cur 82 (0, 0) hcur]; exact hX j u hj) ⟨vb, voff, none⟩ 1 vc V (by rw [hVl, hz0]) hVc (by omega) (by omega) (by rw [hbt]; exact growslice_fits (by omega) hbig), ?_⟩
        have hge := grownCap_ge w (n + 1) c 82
        refine InsPost.new (pad := (Builtin.zeroCells z.cells (grownCap w (n + 1) c 82 - (n + 1))).toList) (by congr 2; apply Array.toList_inj.1; simp) hge ?_
        simp only [List.length_append, hXl, hVl, Array.length_toList, size_zeroCells, hzs]
        omega
  have P := hpost
  clear hpost hb hVc hV h1X h1V
  have F : Aside (InsPost 82 2 w (b.map (·.block)) (X ++ V) (n + 1) (.returned val) w1) := P
  clear P
  have mixed : Tryz.prog.follows .mixedOrders = true := by kernel_rfl
  go_enter Tryz.func103, Tryz.ntmps103
  cases b with
  | none =>
    obtain ⟨rfl, rfl⟩ := hnil rfl
    go_wp2_with (at_builtin; refine Lib.wpList_append_run _ rfl _ _ _ _ rfl _ _ rfl rfl _ _ (hrun _) ?_)
    go_ret
    exact F.out
  | some a =>
    obtain ⟨ab, ao, asp⟩ := a
    go_wp2_with (at_builtin; refine Lib.wpList_append_run _ rfl _ _ _ _ rfl _ _ rfl rfl _ _ (hrun _) ?_)
    all_goals (go_ret; exact F.out)

set_option maxHeartbeats 4000000 in
set_option maxRecDepth 100000 in
/-- in the middle, without room -/
theorem Hand.ins_grow_Link (w : World) (b off n c i vb voff vc : Nat) (cur curv : Array Value) (X V : List Value) (hb : w.heap[b]? = some (.cells cur 82 (0, 0))) (hv : w.heap[vb]? = some (.cells curv 82 (0, 0)))
    (hi : i < n) (hnc : n ≤ c) (hroom : c < n + 1) (hbig : (n + 1) * 24 ≤ 140737488355328) (hfit : off + c * 2 ≤ cur.size) (hfv : voff + vc * 2 ≤ curv.size) (h1c : 1 ≤ vc)
    (hXl : X.length = n * 2) (hX : ∀ (j : Nat) (v : Value), X[j]? = some v → cur[off + j]? = some v) (h1X : ∀ v ∈ X, v.oneCell' = true)
    (hVl : V.length = 2) (hV : ∀ (j : Nat) (v : Value), V[j]? = some v → curv[voff + j]? = some v) (h1V : ∀ v ∈ V, v.oneCell' = true) :
    Calls Tryz.prog 103 #[.slice (some ⟨b, off, none⟩) n c, .int .i64 i, .slice (some ⟨vb, voff, none⟩) 1 vc] w (InsPost 82 2 w (some b) (X.take (i * 2) ++ V ++ X.drop (i * 2)) (n + 1)) := by
  obtain ⟨i0, hi0, hz0, hbt, z, hz, hzs⟩ := Hand.infoLink
  have hz2 : ¬ ((i : Int) = (n : Int)) := by omega
  have hz3 : (c : Int) < (n : Int) + 1 := by omega
  have hsz : (Tryz.prog.info? 82).map (·.size) = some 2 := by kernel_rfl
  have hbw : b < w.heap.size := (Array.getElem?_eq_some_iff.1 hb).1
  have hvw : vb < w.heap.size := (Array.getElem?_eq_some_iff.1 hv).1
  have hkk : (n : Int) + 1 - (i : Int) = ((n + 1 - i : Nat) : Int) := by omega
  have hik : i + (n + 1 - i) = n + 1 := by omega
  have hXt : (X.take (i * 2)).length = i * 2 := by rw [List.length_take, hXl]; omega
  have hold : (Builtin.firstCells i0.size i (.slice (some ⟨b, off, none⟩) i c)).run Tryz.prog w.drew = .ok (X.take (i * 2)).toArray w.drew := by
    rw [hz0]
    exact run_firstCells_some w.drew 2 i ⟨b, off, none⟩ i c (X.take (i * 2)) hXt (fun j v hj => by
      rw [List.getElem?_take] at hj
      split at hj
      · show w.cell? _ = _
        rw [Addr.add_lit, cell_of_row w b _ cur 82 (0, 0) hb]; exact hX j v hj
      · cases hj)
  obtain ⟨G, hG⟩ : ∃ G, G = grownCap w (n + 1) c 82 := ⟨_, rfl⟩
  obtain ⟨ROW, hROW⟩ : ∃ ROW : Array Value, ROW = (X.take (i * 2)).toArray ++ Builtin.zeroCells z.cells (n + 1 - i) ++ Builtin.zeroCells z.cells (G - (n + 1)) := ⟨_, rfl⟩
  have hGn : n + 1 ≤ G := by rw [hG]; exact grownCap_ge w _ _ _
  have hG63 : G ≤ 9223372036854775807 := by
    have := grownCap_le_maxLen w (n + 1) c 82 (by unfold maxLen; omega)
    rw [← hG] at this
    unfold maxLen at this
    omega
  have hRs : ROW.size = G * 2 := by
    rw [hROW]; simp only [Array.size_append, size_zeroCells, hzs, List.size_toArray, hXt]; omega
  have hrz : ∀ ty, (Builtin.append_ #[31, 3] ty #[.slice (some ⟨b, off, none⟩) i c, .int .i64 ((n : Int) + 1 - (i : Int))]).run Tryz.prog w =
      .ok (.slice (some ⟨w.heap.size, 0, none⟩) (n + 1) G) (w.drew.alloc (.cells ROW 82)) := fun ty => by
    have h := Lib.run_append_grow_zeros w 31 3 ty 82 i0 z .i64 .i64 Tryz.underlying31 Tryz.underlying3 hi0 hz (some ⟨b, off, none⟩) i c (X.take (i * 2)) hold (n + 1 - i) (by omega) (by omega) (by omega) (by omega) (by rw [hbt]; omega) (by rw [hbt, hik]; exact growslice_fits hroom hbig)
    rw [hik] at h
    rw [hkk, hROW, hG]
    exact h
  have hgR : (w.drew.alloc (.cells ROW 82)).heap[w.heap.size]? = some (.cells ROW 82 (0, 0)) := by show (w.heap.push _)[w.heap.size]? = _; simp
  have hgo : ∀ k, k < w.heap.size → (w.drew.alloc (.cells ROW 82)).heap[k]? = w.heap[k]? := fun k hk => by
    show (w.heap.push _)[k]? = _
    simp [Array.getElem?_push, Nat.ne_of_lt hk]
  obtain ⟨A, hA⟩ : ∃ A : Array Value, A = (ROW.toList.take (i * 2) ++ V ++ ROW.toList.drop (i * 2 + V.length)).toArray := ⟨_, rfl⟩
  have hAl : A.toList = ROW.toList.take (i * 2) ++ V ++ ROW.toList.drop (i * 2 + V.length) := by rw [hA]
  have hAs : A.size = ROW.size := by rw [hA]; simp only [List.size_toArray, List.length_append, List.length_take, List.length_drop, Array.length_toList, hVl]; omega
  have hcpA : ∀ (W : World), W.heap = (w.drew.alloc (.cells ROW 82)).heap → ∀ ty dc, (Builtin.copy_ #[31, 31] ty #[.slice (some ⟨w.heap.size, i * 2, none⟩) (n + 1 - i) dc, .slice (some ⟨vb, voff, none⟩) 1 vc]).run Tryz.prog W = .ok (goInt ((1 : Nat) : Int)) (W.setRow w.heap.size A) := fun W hW ty dc => by
    rw [hA]
    exact run_copy_k W 31 31 ty 82 w.heap.size (i * 2) (n + 1 - i) dc ⟨vb, voff, none⟩ 1 vc ROW 82 V 2 Tryz.underlying31 hsz (by rw [hW]; exact hgR) 1 (by simp only [Nat.min_def]; split <;> omega) hVl
      (fun j v hj => by
        rw [Addr.add_lit, cell_of_row W vb _ curv 82 (0, 0) (by rw [hW, hgo vb hvw]; exact hv)]
        exact hV _ v hj) (by rw [hVl, hRs]; omega) h1V
  have hgA : ((w.drew.alloc (.cells ROW 82)).setRow w.heap.size A).heap[w.heap.size]? = some (.cells A 82 (0, 0)) := setRow_heap _ _ ROW A 82 (0, 0) hgR
  have hgAo : ∀ k, k < w.heap.size → ((w.drew.alloc (.cells ROW 82)).setRow w.heap.size A).heap[k]? = w.heap[k]? := fun k hk => (setRow_other _ _ _ _ (Nat.ne_of_lt hk)).trans (hgo k hk)
  have hdl : (X.drop (i * 2)).length = (n - i) * 2 := by rw [List.length_drop, hXl, Nat.sub_mul]
  obtain ⟨B, hB⟩ : ∃ B : Array Value, B = (A.toList.take ((i + 1) * 2) ++ X.drop (i * 2) ++ A.toList.drop ((i + 1) * 2 + (X.drop (i * 2)).length)).toArray := ⟨_, rfl⟩
  have hBl : B.toList = A.toList.take ((i + 1) * 2) ++ X.drop (i * 2) ++ A.toList.drop ((i + 1) * 2 + (X.drop (i * 2)).length) := by rw [hB]
  have hBs : B.size = A.size := by rw [hB]; simp only [List.size_toArray, List.length_append, List.length_take, List.length_drop, Array.length_toList, hXl]; omega
  have hcpB : ∀ (W : World), W.heap = ((w.drew.alloc (.cells ROW 82)).setRow w.heap.size A).heap → ∀ ty dc sc, (Builtin.copy_ #[31, 31] ty #[.slice (some ⟨w.heap.size, (i + 1) * 2, none⟩) (n - i) dc, .slice (some ⟨b, off + i * 2, none⟩) (n - i) sc]).run Tryz.prog W = .ok (goInt ((n - i : Nat) : Int)) (W.setRow w.heap.size B) := fun W hW ty dc sc => by
    rw [hB]
    exact run_copy_k W 31 31 ty 82 w.heap.size ((i + 1) * 2) (n - i) dc ⟨b, off + i * 2, none⟩ (n - i) sc A 82 (X.drop (i * 2)) 2 Tryz.underlying31 hsz (by rw [hW]; exact hgA) (n - i) (by simp only [Nat.min_def]; split <;> omega) hdl
      (fun j v hj => by
        rw [List.getElem?_drop] at hj
        rw [Addr.add_lit, cell_of_row W b _ cur 82 (0, 0) (by rw [hW, hgAo b hbw]; exact hb), show off + i * 2 + j = off + (i * 2 + j) by omega]
        exact hX _ v hj) (by rw [hdl, hAs, hRs]; omega) (fun v hv => h1X v (List.mem_of_mem_drop hv))
  have hfin : ∀ (j : Nat) (v : Value), (X.take (i * 2) ++ V ++ X.drop (i * 2))[j]? = some v → B[0 + j]? = some v := by
    intro j v hj
    have hAsz : A.toList.length = G * 2 := by rw [Array.length_toList, hAs, hRs]
    have hRsz : ROW.toList.length = G * 2 := by rw [Array.length_toList, hRs]
    rw [Nat.zero_add, ← Array.getElem?_toList, hBl, laid_get A.toList (X.drop (i * 2)) ((i + 1) * 2) j (by rw [hdl]; omega), hdl]
    by_cases c1 : j < i * 2
    · rw [if_pos (by omega), hAl, laid_get ROW.toList V (i * 2) j (by omega), if_pos (by omega)]
      rw [List.append_assoc, List.getElem?_append_left (by omega)] at hj
      rw [Array.getElem?_toList, hROW, Array.append_assoc, Array.getElem?_append_left (by simp [hXt]; omega)]
      simpa using hj
    · rw [List.append_assoc, List.getElem?_append_right (by omega), hXt] at hj
      by_cases c2 : j < i * 2 + 2
      · rw [if_pos (by omega), hAl, laid_get ROW.toList V (i * 2) j (by omega), if_neg (by omega), if_pos (by omega)]
        rw [List.getElem?_append_left (by omega)] at hj
        exact hj
      · rw [List.getElem?_append_right (by omega), hVl] at hj
        have hlt := (List.getElem?_eq_some_iff.1 hj).1
        rw [if_neg (by omega), if_pos (by omega), show j - (i + 1) * 2 = j - i * 2 - 2 by omega]; exact hj
  have F : Aside (((w.drew.alloc (.cells ROW 82)).setRow w.heap.size A).heap[w.heap.size]? = some (.cells A 82 (0, 0)) ∧ 0 + G * 2 ≤ B.size ∧ (∀ (j : Nat) (v : Value), (X.take (i * 2) ++ V ++ X.drop (i * 2))[j]? = some v → B[0 + j]? = some v) ∧ ∀ k, k < w.heap.size → ((w.drew.alloc (.cells ROW 82)).setRow w.heap.size A).heap[k]? = w.heap[k]?) := ⟨hgA, by omega, hfin, hgAo⟩
  have hGi : ¬ (G = i) := by omega
  have hGim : ¬ (G = i + 1) := by omega
  have hci : ¬ (c = i) := by omega
  have hw1 : IntKind.i64.wrap ((i : Int) + 1) = (i : Int) + 1 := by rw [IntKind.wrap_i64]; omega
  have hw2 : IntKind.i64.wrap ((n : Int) + 1) = (n : Int) + 1 := by rw [IntKind.wrap_i64]; omega
  have hw3 : IntKind.i64.wrap ((n : Int) + 1 - (i : Int)) = (n : Int) + 1 - (i : Int) := by rw [IntKind.wrap_i64]; omega
  have hb1 : (0 : Int) ≤ (i : Int) + 1 := by omega
  have hin : i ≤ n := by omega
  have htn : ((i : Int) + 1).toNat = i + 1 := by omega
  have hb3 : (i : Int) ≤ (n : Int) := by omega
  clear hkk hik hold hROW hG hRs hgR hgo hA hAl hAs hgA hgAo hB hBl hBs hfin hdl hX hV hb hv
  have hcpA' : ∀ ty dc, (Builtin.copy_ #[31, 31] ty #[.slice (some ⟨w.heap.size, i * 2, none⟩) (n + 1 - i) dc, .slice (some ⟨vb, voff, none⟩) 1 vc]).run Tryz.prog ((w.alloc (.cells ROW 82)).drew) = .ok (goInt ((1 : Nat) : Int)) (((w.alloc (.cells ROW 82)).drew).setRow w.heap.size A) := fun ty dc => hcpA _ rfl ty dc
  clear hcpA
  have mixed : Tryz.prog.follows .mixedOrders = true := by kernel_rfl
  go_enter Tryz.func103, Tryz.ntmps103
  go_wp2_with (at_builtin; refine Lib.wpList_append_run _ rfl _ _ _ _ rfl _ _ rfl rfl _ _ (hrz _) ?_)
  go_region_law_o (refine step_copy_runI rfl _ _ 31 31 rfl (.slice (some ⟨w.heap.size, (i + 1) * 2, none⟩) (n - i) (G - (i + 1))) (.slice (some ⟨b, off + i * 2, none⟩) (n - i) (c - i)) (by simp [Act.eval, Act.put]) (by simp [Act.eval, Act.put]) (hcpB _ (by rfl) 3 (G - (i + 1)) (c - i)) ?_)
  go_wp2
  go_ret
  refine ⟨w.heap.size, 0, G, B, rfl, hGn, setRow_heap _ _ A B 82 (0, 0) F.out.1, F.out.2.1, by simpa [List.append_assoc] using F.out.2.2.1, ⟨rfl, rfl, rfl, rfl, ?_, fun k hk hm => ?_⟩, .inr (Nat.le_refl _)⟩
  · rw [size_setRow]
    show w.heap.size ≤ (((w.alloc (.cells ROW 82)).drew.setRow w.heap.size A)).heap.size
    rw [size_setRow]
    show w.heap.size ≤ (w.heap.push _).size
    simp
  · rw [setRow_other _ _ _ _ (Nat.ne_of_lt hk)]
    exact F.out.2.2.2 k hk
end


def slices_Insert_Link.f (k : Nat) (a0 : List (ByteArray × Int)) (a1 : Int) (a2 : List (ByteArray × Int)) : Option (List (ByteArray × Int)) := insF 24 a0 a1 a2
def slices_Insert_Link.sig : Sig := ⟨[.give false (.sl 82 (.pair .str (.int .i64))), .val false (.int .i64), .give false (.sl 82 (.pair .str (.int .i64)))], [⟨false, (.sl 82 (.pair .str (.int .i64))), true⟩]⟩
def slices_Insert_Link.fn : Fn := ⟨slices_Insert_Link.sig, fun k (x : List (ByteArray × Int) × Int × List (ByteArray × Int)) => slices_Insert_Link.f k x.1 x.2.1 x.2.2⟩

theorem slices_Insert_Link.ok (k : Nat) : FnOk Tryz.prog k 103 slices_Insert_Link.fn := by
  refine ⟨body_there Tryz.func103 (by kernel_rfl) (by kernel_rfl), ?_⟩
  intro w S vs vss rows (x : List ((.pair .str (.int .i64)) : CK).T × Int × List ((.pair .str (.int .i64)) : CK).T) (r : List ((.pair .str (.int .i64)) : CK).T) hsem hargs hparts hS hbn hbn2 hbS hnd hrows
  obtain ⟨xs, i, ys⟩ := x
  change slices_Insert_Link.f k xs i ys = some r at hsem
  unfold slices_Insert_Link.f insF at hsem
  split at hsem
  case isFalse => cases hsem
  rename_i hc
  obtain ⟨hy1, hi0, hin, hbig⟩ : ys.length = 1 ∧ 0 ≤ i ∧ i ≤ xs.length ∧ (xs.length + 1) * 24 ≤ 140737488355328 := hc
  have hsem : xs.take i.toNat ++ ys ++ xs.drop i.toNat = r := Option.some.inj hsem
  obtain ⟨n, rfl⟩ : ∃ n : Nat, i = n := ⟨i.toNat, by omega⟩
  have hsem : xs.take n ++ ys ++ xs.drop n = r := hsem
  have hin : n ≤ xs.length := by exact_mod_cast hin
  have hal := hargs.length
  obtain ⟨v0, v1, v2, rfl⟩ := list3 hal.1
  obtain ⟨l0, l1, l2, rfl⟩ := list3 hal.2
  · obtain ⟨ha0, ha1, ha2, _⟩ := hargs
    simp only [Bool.false_eq_true, if_false] at ha0 ha1 ha2
    subst ha0; subst ha1; subst ha2
    obtain ⟨q0, qs, r1, r2, he, rfl, hp0, hp⟩ := hparts
    simp only [List.cons.injEq] at he
    obtain ⟨rfl, rfl⟩ := he
    obtain ⟨q1, qs, r3, r4, he, rfl, hp1, hp2⟩ := hp
    simp only [List.cons.injEq] at he
    obtain ⟨rfl, rfl⟩ := he
    obtain ⟨q2, he, hp2⟩ := hp2
    simp only [List.cons.injEq, and_true] at he
    subst he
    have hp0 : OwnT w S (.sl 82 (.pair .str (.int .i64))) xs [v0] r1 := hp0
    have hp2 : OwnT w S (.sl 82 (.pair .str (.int .i64))) ys [v2] r4 := hp2
    obtain ⟨hp1, rfl⟩ : RdT w S (.int .i64) (n : Int) [v1] ∧ r3 = [] := hp1
    have hv1 : v1 = .int .i64 n := by simpa [RdT] using hp1
    subst hv1
    obtain ⟨a, cap, X, hl, rfl, hcap, hnil, hXl, hX, hblk⟩ := own_cells hp0 (by decide)
    simp only [List.cons.injEq, and_true] at hl
    subst hl
    obtain ⟨a2, cap2, V, hl, rfl, hcap2, hnil2, hVl, hV, hblk2⟩ := own_cells hp2 (by decide)
    simp only [List.cons.injEq, and_true] at hl
    subst hl
    rw [hy1] at hcap2 hVl
    cases a2 with
    | none => obtain ⟨rfl, _⟩ := hnil2 rfl; simp at hy1
    | some ad2 =>
      obtain ⟨vb, voff, vsp⟩ := ad2
      obtain ⟨hsp2, curv, hcurv, hfit2, hVc⟩ := hblk2 _ rfl
      simp only at hsp2 hcurv hfit2 hVc
      subst hsp2
      rw [hy1]
      have h1X := hX.one (by decide : 0 < ((.pair .str (.int .i64)) : CK).size) (by decide)
      have h1V := hV.one (by decide : 0 < ((.pair .str (.int .i64)) : CK).size) (by decide)
      have key : Calls Tryz.prog 103 #[.slice a xs.length cap, .int .i64 n, .slice (some ⟨vb, voff, none⟩) 1 cap2] w (InsPost 82 2 w (a.map (·.block)) (X.take (n * 2) ++ V ++ X.drop (n * 2)) (xs.length + 1)) := by
        by_cases hend : n = xs.length
        · subst hend
          have hXl' : X.length = xs.length * 2 := hXl
          rw [← hXl', List.take_length, List.drop_length, List.append_nil]
          exact Hand.ins_end_Link w a xs.length cap vb voff cap2 curv X V hblk (fun h => by obtain ⟨rfl, h⟩ := hnil h; exact ⟨rfl, h⟩) hcurv hcap hbig hfit2 (by omega) hXl h1X hVl hVc h1V
        · cases a with
          | none => obtain ⟨rfl, _⟩ := hnil rfl; simp at hin hend; omega
          | some ad =>
            obtain ⟨ab, ao, asp⟩ := ad
            obtain ⟨hsp, cur, hcur, hfit, hXc⟩ := hblk _ rfl
            simp only at hsp hcur hfit hXc
            subst hsp
            have hne : vb ≠ ab := by
              simp only [Blks, Option.map_some, List.cons_append, List.nil_append, List.filterMap_cons, List.filterMap_nil, List.nodup_cons, List.mem_singleton] at hnd
              exact fun h => hnd.1 h.symm
            by_cases hroom : xs.length + 1 ≤ cap
            · exact Hand.ins_shift_Link w ab ao xs.length cap n vb voff cap2 cur curv X V hcur hcurv hne (by omega) hroom hbig hfit hfit2 (by omega) hXl hXc h1X hVl hVc h1V
            · exact Hand.ins_grow_Link w ab ao xs.length cap n vb voff cap2 cur curv X V hcur hcurv (by omega) hcap (by omega) hbig hfit hfit2 (by omega) hXl hXc h1X hVl hVc h1V
      refine key.mono ?_
      intro en w' hpost
      have hflat : FlatR (RdT w S (.pair .str (.int .i64))) ((.pair .str (.int .i64)) : CK).size r (X.take (n * 2) ++ V ++ X.drop (n * 2)) := by
        rw [← hsem]
        exact ((hX.take n).append hV).append (hX.drop n hin)
      have hrl : xs.length + 1 = r.length := by
        rw [← hsem, List.length_append, List.length_append, List.length_take, List.length_drop, hy1]; omega
      obtain ⟨rv, rows', h1, h2, h3, h4, h5, h6⟩ := ins_back (e := 82) (c := (.pair .str (.int .i64))) (rows := [(a.map (·.block), .slice a xs.length cap)] ++ ([] ++ [((some (⟨vb, voff, none⟩ : Addr)).map (·.block), .slice (some ⟨vb, voff, none⟩) ys.length cap2)])) hpost hflat hrl hS
        (fun x hx => by simp [Blks, hx]) (fun x hx => ⟨(hrows x hx).1, (hrows x hx).2.1⟩) rfl
      exact ⟨rv, S, [[rv]], [], rows', h1, h2, fun _ h => h, fun _ h => .inl h, h3, h4, ⟨rfl, trivial⟩, rfl, h5, h6⟩

/-! loop.example/g00358/impl.linked -/
def impl_linked.b0 (k : Nat) (s : List (ByteArray × Int) × List (ByteArray × Int) × Int × ByteArray × Int) : Option ((List (ByteArray × Int) × List (ByteArray × Int) × Int × ByteArray × Int) ⊕ (List (ByteArray × Int) × List (ByteArray × Int) × Int × ByteArray × Int) ⊕ (List (ByteArray × Int))) :=
  bif (decide (s.2.2.1 < (s.1.length : Int))) then ((inb? s.1.length s.2.2.1).bind fun j1 => (s.1[j1]?).bind fun y2 => bif (strLt y2.1 s.2.2.2.1) then (some (.inl (s.1, s.2.1, IntKind.wrap .i64 (s.2.2.1 + 1), s.2.2.2))) else (some (.inr (.inl s)))) else (some (.inr (.inl s)))

def impl_linked.d0 (k : Nat) (y : List (ByteArray × Int) × List (ByteArray × Int) × Int × ByteArray × Int) : Option (List (ByteArray × Int)) :=
  (slices_Insert_Link.f k y.1 y.2.2.1 ([y.2.2.2])).bind fun r1 => some r1

def impl_linked.f (k : Nat) (a0 : List (ByteArray × Int)) (a1 : ByteArray × Int) : Option (List (ByteArray × Int)) :=
  (iter (X := (List (ByteArray × Int) × List (ByteArray × Int) × Int × ByteArray × Int) ⊕ (List (ByteArray × Int))) (impl_linked.b0 k) k (a0, [], 0, a1)).bind fun r => match r with | .inl y => impl_linked.d0 k y | .inr o => some o

def impl_linked.sig : Sig := ⟨[.give false (.sl 82 (.pair .str (.int .i64))), .val true (.pair .str (.int .i64))], [⟨false, (.sl 82 (.pair .str (.int .i64))), true⟩]⟩
def impl_linked.fn : Fn := ⟨impl_linked.sig, fun k (x : List (ByteArray × Int) × ByteArray × Int) => impl_linked.f k x.1 x.2⟩
noncomputable def impl_linked.env (k : Nat) : Env := ⟨Tryz.prog, 27, fun t => bif Nat.beq t 82 then some (.pair .str (.int .i64)) else none, look [(103, slices_Insert_Link.fn)], k, impl_linked.sig.pin⟩
def impl_linked.ann : Ann := .seq .leaf (.seq .leaf (.seq (.loop [.slot 0 false (.sl 82 (.pair .str (.int .i64))) true, .ptr 3 1000, .slot 4 false (.sl 82 (.pair .str (.int .i64))) true, .slot 5 false (.int .i64) false, .box 1000 82 (.pair .str (.int .i64)) false false] [.slot 0 false (.sl 82 (.pair .str (.int .i64))) true, .ptr 3 1000, .slot 4 false (.sl 82 (.pair .str (.int .i64))) true, .slot 5 false (.int .i64) false, .box 1000 82 (.pair .str (.int .i64)) false false] (.seq (.seq .leaf (.cond .leaf .leaf)) (.blk .leaf))) (.seq .leaf .leaf)))
theorem impl_linked.ok (k : Nat) : FnOk Tryz.prog k 92 impl_linked.fn :=
  fnOk_of (E := impl_linked.env k) (ann := impl_linked.ann) (look_cons (slices_Insert_Link.ok k) (look_nil)) (by kernel_rfl) Tryz.func92 (by kernel_rfl) (by kernel_rfl) (by kernel_rfl) (of_decide_eq_true (by kernel_rfl)) (of_decide_eq_true (by kernel_rfl)) (fun _ h => h) (fun x => by kernel_rfl)

/-! loop.example/g00358/impl.apply$1 -/
def impl_apply_in.f (k : Nat) (a0 : ByteArray × Int) (a1 : Int × ByteArray × ByteArray × Int) : Option Bool :=
  bif (decide (a0.1 = a1.2.1)) then (some true) else (some (decide (a0.1 = a1.2.2.1)))

def impl_apply_in.sig : Sig := ⟨[.val true (.pair .str (.int .i64)), .box 84 (.pair (.int .i64) (.pair .str (.pair .str (.int .i64)))) false false], [⟨false, .bool, true⟩]⟩
def impl_apply_in.fn : Fn := ⟨impl_apply_in.sig, fun k (x : (ByteArray × Int) × Int × ByteArray × ByteArray × Int) => impl_apply_in.f k x.1 x.2⟩
noncomputable def impl_apply_in.env (k : Nat) : Env := ⟨Tryz.prog, 16, fun t => none, look [], k, impl_apply_in.sig.pin⟩
def impl_apply_in.ann : Ann := .seq .leaf (.seq .leaf .leaf)
theorem impl_apply_in.ok (k : Nat) : FnOk Tryz.prog k 94 impl_apply_in.fn :=
  fnOk_of (E := impl_apply_in.env k) (ann := impl_apply_in.ann) (look_nil) (by kernel_rfl) Tryz.func94 (by kernel_rfl) (by kernel_rfl) (by kernel_rfl) (of_decide_eq_true (by kernel_rfl)) (of_decide_eq_true (by kernel_rfl)) (fun _ h => h) (fun x => by kernel_rfl)

/-! slices.IndexFunc[[]loop.example/g00358/impl.Link,loop.example/g00358/impl.Link] -/
def slices_IndexFunc_Link_impl_apply_in.b0 (k : Nat) (s : List (ByteArray × Int) × Int × Int × Int × Int × ByteArray × ByteArray × Int) : Option ((List (ByteArray × Int) × Int × Int × Int × Int × ByteArray × ByteArray × Int) ⊕ Int ⊕ Int) :=
  bif (decide (s.2.2.2.1 < s.2.2.1)) then ((inb? s.1.length s.2.2.2.1).bind fun j1 => (s.1[j1]?).bind fun y2 => (impl_apply_in.f k y2 s.2.2.2.2).bind fun r3 => bif r3 then (some (.inr (.inr s.2.2.2.1))) else (some (.inl (s.1, s.2.1, s.2.2.1, IntKind.wrap .i64 (s.2.2.2.1 + 1), s.2.2.2.2)))) else (some (.inr (.inl s.2.1)))

def slices_IndexFunc_Link_impl_apply_in.d0 (k : Nat) (y : Int) : Option Int :=
  some (-1)

def slices_IndexFunc_Link_impl_apply_in.f (k : Nat) (a0 : List (ByteArray × Int)) (a1 : Int × ByteArray × ByteArray × Int) : Option Int :=
  (iter (X := Int ⊕ Int) (slices_IndexFunc_Link_impl_apply_in.b0 k) k (a0, 0, (a0.length : Int), 0, a1)).bind fun r => match r with | .inl y => slices_IndexFunc_Link_impl_apply_in.d0 k y | .inr o => some o

def slices_IndexFunc_Link_impl_apply_in.sig : Sig := ⟨[.val false (.sl 82 (.pair .str (.int .i64))), .clo 94 false 84 (.pair (.int .i64) (.pair .str (.pair .str (.int .i64))))], [⟨false, (.int .i64), true⟩]⟩
def slices_IndexFunc_Link_impl_apply_in.fn : Fn := ⟨slices_IndexFunc_Link_impl_apply_in.sig, fun k (x : List (ByteArray × Int) × Int × ByteArray × ByteArray × Int) => slices_IndexFunc_Link_impl_apply_in.f k x.1 x.2⟩
noncomputable def slices_IndexFunc_Link_impl_apply_in.env (k : Nat) : Env := ⟨Tryz.prog, 19, fun t => none, look [(94, impl_apply_in.fn)], k, slices_IndexFunc_Link_impl_apply_in.sig.pin⟩
def slices_IndexFunc_Link_impl_apply_in.ann : Ann := .seq .leaf (.seq (.seq .leaf (.loop [.slot 0 false (.sl 82 (.pair .str (.int .i64))) false, .fnp 1 94 false 2, .slot 4 false (.int .i64) false, .slot 7 false (.int .i64) false, .slot 8 false (.int .i64) false, .box 2 84 (.pair (.int .i64) (.pair .str (.pair .str (.int .i64)))) false true] [.slot 4 false (.int .i64) false] (.seq .leaf (.seq (.cond .leaf .leaf) (.seq (.blk (.seq .leaf (.seq .leaf (.cond (.seq .leaf .leaf) .leaf)))) .leaf))))) (.seq .leaf .leaf))
theorem slices_IndexFunc_Link_impl_apply_in.ok (k : Nat) : FnOk Tryz.prog k 101 slices_IndexFunc_Link_impl_apply_in.fn :=
  fnOk_of (E := slices_IndexFunc_Link_impl_apply_in.env k) (ann := slices_IndexFunc_Link_impl_apply_in.ann) (look_cons (impl_apply_in.ok k) (look_nil)) (by kernel_rfl) Tryz.func101 (by kernel_rfl) (by kernel_rfl) (by kernel_rfl) (of_decide_eq_true (by kernel_rfl)) (of_decide_eq_true (by kernel_rfl)) (fun _ h => h) (fun x => by kernel_rfl)

section
open Go.Proofs Go.Shelf Go.RowKit Go.Lib
set_option maxHeartbeats 4000000 in
/-- nothing is found: the row comes back as it is -/
theorem Hand.dfn0_slices_DeleteFunc_Link_impl_apply_in (w : World) (b : Option Addr) (n c mb : Nat) (Q : World → Prop) (hix : Calls Tryz.prog 101 #[.slice b n c, .func (.func 94) #[] #[.pointer (some ⟨mb, 0, none⟩)]] w fun e w' => e = .returned (.int .i64 (-1)) ∧ Q w') :
    Calls Tryz.prog 93 #[.slice b n c, .func (.func 94) #[] #[.pointer (some ⟨mb, 0, none⟩)]] w (fun e w' => e = .returned (.slice b n c) ∧ Q w') := by
  have mixed : Tryz.prog.follows .mixedOrders = true := by kernel_rfl
  go_enter Tryz.func93, Tryz.ntmps93
  go_wp2_with (go_at_call 101; refine hix.mono ?_; rintro e w' ⟨rfl, hI⟩)
  go_ret
  exact ⟨rfl, hI⟩

set_option maxHeartbeats 4000000 in
set_option maxRecDepth 100000 in
/-- slices.DeleteFunc behind the search: what stays -/
theorem Hand.dfn_slices_DeleteFunc_Link_impl_apply_in (w : World) (b off n c i0 mb : Nat) (cur : Array Value) (X : List Value) (E0 : Nat → ByteArray) (E1 : Nat → Int) (pr : Nat → Bool) (Inv : Nat → Nat → World → Prop)
    (hix : Calls Tryz.prog 101 #[.slice (some ⟨b, off, none⟩) n c, .func (.func 94) #[] #[.pointer (some ⟨mb, 0, none⟩)]] w fun e w' => e = .returned (.int .i64 i0) ∧ Inv i0 (i0 + 1) w')
    (hi0 : i0 < n) (hn63 : n ≤ 9223372036854775806) (hnc : n ≤ c)
    (hread : ∀ i j W, Inv i j W → j < n → W.cell? ⟨b, off + j * 2, none⟩ = some (.string (E0 j)) ∧ W.cell? ⟨b, off + j * 2 + 1, none⟩ = some (.int .i64 (E1 j)))
    (hcall : ∀ i j W, Inv i j W → j < n → Calls Tryz.prog 94 #[.agg #[.string (E0 j), .int .i64 (E1 j)], .pointer (some ⟨mb, 0, none⟩)] (W.alloc (.cells #[.string (E0 j), .int .i64 (E1 j)] 82)) fun e W' => e = .returned (.bool (pr j)) ∧ Frm (W.alloc (.cells #[.string (E0 j), .int .i64 (E1 j)] 82)).heap.size (fun _ => False) (W.alloc (.cells #[.string (E0 j), .int .i64 (E1 j)] 82)) W')
    (hskip : ∀ i j W W', Inv i j W → j < n → pr j = true → Frm (W.alloc (.cells #[.string (E0 j), .int .i64 (E1 j)] 82)).heap.size (fun _ => False) (W.alloc (.cells #[.string (E0 j), .int .i64 (E1 j)] 82)) W' → Inv i (j + 1) W')
    (hrow : ∀ i j W W', Inv i j W → j < n → Frm (W.alloc (.cells #[.string (E0 j), .int .i64 (E1 j)] 82)).heap.size (fun _ => False) (W.alloc (.cells #[.string (E0 j), .int .i64 (E1 j)] 82)) W' → ∃ cur', W'.heap[b]? = some (.cells cur' 82 (0, 0)) ∧ off + c * 2 ≤ cur'.size)
    (hkeep : ∀ i j W W', Inv i j W → j < n → pr j = false → Frm (W.alloc (.cells #[.string (E0 j), .int .i64 (E1 j)] 82)).heap.size (fun _ => False) (W.alloc (.cells #[.string (E0 j), .int .i64 (E1 j)] 82)) W' →
      Inv (i + 1) (j + 1) ((W'.setCell ⟨b, off + i * 2, none⟩ (.string (E0 j))).setCell ⟨b, off + i * 2 + 1, none⟩ (.int .i64 (E1 j))))
    (Post : Nat → World → Prop)
    (hend : ∀ i W, Inv i n W → ∃ W2, (∀ ty dc, (Builtin.clear_ #[31] ty #[.slice (some ⟨b, off + i * 2, none⟩) (n - i) dc]).run Tryz.prog W = .ok (.tuple #[]) W2) ∧ Post i W2)
    (hij : ∀ i j W, Inv i j W → i < j) :
    Calls Tryz.prog 93 #[.slice (some ⟨b, off, none⟩) n c, .func (.func 94) #[] #[.pointer (some ⟨mb, 0, none⟩)]] w (fun e w' => ∃ i, e = .returned (.slice (some ⟨b, off, none⟩) i c) ∧ Post i w') := by
  have hne1 : ((i0 : Int) == -1) = false := beq_eq_false_iff_ne.2 (by omega)
  have HC : Aside _ := hcall
  have HR : Aside _ := hread
  clear hcall hread
  have HROW0 : Aside _ := hrow
  have HSK0 : Aside _ := hskip
  have HKP0 : Aside _ := hkeep
  have HEND : Aside _ := hend
  clear hrow hskip hkeep hend
  have mixed : Tryz.prog.follows .mixedOrders = true := by kernel_rfl
  go_enter Tryz.func93, Tryz.ntmps93
  go_wp2_with (go_at_call 101; refine hix.mono ?_; rintro e w' ⟨rfl, hI⟩)
  go_loopg [5, 6, 7] n (fun gg s5 s6 _ wr => ∃ (i j : Nat), s5 = .int .i64 i ∧ s6 = .int .i64 j ∧ j ≤ n ∧ n - j ≤ gg ∧ Aside (Inv i j wr))
  case atStart => exact ⟨i0, i0 + 1, rfl, by go_num, by omega, by omega, hI⟩
  case round =>
    obtain ⟨i, j, rfl, rfl, hjn, hgg, I⟩ := hrel
    by_cases hlt : j < n
    · have hltz : (j : Int) < (n : Int) := by omega
      obtain ⟨c0, c1⟩ := HR.out i j wr I.out hlt
      have hcall := HC.out i j wr I.out hlt
      have hil := hij i j wr I.out
      have HROW : Aside _ := HROW0.out i j wr
      have HSK : Aside _ := HSK0.out i j wr
      obtain ⟨e0, C0⟩ : ∃ e, Aside (E0 j = e) := ⟨_, rfl⟩
      rw [C0.out] at c0 hcall
      obtain ⟨e1, C1⟩ : ∃ e, Aside (E1 j = e) := ⟨_, rfl⟩
      rw [C1.out] at c1 hcall
      cases hq : pr j with
      | true =>
        rw [hq] at hcall
        go_wp2_with (go_at_call 94; refine hcall.mono ?_; rintro e w' ⟨rfl, hf⟩)
        go_roundg (n - (j + 1))
        case measure => omega
        case rel =>
          refine ⟨i, j + 1, rfl, by go_num, by omega, Nat.le_refl _, HSK.out w' I.out hlt hq ?_⟩
          rw [C0.out, C1.out]
          exact hf
      | false =>
        rw [hq] at hcall
        have hpost : ∀ w', Frm (wr.alloc (.cells #[.string e0, .int .i64 e1] 82)).heap.size (fun _ => False) (wr.alloc (.cells #[.string e0, .int .i64 e1] 82)) w' →
            w'.cell? ⟨wr.heap.size, 0, none⟩ = some (.string e0) ∧ w'.cell? ⟨wr.heap.size, 1, none⟩ = some (.int .i64 e1) ∧ (∃ u, w'.cell? ⟨b, off + i * 2, none⟩ = some u) ∧ (∃ u, w'.cell? ⟨b, off + i * 2 + 1, none⟩ = some u) ∧ w'.frozen? ⟨b, off + i * 2, none⟩ = false ∧ w'.frozen? ⟨b, off + i * 2 + 1, none⟩ = false := by
          intro w' hf
          obtain ⟨cur', hcur', hfit'⟩ := HROW.out w' I.out hlt (by rw [C0.out, C1.out]; exact hf)
          have hwn : (wr.alloc (.cells #[.string e0, .int .i64 e1] 82)).heap[wr.heap.size]? = some (.cells #[.string e0, .int .i64 e1] 82 (0, 0)) := by show (wr.heap.push _)[wr.heap.size]? = _; simp
          refine ⟨hf.cell0 ?_, hf.cell0 ?_, ?_, ?_, ?_, ?_⟩
          · rw [cell_of_row _ _ _ _ 82 (0, 0) hwn]; rfl
          · rw [cell_of_row _ _ _ _ 82 (0, 0) hwn]; rfl
          · exact ⟨_, by rw [cell_of_row w' b _ cur' 82 (0, 0) hcur', Array.getElem?_eq_getElem (by omega)]⟩
          · exact ⟨_, by rw [cell_of_row w' b _ cur' 82 (0, 0) hcur', Array.getElem?_eq_getElem (by omega)]⟩
          · simp [World.frozen?, hcur']
          · simp [World.frozen?, hcur']
        go_wp2_with (go_at_call 94; refine hcall.mono ?_; rintro e w' ⟨rfl, hf⟩; obtain ⟨d0, d1, ⟨u0, g0⟩, ⟨u1, g1⟩, f0, f1⟩ := hpost w' hf)
        go_roundg (n - (j + 1))
        case measure => omega
        case rel =>
          refine ⟨i + 1, j + 1, by go_num, by go_num, by omega, Nat.le_refl _, (show Aside _ from ?_)⟩
          have := HKP0.out i j wr w' I.out hlt hq (by rw [C0.out, C1.out]; exact hf)
          rw [C0.out, C1.out] at this
          exact this
    · obtain rfl : j = n := by omega
      have hltz : ¬ (j : Int) < (j : Int) := by omega
      have hil := hij i j wr I.out
      obtain ⟨W2, hcl, hp⟩ := HEND.out i wr I.out
      have HP : Aside _ := hp
      clear hp
      have hic : i ≤ c := by omega
      have hci : ¬ (c = i) := by omega
      have hij1 : (i : Int) ≤ (j : Int) := by omega
      go_wp2
      go_ret
      exact ⟨i, rfl, HP.out⟩
end
def dflt_Link : (ByteArray × Int) := (⟨#[]⟩, 0)
def slices_DeleteFunc_Link_impl_apply_in.f (k : Nat) (a0 : List (ByteArray × Int)) (a1 : Int × ByteArray × ByteArray × Int) : Option (List (ByteArray × Int)) := delG (slices_IndexFunc_Link_impl_apply_in.f k a0 a1) (fun x => impl_apply_in.f k x a1) a0
def slices_DeleteFunc_Link_impl_apply_in.sig : Sig := ⟨[.give false (.sl 82 (.pair .str (.int .i64))), .clo 94 false 84 (.pair (.int .i64) (.pair .str (.pair .str (.int .i64))))], [⟨false, (.sl 82 (.pair .str (.int .i64))), true⟩]⟩
def slices_DeleteFunc_Link_impl_apply_in.fn : Fn := ⟨slices_DeleteFunc_Link_impl_apply_in.sig, fun k (x : List (ByteArray × Int) × (Int × ByteArray × ByteArray × Int)) => slices_DeleteFunc_Link_impl_apply_in.f k x.1 x.2⟩

theorem slices_DeleteFunc_Link_impl_apply_in.ok (k : Nat) : FnOk Tryz.prog k 93 slices_DeleteFunc_Link_impl_apply_in.fn := by
  refine ⟨body_there Tryz.func93 (by kernel_rfl) (by kernel_rfl), ?_⟩
  intro w S vs vss rows (x : List (ByteArray × Int) × (Int × ByteArray × ByteArray × Int)) (r : List (ByteArray × Int)) hsem hargs hparts hS hbn hbn2 hbS hnd hrows
  obtain ⟨xs, cap⟩ := x
  change slices_DeleteFunc_Link_impl_apply_in.f k xs cap = some r at hsem
  unfold slices_DeleteFunc_Link_impl_apply_in.f delG at hsem
  obtain ⟨idx, hidx, hsem⟩ := Option.bind_eq_some_iff.1 hsem
  have hal := hargs.length
  obtain ⟨v0, v1, rfl⟩ := list2 hal.1
  obtain ⟨l0, l1, rfl⟩ := list2 hal.2
  obtain ⟨ha0, ⟨mb, rfl, hmb⟩, _⟩ := hargs
  simp only [Bool.false_eq_true, if_false] at ha0
  subst ha0
  obtain ⟨q0, qs, r1, r2, he, rfl, hp0, hp⟩ := hparts
  simp only [List.cons.injEq] at he
  obtain ⟨rfl, rfl⟩ := he
  obtain ⟨q1, he, hp1⟩ := hp
  simp only [List.cons.injEq, and_true] at he
  subst he
  have hp0 : OwnT w S (.sl 82 (.pair .str (.int .i64))) xs [v0] r1 := hp0
  obtain ⟨hp1, rfl⟩ : RdT w S (.pair (.int .i64) (.pair .str (.pair .str (.int .i64)))) cap l1 ∧ r2 = [] := hp1
  have hrd0 : RdT w (fun b => S b ∨ b ∈ Blks r1) (.sl 82 (.pair .str (.int .i64))) xs [v0] := by
    obtain ⟨a, n, cp, h1, h2, h3, _⟩ := hp0
    refine ⟨a, n, cp, h1, h3.mono (fun b hb => .inr ?_) (fun _ _ => rfl) (fun x l => RdT.mono (fun b hb => .inl hb) fun _ _ => rfl)⟩
    subst h2
    cases a with
    | none => cases hb
    | some ad => simpa [Blks] using hb.symm
  obtain ⟨a, c, X, hl, rfl, hcap, hnil, hXl, hX, hblk⟩ := own_cells hp0 (by decide)
  simp only [List.cons.injEq, and_true] at hl
  subst hl
  simp only [List.append_nil] at hnd hrows ⊢
  have hcap : xs.length ≤ c := hcap
  have hix : Calls Tryz.prog 101 #[.slice a xs.length c, .func (.func 94) #[] #[.pointer (some ⟨mb, 0, none⟩)]] w (fun e w' => e = .returned (.int .i64 idx) ∧ Frm w.heap.size (fun _ => False) w w') := by
    refine ((slices_IndexFunc_Link_impl_apply_in.ok k).run w (fun b => S b ∨ b ∈ Blks [(a.map (·.block), .slice a xs.length c)]) [.slice a xs.length c, .func (.func 94) #[] #[.pointer (some ⟨mb, 0, none⟩)]] [[.slice a xs.length c], l1] [] (xs, cap) idx hidx
      ⟨rfl, ⟨mb, rfl, hmb⟩, trivial⟩ ⟨_, _, [], [], rfl, rfl, ⟨hrd0, rfl⟩, _, rfl, ⟨hp1.mono (fun b hb => .inl hb) (fun _ _ => rfl), rfl⟩⟩
      (fun b hb => hb.elim (hS b) fun hb => (hrows b hb).2.1) List.nodup_nil (fun b hb => nomatch hb) (fun b hb => ?_) List.nodup_nil (fun b hb => nomatch hb)).mono ?_
    · exact fun h => h.elim (hbS b hb) fun h => (hrows b h).2.2 hb
    · rintro e w' ⟨rv, S', vr, vo, rows', rfl, hfrm, _, _, _, hpr, hres, ho, _, _⟩
      obtain rfl : vo = [] := ho
      match vr, hres with
      | [l], hres =>
        have h1 := hres.1
        simp only [Bool.false_eq_true, if_false] at h1
        subst h1
        have := one_out (own := true) (.inr ⟨_, rfl⟩) hpr
        simp only [RdT, List.cons.injEq, and_true] at this
        subst this
        exact ⟨rfl, hfrm.os, hfrm.tape, hfrm.output, rfl, hfrm.size, fun b hb _ => hfrm.block b hb fun h => h.elim (fun h => nomatch h) (fun h => nomatch h)⟩
      | [], hres => exact hres.elim
      | _ :: _ :: _, hres => exact hres.2.elim
  have hmS : ¬ S mb := hbS mb (List.mem_singleton.2 rfl : mb ∈ [mb])
  by_cases hi1 : idx = -1
  · subst hi1
    rw [if_pos rfl] at hsem
    simp only [Option.some.injEq] at hsem
    subst hsem
    refine (Hand.dfn0_slices_DeleteFunc_Link_impl_apply_in w a xs.length c mb _ hix).mono ?_
    rintro en w' ⟨rfl, hfrm⟩
    refine ⟨_, S, [[_]], [], [(a.map (·.block), .slice a xs.length c)], rfl, ⟨hfrm.os, hfrm.tape, hfrm.output, rfl, hfrm.size, fun b hb _ => hfrm.block b hb id⟩, fun _ h => h, fun _ h => .inl h, fun b hb => Nat.lt_of_lt_of_le (hS b hb) hfrm.size, ⟨_, rfl, ?_⟩, ⟨rfl, trivial⟩, rfl, hnd, fun b hb => ⟨(hrows b hb).1, Nat.lt_of_lt_of_le (hrows b hb).2.1 hfrm.size, (hrows b hb).2.2, .inl hb⟩⟩
    exact OwnT.mono (fun _ h => h) (fun b hb => hfrm.block b (hS b hb) id) (fun b hb => hfrm.block b (hrows b hb).2.1 id) hp0
  have hrows : ∀ b ∈ Blks [(a.map (·.block), .slice a xs.length c)], ¬ S b ∧ b < w.heap.size ∧ b ≠ mb := fun b hb => ⟨(hrows b hb).1, (hrows b hb).2.1, fun e => (hrows b hb).2.2 (List.mem_singleton.2 e : b ∈ [mb])⟩
  rw [if_neg hi1] at hsem
  split at hsem
  case isFalse => cases hsem
  rename_i hc
  obtain ⟨h0, hlt, hbig⟩ := hc
  obtain ⟨i0, rfl⟩ : ∃ n : Nat, idx = n := ⟨idx.toNat, by omega⟩
  have hlt : i0 < xs.length := by exact_mod_cast hlt
  simp only [Int.toNat_natCast] at hsem
  obtain ⟨rest, hrest, rfl⟩ := Option.map_eq_some_iff.1 hsem
  obtain ⟨hp, rfl⟩ := delF_eq hrest
  obtain ⟨q, hq⟩ : ∃ q : (ByteArray × Int) → Bool, q = fun x => (impl_apply_in.f k x cap).getD false := ⟨_, rfl⟩
  have hpq : ∀ x ∈ xs.drop (i0 + 1), impl_apply_in.f k x cap = some (q x) := fun x hx => by obtain ⟨b, hb⟩ := hp x hx; simp [hq, hb]
  have hfin : xs.take i0 ++ (xs.drop (i0 + 1)).filter (fun x => !(impl_apply_in.f k x cap).getD false) = keptTo q xs i0 (xs.length - (i0 + 1)) := by
    unfold keptTo
    rw [List.take_of_length_le (l := xs.drop (i0 + 1)) (by rw [List.length_drop]; omega), hq]
  rw [hfin]
  cases a with
  | none => obtain ⟨rfl, _⟩ := hnil rfl; exact absurd hlt (Nat.not_lt_zero _)
  | some ad =>
    obtain ⟨b, off, asp⟩ := ad
    obtain ⟨hsp, cur, hcur, hfit, hXc⟩ := hblk _ rfl
    simp only at hsp hcur hfit hXc
    subst hsp
    have hfit : off + c * 2 ≤ cur.size := hfit
    have hXf := hX.flat (cv := cvLink) cvLink_len (fun x l h => by obtain ⟨_, _, rfl, rfl, rfl⟩ := h; rfl)
    subst hXf
    have hbb : b ∈ Blks [((some (⟨b, off, none⟩ : Addr)).map (·.block), .slice (some ⟨b, off, none⟩) xs.length c)] := by simp [Blks]
    have hbS' := hrows b hbb
    have hmbb : mb ≠ b := fun h => hbS'.2.2 h.symm
    have hmlt : mb < w.heap.size := (Array.getElem?_eq_some_iff.1 hmb).1
    obtain ⟨z, hzv, hzs, hz1⟩ := Hand.zeroLink
    have key := Hand.dfn_slices_DeleteFunc_Link_impl_apply_in w b off xs.length c i0 mb cur [] (fun j => ((xs[j]?).getD dflt_Link).1) (fun j => ((xs[j]?).getD dflt_Link).2) (fun j => q ((xs[j]?).getD dflt_Link))
      (fun i j W => ∃ d, j = i0 + 1 + d ∧ i = (keptTo q xs i0 d).length ∧ DInv 82 2 cvLink w b off cur.size xs (keptTo q xs i0 d) j W)
      (hix.mono (by
        rintro e w' ⟨rfl, hf⟩
        refine ⟨rfl, 0, rfl, ?_, ⟨⟨hf.os, hf.tape, hf.output, rfl, hf.size, fun k hk _ => hf.block k hk id⟩, cur, (hf.block b hbS'.2.1 id).trans hcur, rfl, fun q v hq => ?_, fun q v _ hq => hXc q v hq⟩⟩
        · simp [keptTo]; omega
        · simp only [keptTo, List.take_zero, List.filter_nil, List.append_nil] at hq
          refine hXc q v ?_
          rw [← List.take_append_drop i0 xs, List.flatMap_append, List.getElem?_append_left (List.getElem?_eq_some_iff.1 hq).1]
          exact hq))
      hlt (by omega) hcap
      (fun i j W hI hj => by
        obtain ⟨d, rfl, rfl, h⟩ := hI
        have hx : xs[i0 + 1 + d]? = some xs[i0 + 1 + d] := List.getElem?_eq_getElem hj
        exact ⟨by have := h.read (cvLink_len) hx (t := 0) rfl; simpa [hx] using this, by have := h.read (cvLink_len) hx (t := 1) rfl; simpa [hx] using this⟩)
      (fun i j W hI hj => by
        obtain ⟨d, rfl, rfl, h⟩ := hI
        have hx : xs[i0 + 1 + d]? = some xs[i0 + 1 + d] := List.getElem?_eq_getElem hj
        have hpx := hpq _ (List.mem_of_getElem? (by rw [List.getElem?_drop]; exact hx))
        simp only [hx, Option.getD_some]
        have hWs := h.frm.size
        have hkeep : ∀ k, k < w.heap.size → k ≠ b → (W.alloc (.cells (cvLink xs[i0 + 1 + d]).toArray 82)).heap[k]? = w.heap[k]? := fun k hk hkb => by
          show (W.heap.push _)[k]? = _
          rw [Array.getElem?_push, if_neg (by omega)]
          exact h.frm.block k hk hkb
        refine ((impl_apply_in.ok k).run _ S [.agg (cvLink xs[i0 + 1 + d]).toArray, .pointer (some ⟨mb, 0, none⟩)] [cvLink xs[i0 + 1 + d], l1] [] (xs[i0 + 1 + d], cap) (q xs[i0 + 1 + d]) hpx
          ⟨rfl, ⟨mb, rfl, (hkeep mb hmlt hmbb).trans hmb⟩, trivial⟩
          ⟨_, _, [], [], rfl, rfl, ⟨cvLink_rd _, rfl⟩, _, rfl, ⟨hp1.mono (fun _ h => h) (fun s hs => hkeep s (hS s hs) fun e => hbS'.1 (e ▸ hs)), rfl⟩⟩
          (fun s hs => by have := hS s hs; show s < (W.heap.push _).size; simp; omega) List.nodup_nil (fun b hb => nomatch hb) (fun s hs => by have hs : s = mb := List.mem_singleton.1 hs; rw [hs]; exact hmS) List.nodup_nil (fun b hb => nomatch hb)).mono ?_
        rintro e w' ⟨rv, S', vr, vo, rows', rfl, hfrm, _, _, _, hpr, hres, ho, _, _⟩
        obtain rfl : vo = [] := ho
        match vr, hres with
        | [l], hres =>
          have h1 := hres.1
          simp only [Bool.false_eq_true, if_false] at h1
          subst h1
          have := one_out (own := true) (.inl rfl) hpr
          simp only [RdT, List.cons.injEq, and_true] at this
          subst this
          exact ⟨rfl, hfrm.os, hfrm.tape, hfrm.output, rfl, hfrm.size, fun b hb _ => hfrm.block b hb fun h => h.elim (fun h => nomatch h) (fun h => nomatch h)⟩
        | [], hres => exact hres.elim
        | _ :: _ :: _, hres => exact hres.2.elim)
      (fun i j W W' hI hj hpr hf => by
        obtain ⟨d, rfl, rfl, h⟩ := hI
        have hx : xs[i0 + 1 + d]? = some xs[i0 + 1 + d] := List.getElem?_eq_getElem hj
        simp only [hx, Option.getD_some] at hpr
        refine ⟨d + 1, rfl, ?_, ?_⟩ <;> rw [keptTo_succ hx, hpr, cond_true]
        exact (h.call hf).skip)
      (fun i j W W' hI hj hf => by
        obtain ⟨d, rfl, rfl, h⟩ := hI
        obtain ⟨cur', h1, h2, _⟩ := (h.call hf).row
        exact ⟨cur', h1, by omega⟩)
      (fun i j W W' hI hj hpr hf => by
        obtain ⟨d, rfl, rfl, h⟩ := hI
        have hx : xs[i0 + 1 + d]? = some xs[i0 + 1 + d] := List.getElem?_eq_getElem hj
        simp only [hx, Option.getD_some] at hpr hf ⊢
        have hkl := keptTo_len (q := q) (xs := xs) (i0 := i0) (d := d)
        refine ⟨d + 1, rfl, ?_, ?_⟩ <;> rw [keptTo_succ hx, hpr, cond_false]
        · simp
        · exact (h.call hf).keep cvLink_len (c := c) xs[i0 + 1 + d] (by omega) (by omega) (by omega))
      (fun i W2 => i = (keptTo q xs i0 (xs.length - (i0 + 1))).length ∧ Frm w.heap.size (fun x => x = b) w W2 ∧ ∃ cur', W2.heap[b]? = some (.cells cur' 82 (0, 0)) ∧ cur'.size = cur.size ∧ ∀ q' v, ((keptTo q xs i0 (xs.length - (i0 + 1))).flatMap cvLink)[q']? = some v → cur'[off + q']? = some v)
      (fun i W hI => by
        obtain ⟨d, hd, rfl, h⟩ := hI
        obtain rfl : d = xs.length - (i0 + 1) := by omega
        have hkl := keptTo_len (q := q) (xs := xs) (i0 := i0) (d := xs.length - (i0 + 1))
        obtain ⟨K, hK⟩ : ∃ K, K = keptTo q xs i0 (xs.length - (i0 + 1)) := ⟨_, rfl⟩
        rw [← hK] at h hkl ⊢
        obtain ⟨cur', h1, h2, h3, h4⟩ := h.row
        have hflat := flat_len cvLink_len K
        have hzl : (Builtin.zeroCells z.cells (xs.length - K.length)).toList.length = (xs.length - K.length) * 2 := by rw [Array.length_toList, size_zeroCells, hzs]
        refine ⟨_, fun ty dc => run_clear_k W 31 82 ty z Tryz.underlying31 hzv b (off + K.length * 2) (xs.length - K.length) dc cur' 82 h1 (by rw [hzl, h2]; omega) (hz1 _) (by omega), rfl, ?_, ?_⟩
        · exact ⟨h.frm.os, h.frm.tape, h.frm.output, rfl, by rw [size_setRow]; exact h.frm.size, fun k hk hm => (setRow_other _ _ _ _ hm).trans (h.frm.block k hk hm)⟩
        · refine ⟨_, setRow_heap _ b cur' _ 82 (0, 0) h1, ?_, fun q' v hv => ?_⟩
          · simp only [List.size_toArray, List.length_append, List.length_take, List.length_drop, Array.length_toList, hzl] at *; omega
          · have hlt' := (List.getElem?_eq_some_iff.1 hv).1
            simp only [List.getElem?_toArray]
            rw [laid_get cur'.toList _ (off + K.length * 2) (off + q') (by rw [hzl]; simp; omega), if_pos (by omega)]
            simpa using h3 q' v hv)
      (fun i j W hI => by
        obtain ⟨d, rfl, rfl, h⟩ := hI
        have hkl := keptTo_len (q := q) (xs := xs) (i0 := i0) (d := d)
        omega)
    refine key.mono ?_
    rintro en w' ⟨i, rfl, rfl, hfrm, cur', hcur', hsz', hcells⟩
    have hkl := keptTo_len (q := q) (xs := xs) (i0 := i0) (d := xs.length - (i0 + 1))
    have hpost : InsPost 82 2 w (some b) ((keptTo q xs i0 (xs.length - (i0 + 1))).flatMap cvLink) (keptTo q xs i0 (xs.length - (i0 + 1))).length (.returned (.slice (some ⟨b, off, none⟩) (keptTo q xs i0 (xs.length - (i0 + 1))).length c)) w' :=
      ⟨b, off, c, cur', rfl, by omega, hcur', by omega, hcells, ⟨hfrm.os, hfrm.tape, hfrm.output, rfl, hfrm.size, fun k hk hm => hfrm.block k hk fun e => hm (by rw [e])⟩, .inl rfl⟩
    obtain ⟨rv, rows', h1, h2, h3, h4, h5, h6⟩ := ins_back (e := 82) (c := (.pair .str (.int .i64))) (S := S) (rows := [((some (⟨b, off, none⟩ : Addr)).map (·.block), .slice (some ⟨b, off, none⟩) xs.length c)]) hpost (FlatR.of_flat (rd := RdT w S (.pair .str (.int .i64))) (size := 2) cvLink_len (xs := keptTo q xs i0 (xs.length - (i0 + 1))) fun x _ => cvLink_rd x) rfl hS
      (fun x hx => by cases hx; exact hbb) (fun x hx => ⟨(hrows x hx).1, (hrows x hx).2.1⟩) rfl
    refine ⟨rv, S, [[rv]], [], rows', h1, ⟨h2.os, h2.tape, h2.output, rfl, h2.size, fun k hk hm => h2.block k hk fun h => h.elim (fun h => nomatch h) fun h => hm (.inr h)⟩, fun _ h => h, fun _ h => .inl h, h3, h4, ⟨rfl, trivial⟩, rfl, h5, fun x hx => ⟨(h6 x hx).1, (h6 x hx).2.1, fun h => ?_, (h6 x hx).2.2.2⟩⟩
    have hxm : x = mb := List.mem_singleton.1 h
    rcases (h6 x hx).2.2.2 with h' | h'
    · exact (hrows x h').2.2 hxm
    · omega

section
open Go.Proofs Go.Shelf Go.RowKit Go.Lib

set_option maxHeartbeats 4000000 in
set_option maxRecDepth 100000 in
theorem Hand.del_Link (w : World) (b off n c i j : Nat) (cur : Array Value) (X : List Value) (hb : w.heap[b]? = some (.cells cur 82 (0, 0)))
    (hij : i < j) (hj : j ≤ n) (hnc : n ≤ c) (hfit : off + c * 2 ≤ cur.size)
    (hXl : X.length = n * 2) (hX : ∀ (j : Nat) (v : Value), X[j]? = some v → cur[off + j]? = some v) (h1X : ∀ v ∈ X, v.oneCell' = true) :
    Calls Tryz.prog 95 #[.slice (some ⟨b, off, none⟩) n c, .int .i64 i, .int .i64 j] w (InsPost 82 2 w (some b) (X.take (i * 2) ++ X.drop (j * 2)) (i + (n - j))) := by
  obtain ⟨i0, hi0, hz0, hbt, _⟩ := Hand.infoLink
  obtain ⟨z, hzv, hzs, hz1⟩ := Hand.zeroLink
  have hdl : (X.drop (j * 2)).length = (n - j) * 2 := by rw [List.length_drop, hXl, Nat.sub_mul]
  obtain ⟨A, hA⟩ : ∃ A : Array Value, A = (cur.toList.take (off + i * 2) ++ X.drop (j * 2) ++ cur.toList.drop (off + i * 2 + (X.drop (j * 2)).length)).toArray := ⟨_, rfl⟩
  have hAl : A.toList = cur.toList.take (off + i * 2) ++ X.drop (j * 2) ++ cur.toList.drop (off + i * 2 + (X.drop (j * 2)).length) := by rw [hA]
  have hAs : A.size = cur.size := by rw [hA]; simp only [List.size_toArray, List.length_append, List.length_take, List.length_drop, Array.length_toList, hXl]; omega
  have hap : ∀ ty (ad : Addr), (n - j = 0 ∨ ad = ⟨b, off + j * 2, none⟩) → (Builtin.append_ #[31, 31] ty #[.slice (some ⟨b, off, none⟩) i c, .slice (some ad) (n - j) (c - j)]).run Tryz.prog w.drew = .ok (.slice (some ⟨b, off, none⟩) (i + (n - j)) c) (w.drew.setRow b A) := fun ty ad had => by
    have := run_append_room' w.drew 31 ty 82 i0 Tryz.underlying31 hi0 b off i c cur hb ad (n - j) (c - j) (X.drop (j * 2)) (by rw [hdl, hz0]) (fun q u hq => by
      rcases had with h0 | rfl
      · have := (List.getElem?_eq_some_iff.1 hq).1; rw [hdl, h0] at this; omega
      · rw [List.getElem?_drop] at hq
        show w.cell? _ = _
        rw [Addr.add_lit, cell_of_row w b _ cur 82 (0, 0) hb, show off + j * 2 + q = off + (j * 2 + q) by omega]
        exact hX _ u hq) (fun v hv => h1X v (List.mem_of_mem_drop hv)) (by omega) (by rw [hz0, hdl]; omega)
    rw [hz0, ← hA] at this
    exact this
  have hgA : (w.drew.setRow b A).heap[b]? = some (.cells A 82 (0, 0)) := setRow_heap w.drew b cur A 82 (0, 0) hb
  obtain ⟨ZZ, hZZ⟩ : ∃ ZZ, ZZ = (Builtin.zeroCells z.cells (n - (i + (n - j)))).toList := ⟨_, rfl⟩
  have hZl : ZZ.length = (j - i) * 2 := by rw [hZZ, Array.length_toList, size_zeroCells, hzs]; congr 1; omega
  obtain ⟨B, hB⟩ : ∃ B : Array Value, B = (A.toList.take (off + (i + (n - j)) * 2) ++ ZZ ++ A.toList.drop (off + (i + (n - j)) * 2 + ZZ.length)).toArray := ⟨_, rfl⟩
  have hBl : B.toList = A.toList.take (off + (i + (n - j)) * 2) ++ ZZ ++ A.toList.drop (off + (i + (n - j)) * 2 + ZZ.length) := by rw [hB]
  have hBs : B.size = A.size := by rw [hB]; simp only [List.size_toArray, List.length_append, List.length_take, List.length_drop, Array.length_toList, hZl]; omega
  have hcl : ∀ ty dc, (Builtin.clear_ #[31] ty #[.slice (some ⟨b, off + (i + (n - j)) * 2, none⟩) (n - (i + (n - j))) dc]).run Tryz.prog (w.drew.setRow b A) = .ok (.tuple #[]) ((w.drew.setRow b A).setRow b B) := fun ty dc => by
    rw [hB, hZZ]
    exact run_clear_k _ 31 82 ty z Tryz.underlying31 hzv b (off + (i + (n - j)) * 2) (n - (i + (n - j))) dc A 82 hgA (by rw [← hZZ, hZl, hAs]; omega) (hz1 _) (by omega)
  have hfin : ∀ (q : Nat) (v : Value), (X.take (i * 2) ++ X.drop (j * 2))[q]? = some v → B[off + q]? = some v := by
    intro q v hq
    have hXt : (X.take (i * 2)).length = i * 2 := by rw [List.length_take, hXl]; omega
    have hql : q < i * 2 + (n - j) * 2 := by
      have := (List.getElem?_eq_some_iff.1 hq).1
      rwa [List.length_append, hXt, hdl] at this
    rw [← Array.getElem?_toList, hBl, laid_get A.toList ZZ _ (off + q) (by rw [hZl]; simp; omega), if_pos (by omega), hAl, laid_get cur.toList (X.drop (j * 2)) (off + i * 2) (off + q) (by rw [hdl]; simp; omega), hdl]
    by_cases c1 : q < i * 2
    · rw [if_pos (by omega)]
      rw [List.getElem?_append_left (by omega), List.getElem?_take, if_pos c1] at hq
      simpa using hX q v hq
    · rw [if_neg (by omega), if_pos (by omega)]
      rw [List.getElem?_append_right (by omega), hXt] at hq
      rw [show off + q - (off + i * 2) = q - i * 2 by omega]; exact hq
  have F : Aside ((w.drew.setRow b A).heap[b]? = some (.cells A 82 (0, 0)) ∧ off + c * 2 ≤ B.size ∧ (∀ (q : Nat) (v : Value), (X.take (i * 2) ++ X.drop (j * 2))[q]? = some v → B[off + q]? = some v)) := ⟨hgA, by omega, hfin⟩
  have hzz : ¬ ((i : Int) = (j : Int)) := by omega
  have hci : ¬ (c = i) := by omega
  have hcl2 : ¬ (c = i + (n - j)) := by omega
  have hle1 : i ≤ j := by omega
  have hle2 : (i : Int) ≤ (j : Int) := by omega
  have hle3 : (j : Int) ≤ (n : Int) := by omega
  have hle4 : (n : Int) ≤ (c : Int) := by omega
  have hle5 : i ≤ c := by omega
  have hle6 : j ≤ c := by omega
  have hle7 : i + (n - j) ≤ n := by omega
  obtain ⟨AD, hAD, hadj⟩ : ∃ AD : Addr, (if c = j then some (⟨b, off, none⟩ : Addr) else some ⟨b, off + j * 2, none⟩) = some AD ∧ (n - j = 0 ∨ AD = ⟨b, off + j * 2, none⟩) := by
    by_cases h : c = j
    · exact ⟨_, by rw [if_pos h], .inl (by omega)⟩
    · exact ⟨_, by rw [if_neg h], .inr rfl⟩
  have hap' := fun ty => hap ty AD hadj
  clear hA hAl hAs hgA hB hBl hBs hfin hdl hX hb hZZ hZl hap hadj hz1
  have mixed : Tryz.prog.follows .mixedOrders = true := by kernel_rfl
  go_enter Tryz.func95, Tryz.ntmps95
  go_wp2_with fail
  go_region_law_o (refine step_append_runI rfl (.tmp 22) (.tmp 25) 31 31 rfl (.slice (some ⟨b, off, none⟩) i c) (.slice (some AD) (n - j) (c - j)) (by simp [Act.eval, Act.put]) (by simp [Act.eval, Act.put, hAD]) (hap' _) ?_)
  go_wp2
  go_ret
  refine ⟨b, off, c, B, rfl, by omega, setRow_heap _ b A B 82 (0, 0) F.out.1, F.out.2.1, F.out.2.2, ⟨rfl, rfl, rfl, rfl, by simp [size_setRow], fun k hk hm => ?_⟩, .inl rfl⟩
  rw [setRow_other _ b _ _ (fun e => hm (by rw [e])), setRow_other _ b _ _ (fun e => hm (by rw [e]))]
  rfl
set_option maxHeartbeats 4000000 in
theorem Hand.del_eq_Link (w : World) (b : Option Addr) (n c i : Nat) (hi : i ≤ n) (hnc : n ≤ c) (hn : b = none → n = 0 ∧ c = 0) (hsp : ∀ ad, b = some ad → ad.spot = none) :
    Calls Tryz.prog 95 #[.slice b n c, .int .i64 i, .int .i64 i] w (fun e w' => e = .returned (.slice b n c) ∧ w' = w) := by
  have hle3 : (i : Int) ≤ (n : Int) := by omega
  have hle4 : (n : Int) ≤ (c : Int) := by omega
  have hle5 : i ≤ c := by omega
  cases b with
  | none =>
    obtain ⟨rfl, rfl⟩ := hn rfl
    obtain rfl : i = 0 := by omega
    go_enter Tryz.func95, Tryz.ntmps95
    go_wp2
    all_goals (go_ret; exact ⟨rfl, rfl⟩)
  | some ad =>
    obtain ⟨b, off, sp⟩ := ad
    have := hsp _ rfl
    simp only at this
    subst this
    clear hsp
    go_enter Tryz.func95, Tryz.ntmps95
    go_wp2
    all_goals (go_ret; exact ⟨rfl, rfl⟩)
end

def slices_Delete_Link.f (k : Nat) (a0 : List (ByteArray × Int)) (a1 : Int) (a2 : Int) : Option (List (ByteArray × Int)) := delR a0 a1 a2
def slices_Delete_Link.sig : Sig := ⟨[.give false (.sl 82 (.pair .str (.int .i64))), .val false (.int .i64), .val false (.int .i64)], [⟨false, (.sl 82 (.pair .str (.int .i64))), true⟩]⟩
def slices_Delete_Link.fn : Fn := ⟨slices_Delete_Link.sig, fun k (x : List (ByteArray × Int) × Int × Int) => slices_Delete_Link.f k x.1 x.2.1 x.2.2⟩

theorem slices_Delete_Link.ok (k : Nat) : FnOk Tryz.prog k 95 slices_Delete_Link.fn := by
  refine ⟨body_there Tryz.func95 (by kernel_rfl) (by kernel_rfl), ?_⟩
  intro w S vs vss rows (x : List ((.pair .str (.int .i64)) : CK).T × Int × Int) (r : List ((.pair .str (.int .i64)) : CK).T) hsem hargs hparts hS hbn hbn2 hbS hnd hrows
  obtain ⟨xs, i, j⟩ := x
  change slices_Delete_Link.f k xs i j = some r at hsem
  unfold slices_Delete_Link.f delR at hsem
  split at hsem
  case isFalse => cases hsem
  rename_i hc
  obtain ⟨hi0, hij, hj⟩ : 0 ≤ i ∧ i ≤ j ∧ j ≤ xs.length := hc
  have hsem : xs.take i.toNat ++ xs.drop j.toNat = r := Option.some.inj hsem
  obtain ⟨n, rfl⟩ : ∃ n : Nat, i = n := ⟨i.toNat, by omega⟩
  obtain ⟨q, rfl⟩ : ∃ n : Nat, j = n := ⟨j.toNat, by omega⟩
  have hsem : xs.take n ++ xs.drop q = r := hsem
  have hij : n ≤ q := by exact_mod_cast hij
  have hj : q ≤ xs.length := by exact_mod_cast hj
  have hal := hargs.length
  obtain ⟨v0, v1, v2, rfl⟩ := list3 hal.1
  obtain ⟨l0, l1, l2, rfl⟩ := list3 hal.2
  obtain ⟨ha0, ha1, ha2, _⟩ := hargs
  simp only [Bool.false_eq_true, if_false] at ha0 ha1 ha2
  subst ha0; subst ha1; subst ha2
  obtain ⟨q0, qs, r1, r2, he, rfl, hp0, hp⟩ := hparts
  simp only [List.cons.injEq] at he
  obtain ⟨rfl, rfl⟩ := he
  obtain ⟨q1, qs, r3, r4, he, rfl, hp1, hp2⟩ := hp
  simp only [List.cons.injEq] at he
  obtain ⟨rfl, rfl⟩ := he
  obtain ⟨q2, he, hp2⟩ := hp2
  simp only [List.cons.injEq, and_true] at he
  subst he
  have hp0 : OwnT w S (.sl 82 (.pair .str (.int .i64))) xs [v0] r1 := hp0
  obtain ⟨hp1, rfl⟩ : RdT w S (.int .i64) (n : Int) [v1] ∧ r3 = [] := hp1
  obtain ⟨hp2, rfl⟩ : RdT w S (.int .i64) (q : Int) [v2] ∧ r4 = [] := hp2
  have hv1 : v1 = .int .i64 n := by simpa [RdT] using hp1
  have hv2 : v2 = .int .i64 q := by simpa [RdT] using hp2
  subst hv1; subst hv2
  obtain ⟨a, cap, X, hl, rfl, hcap, hnil, hXl, hX, hblk⟩ := own_cells hp0 (by decide)
  simp only [List.cons.injEq, and_true] at hl
  subst hl
  have h1X := hX.one (by decide : 0 < ((.pair .str (.int .i64)) : CK).size) (by decide)
  cases a with
  | none =>
    obtain ⟨rfl, rfl⟩ := hnil rfl
    obtain rfl : q = 0 := by simpa using hj
    obtain rfl : n = 0 := by omega
    refine (Hand.del_eq_Link w none 0 0 0 (Nat.le_refl _) (Nat.le_refl _) (fun _ => ⟨rfl, rfl⟩) (fun _ h => nomatch h)).mono ?_
    rintro en w' ⟨rfl, rfl⟩
    obtain rfl : r = [] := by rw [← hsem]; rfl
    obtain ⟨rv, rows', h1, h2, h3, h4, h5, h6⟩ := nil_back (e := 82) (c := (.pair .str (.int .i64))) (w := w') (S := S) (n := 0) (cap := 0) rfl rfl hS _
    exact ⟨rv, S, [[rv]], [], rows', h1, h2, fun _ h => h, fun _ h => .inl h, h3, h4, ⟨rfl, trivial⟩, rfl, h5, fun x hx => ⟨(h6 x hx).1, (h6 x hx).2.1, (h6 x hx).2.2.1, (h6 x hx).2.2.2.imp (fun h => h.elim) id⟩⟩
  | some ad =>
    obtain ⟨hsp, cur, hcur, hfit, hXc⟩ := hblk _ rfl
    have key : Calls Tryz.prog 95 #[.slice (some ad) xs.length cap, .int .i64 n, .int .i64 q] w (InsPost 82 2 w (some ad.block) (X.take (n * 2) ++ X.drop (q * 2)) (n + (xs.length - q))) := by
      by_cases he : n = q
      · subst he
        refine (Hand.del_eq_Link w (some ad) xs.length cap n hj hcap (fun h => nomatch h) (fun _ h => by cases h; exact hsp)).mono ?_
        rintro en w' ⟨rfl, rfl⟩
        rw [List.take_append_drop, show n + (xs.length - n) = xs.length by omega]
        exact InsPost.same hsp hcap hcur hfit hXc
      · obtain ⟨ab, ao, asp⟩ := ad
        simp only at hsp hcur hfit hXc
        subst hsp
        exact Hand.del_Link w ab ao xs.length cap n q cur X hcur (by omega) hj hcap hfit hXl hXc h1X
    refine key.mono ?_
    intro en w' hpost
    have hflat : FlatR (RdT w S (.pair .str (.int .i64))) ((.pair .str (.int .i64)) : CK).size r (X.take (n * 2) ++ X.drop (q * 2)) := by
      rw [← hsem]
      exact (hX.take n).append (hX.drop q hj)
    have hrl : n + (xs.length - q) = r.length := by
      rw [← hsem, List.length_append, List.length_take, List.length_drop]; omega
    obtain ⟨rv, rows', h1, h2, h3, h4, h5, h6⟩ := ins_back (e := 82) (c := (.pair .str (.int .i64))) (rows := [(some ad.block, .slice (some ad) xs.length cap)] ++ ([] ++ [])) hpost hflat hrl hS
      (fun x hx => by simp at hx; simp [Blks, hx]) (fun x hx => ⟨(hrows x hx).1, (hrows x hx).2.1⟩) rfl
    exact ⟨rv, S, [[rv]], [], rows', h1, h2, fun _ h => h, fun _ h => .inl h, h3, h4, ⟨rfl, trivial⟩, rfl, h5, h6⟩

/-! loop.example/g00358/impl.apply -/
def impl_apply.f (k : Nat) (a0 : List (ByteArray × Int)) (a1 : Int × ByteArray × ByteArray × Int) : Option (List (ByteArray × Int) × Bool) :=
  (impl_copyLinks.f k a0).bind fun r1 => (impl_linkAt.f k a0 a1.2.1).bind fun r2 => bif (decide (a1.1 = 1)) then (bif (decide (a1.2.2.1 = (⟨#[]⟩ : ByteArray))) then (bif (decide (r2 < 0)) then ((impl_linked.f k r1 (a1.2.1, a1.2.2.2)).bind fun r3 => some (r3, true)) else (bif (decide (a1.1 = 2)) then (bif (decide (a1.2.2.2 = 0)) then (bif (decide (0 ≤ r2)) then (bif (!decide (a1.2.2.1 = a1.2.1)) then ((impl_isName.f k a1.2.2.1).bind fun r4 => bif r4 then ((slices_DeleteFunc_Link_impl_apply_in.f k r1 a1).bind fun r5 => (inb? a0.length r2).bind fun j6 => (a0[j6]?).bind fun y7 => (impl_linked.f k r5 (a1.2.2.1, y7.2)).bind fun r8 => some (r8, true)) else (bif (decide (a1.1 = 3)) then (bif (decide (a1.2.2.1 = (⟨#[]⟩ : ByteArray))) then (bif (decide (a1.2.2.2 = 0)) then (bif (decide (0 ≤ r2)) then ((slices_Delete_Link.f k r1 r2 (IntKind.wrap .i64 (r2 + 1))).bind fun r9 => some (r9, true)) else (some (r1, false))) else (some (r1, false))) else (some (r1, false))) else (some (r1, false)))) else (bif (decide (a1.1 = 3)) then (bif (decide (a1.2.2.1 = (⟨#[]⟩ : ByteArray))) then (bif (decide (a1.2.2.2 = 0)) then (bif (decide (0 ≤ r2)) then ((slices_Delete_Link.f k r1 r2 (IntKind.wrap .i64 (r2 + 1))).bind fun r10 => some (r10, true)) else (some (r1, false))) else (some (r1, false))) else (some (r1, false))) else (some (r1, false)))) else (bif (decide (a1.1 = 3)) then (bif (decide (a1.2.2.1 = (⟨#[]⟩ : ByteArray))) then (bif (decide (a1.2.2.2 = 0)) then (bif (decide (0 ≤ r2)) then ((slices_Delete_Link.f k r1 r2 (IntKind.wrap .i64 (r2 + 1))).bind fun r11 => some (r11, true)) else (some (r1, false))) else (some (r1, false))) else (some (r1, false))) else (some (r1, false)))) else (bif (decide (a1.1 = 3)) then (bif (decide (a1.2.2.1 = (⟨#[]⟩ : ByteArray))) then (bif (decide (a1.2.2.2 = 0)) then (bif (decide (0 ≤ r2)) then ((slices_Delete_Link.f k r1 r2 (IntKind.wrap .i64 (r2 + 1))).bind fun r12 => some (r12, true)) else (some (r1, false))) else (some (r1, false))) else (some (r1, false))) else (some (r1, false)))) else (bif (decide (a1.1 = 3)) then (bif (decide (a1.2.2.1 = (⟨#[]⟩ : ByteArray))) then (bif (decide (a1.2.2.2 = 0)) then (bif (decide (0 ≤ r2)) then ((slices_Delete_Link.f k r1 r2 (IntKind.wrap .i64 (r2 + 1))).bind fun r13 => some (r13, true)) else (some (r1, false))) else (some (r1, false))) else (some (r1, false))) else (some (r1, false))))) else (bif (decide (a1.1 = 2)) then (bif (decide (a1.2.2.2 = 0)) then (bif (decide (0 ≤ r2)) then (bif (!decide (a1.2.2.1 = a1.2.1)) then ((impl_isName.f k a1.2.2.1).bind fun r14 => bif r14 then ((slices_DeleteFunc_Link_impl_apply_in.f k r1 a1).bind fun r15 => (inb? a0.length r2).bind fun j16 => (a0[j16]?).bind fun y17 => (impl_linked.f k r15 (a1.2.2.1, y17.2)).bind fun r18 => some (r18, true)) else (bif (decide (a1.1 = 3)) then (bif (decide (a1.2.2.1 = (⟨#[]⟩ : ByteArray))) then (bif (decide (a1.2.2.2 = 0)) then (bif (decide (0 ≤ r2)) then ((slices_Delete_Link.f k r1 r2 (IntKind.wrap .i64 (r2 + 1))).bind fun r19 => some (r19, true)) else (some (r1, false))) else (some (r1, false))) else (some (r1, false))) else (some (r1, false)))) else (bif (decide (a1.1 = 3)) then (bif (decide (a1.2.2.1 = (⟨#[]⟩ : ByteArray))) then (bif (decide (a1.2.2.2 = 0)) then (bif (decide (0 ≤ r2)) then ((slices_Delete_Link.f k r1 r2 (IntKind.wrap .i64 (r2 + 1))).bind fun r20 => some (r20, true)) else (some (r1, false))) else (some (r1, false))) else (some (r1, false))) else (some (r1, false)))) else (bif (decide (a1.1 = 3)) then (bif (decide (a1.2.2.1 = (⟨#[]⟩ : ByteArray))) then (bif (decide (a1.2.2.2 = 0)) then (bif (decide (0 ≤ r2)) then ((slices_Delete_Link.f k r1 r2 (IntKind.wrap .i64 (r2 + 1))).bind fun r21 => some (r21, true)) else (some (r1, false))) else (some (r1, false))) else (some (r1, false))) else (some (r1, false)))) else (bif (decide (a1.1 = 3)) then (bif (decide (a1.2.2.1 = (⟨#[]⟩ : ByteArray))) then (bif (decide (a1.2.2.2 = 0)) then (bif (decide (0 ≤ r2)) then ((slices_Delete_Link.f k r1 r2 (IntKind.wrap .i64 (r2 + 1))).bind fun r22 => some (r22, true)) else (some (r1, false))) else (some (r1, false))) else (some (r1, false))) else (some (r1, false)))) else (bif (decide (a1.1 = 3)) then (bif (decide (a1.2.2.1 = (⟨#[]⟩ : ByteArray))) then (bif (decide (a1.2.2.2 = 0)) then (bif (decide (0 ≤ r2)) then ((slices_Delete_Link.f k r1 r2 (IntKind.wrap .i64 (r2 + 1))).bind fun r23 => some (r23, true)) else (some (r1, false))) else (some (r1, false))) else (some (r1, false))) else (some (r1, false))))) else (bif (decide (a1.1 = 2)) then (bif (decide (a1.2.2.2 = 0)) then (bif (decide (0 ≤ r2)) then (bif (!decide (a1.2.2.1 = a1.2.1)) then ((impl_isName.f k a1.2.2.1).bind fun r24 => bif r24 then ((slices_DeleteFunc_Link_impl_apply_in.f k r1 a1).bind fun r25 => (inb? a0.length r2).bind fun j26 => (a0[j26]?).bind fun y27 => (impl_linked.f k r25 (a1.2.2.1, y27.2)).bind fun r28 => some (r28, true)) else (bif (decide (a1.1 = 3)) then (bif (decide (a1.2.2.1 = (⟨#[]⟩ : ByteArray))) then (bif (decide (a1.2.2.2 = 0)) then (bif (decide (0 ≤ r2)) then ((slices_Delete_Link.f k r1 r2 (IntKind.wrap .i64 (r2 + 1))).bind fun r29 => some (r29, true)) else (some (r1, false))) else (some (r1, false))) else (some (r1, false))) else (some (r1, false)))) else (bif (decide (a1.1 = 3)) then (bif (decide (a1.2.2.1 = (⟨#[]⟩ : ByteArray))) then (bif (decide (a1.2.2.2 = 0)) then (bif (decide (0 ≤ r2)) then ((slices_Delete_Link.f k r1 r2 (IntKind.wrap .i64 (r2 + 1))).bind fun r30 => some (r30, true)) else (some (r1, false))) else (some (r1, false))) else (some (r1, false))) else (some (r1, false)))) else (bif (decide (a1.1 = 3)) then (bif (decide (a1.2.2.1 = (⟨#[]⟩ : ByteArray))) then (bif (decide (a1.2.2.2 = 0)) then (bif (decide (0 ≤ r2)) then ((slices_Delete_Link.f k r1 r2 (IntKind.wrap .i64 (r2 + 1))).bind fun r31 => some (r31, true)) else (some (r1, false))) else (some (r1, false))) else (some (r1, false))) else (some (r1, false)))) else (bif (decide (a1.1 = 3)) then (bif (decide (a1.2.2.1 = (⟨#[]⟩ : ByteArray))) then (bif (decide (a1.2.2.2 = 0)) then (bif (decide (0 ≤ r2)) then ((slices_Delete_Link.f k r1 r2 (IntKind.wrap .i64 (r2 + 1))).bind fun r32 => some (r32, true)) else (some (r1, false))) else (some (r1, false))) else (some (r1, false))) else (some (r1, false)))) else (bif (decide (a1.1 = 3)) then (bif (decide (a1.2.2.1 = (⟨#[]⟩ : ByteArray))) then (bif (decide (a1.2.2.2 = 0)) then (bif (decide (0 ≤ r2)) then ((slices_Delete_Link.f k r1 r2 (IntKind.wrap .i64 (r2 + 1))).bind fun r33 => some (r33, true)) else (some (r1, false))) else (some (r1, false))) else (some (r1, false))) else (some (r1, false))))

def impl_apply.sig : Sig := ⟨[.val false (.sl 82 (.pair .str (.int .i64))), .val true (.pair (.int .i64) (.pair .str (.pair .str (.int .i64))))], [⟨false, (.sl 82 (.pair .str (.int .i64))), true⟩, ⟨false, .bool, true⟩]⟩
def impl_apply.fn : Fn := ⟨impl_apply.sig, fun k (x : List (ByteArray × Int) × Int × ByteArray × ByteArray × Int) => impl_apply.f k x.1 x.2⟩
noncomputable def impl_apply.env (k : Nat) : Env := ⟨Tryz.prog, 96, fun t => none, look [(62, impl_copyLinks.fn), (91, impl_linkAt.fn), (92, impl_linked.fn), (80, impl_isName.fn), (93, slices_DeleteFunc_Link_impl_apply_in.fn), (95, slices_Delete_Link.fn)], k, impl_apply.sig.pin⟩
def impl_apply.ann : Ann := .seq .leaf (.seq .leaf (.seq .leaf (.seq (.blk (.seq .leaf (.cond (.seq .leaf .leaf) (.seq .leaf (.cond (.seq .leaf (.seq .leaf .leaf)) (.seq .leaf (.cond (.seq .leaf .leaf) .leaf))))))) (.seq .leaf .leaf))))
theorem impl_apply.ok (k : Nat) : FnOk Tryz.prog k 83 impl_apply.fn :=
  fnOk_of (E := impl_apply.env k) (ann := impl_apply.ann) (look_cons (impl_copyLinks.ok k) (look_cons (impl_linkAt.ok k) (look_cons (impl_linked.ok k) (look_cons (impl_isName.ok k) (look_cons (slices_DeleteFunc_Link_impl_apply_in.ok k) (look_cons (slices_Delete_Link.ok k) (look_nil))))))) (by kernel_rfl) Tryz.func83 (by kernel_rfl) (by kernel_rfl) (by kernel_rfl) (of_decide_eq_true (by kernel_rfl)) (of_decide_eq_true (by kernel_rfl)) (fun _ h => h) (fun x => by kernel_rfl)

/-! (loop.example/g00358/impl.Disk).linksOk -/
def impl_Disk_linksOk.c0 (k : Nat) (y : Bool × List Int × List (ByteArray × Int) × Int × Int × (Int × Int × List (Int × ByteArray × Int) × List (ByteArray × Int) × List (Int × ByteArray × ByteArray × Int)) × ByteArray × Int) : Option ((Bool × List Int × List (ByteArray × Int) × Int × Int × Int × Int × List (Int × ByteArray × Int) × List (ByteArray × Int) × List (Int × ByteArray × ByteArray × Int)) ⊕ (Bool × List Int × Int × Int × List (Int × ByteArray × Int) × List (ByteArray × Int) × List (Int × ByteArray × ByteArray × Int)) ⊕ Bool) :=
  (app? (limOf 8) y.2.1 ([y.2.2.2.2.2.2.2])).bind fun l1 => some (.inl (y.1, l1, y.2.2.1, y.2.2.2.1, IntKind.wrap .i64 (y.2.2.2.2.1 + 1), y.2.2.2.2.2.1))

def impl_Disk_linksOk.b0 (k : Nat) (s : Bool × List Int × List (ByteArray × Int) × Int × Int × Int × Int × List (Int × ByteArray × Int) × List (ByteArray × Int) × List (Int × ByteArray × ByteArray × Int)) : Option ((Bool × List Int × List (ByteArray × Int) × Int × Int × Int × Int × List (Int × ByteArray × Int) × List (ByteArray × Int) × List (Int × ByteArray × ByteArray × Int)) ⊕ (Bool × List Int × Int × Int × List (Int × ByteArray × Int) × List (ByteArray × Int) × List (Int × ByteArray × ByteArray × Int)) ⊕ Bool) :=
  bif (decide (s.2.2.2.2.1 < s.2.2.2.1)) then ((inb? s.2.2.1.length s.2.2.2.2.1).bind fun j1 => (s.2.2.1[j1]?).bind fun y2 => Option.bind (α := (Bool × List Int × List (ByteArray × Int) × Int × Int × (Int × Int × List (Int × ByteArray × Int) × List (ByteArray × Int) × List (Int × ByteArray × ByteArray × Int)) × ByteArray × Int) ⊕ Bool) ((impl_isName.f k y2.1).bind fun r3 => bif (!r3) then (some (.inr false)) else (bif (decide (0 < s.2.2.2.2.1)) then ((inb? s.2.2.2.2.2.2.2.2.1.length (IntKind.wrap .i64 (s.2.2.2.2.1 - 1))).bind fun j4 => (s.2.2.2.2.2.2.2.2.1[j4]?).bind fun y5 => bif (!strLt y5.1 y2.1) then (some (.inr false)) else ((impl_Disk_at.f k s.2.2.2.2.2 y2.2).bind fun r6 => bif (decide (r6 < 0)) then (some (.inr false)) else ((slices_Contains.f k s.2.1 y2.2).bind fun r7 => bif r7 then (some (.inr false)) else (some (.inl (s.1, s.2.1, s.2.2.1, s.2.2.2.1, s.2.2.2.2.1, s.2.2.2.2.2, y2)))))) else ((impl_Disk_at.f k s.2.2.2.2.2 y2.2).bind fun r8 => bif (decide (r8 < 0)) then (some (.inr false)) else ((slices_Contains.f k s.2.1 y2.2).bind fun r9 => bif r9 then (some (.inr false)) else (some (.inl (s.1, s.2.1, s.2.2.1, s.2.2.2.1, s.2.2.2.2.1, s.2.2.2.2.2, y2))))))) fun r => match r with | .inl y => impl_Disk_linksOk.c0 k y | .inr o => some (.inr (.inr o))) else (some (.inr (.inl (s.1, s.2.1, s.2.2.2.2.2))))

def impl_Disk_linksOk.b1 (k : Nat) (s : Bool × List Int × List (ByteArray × Int) × List (Int × ByteArray × ByteArray × Int) × Int × Int × Int × Int × List (Int × ByteArray × Int) × List (ByteArray × Int) × List (Int × ByteArray × ByteArray × Int)) : Option ((Bool × List Int × List (ByteArray × Int) × List (Int × ByteArray × ByteArray × Int) × Int × Int × Int × Int × List (Int × ByteArray × Int) × List (ByteArray × Int) × List (Int × ByteArray × ByteArray × Int)) ⊕ (Bool × List Int × Int × Int × List (Int × ByteArray × Int) × List (ByteArray × Int) × List (Int × ByteArray × ByteArray × Int)) ⊕ Bool) :=
  bif (decide (s.2.2.2.2.2.1 < s.2.2.2.2.1)) then ((inb? s.2.2.2.1.length s.2.2.2.2.2.1).bind fun j1 => (s.2.2.2.1[j1]?).bind fun y2 => (impl_apply.f k s.2.2.1 y2).bind fun r3 => bif (!r3.2) then (some (.inr (.inr false))) else ((impl_isName.f k y2.2.1).bind fun r4 => bif (!r4) then (some (.inr (.inr false))) else (bif (decide (y2.1 = 1)) then ((impl_Disk_at.f k s.2.2.2.2.2.2 y2.2.2.2).bind fun r5 => bif (decide (r5 < 0)) then (some (.inr (.inr false))) else ((slices_Contains.f k s.2.1 y2.2.2.2).bind fun r6 => bif r6 then (some (.inr (.inr false))) else ((app? (limOf 8) s.2.1 ([y2.2.2.2])).bind fun l7 => some (.inl (s.1, l7, r3.1, s.2.2.2.1, s.2.2.2.2.1, IntKind.wrap .i64 (s.2.2.2.2.2.1 + 1), s.2.2.2.2.2.2))))) else (some (.inl (s.1, s.2.1, r3.1, s.2.2.2.1, s.2.2.2.2.1, IntKind.wrap .i64 (s.2.2.2.2.2.1 + 1), s.2.2.2.2.2.2)))))) else (some (.inr (.inl (s.1, s.2.1, s.2.2.2.2.2.2))))

def impl_Disk_linksOk.d1 (k : Nat) (y : Bool × List Int × Int × Int × List (Int × ByteArray × Int) × List (ByteArray × Int) × List (Int × ByteArray × ByteArray × Int)) : Option Bool :=
  some (decide ((y.2.1.length : Int) = (y.2.2.2.2.1.length : Int)))

def impl_Disk_linksOk.d0 (k : Nat) (y : Bool × List Int × Int × Int × List (Int × ByteArray × Int) × List (ByteArray × Int) × List (Int × ByteArray × ByteArray × Int)) : Option Bool :=
  (impl_copyLinks.f k y.2.2.2.2.2.1).bind fun r1 => (iter (X := (Bool × List Int × Int × Int × List (Int × ByteArray × Int) × List (ByteArray × Int) × List (Int × ByteArray × ByteArray × Int)) ⊕ Bool) (impl_Disk_linksOk.b1 k) k (y.1, y.2.1, r1, y.2.2.2.2.2.2, (y.2.2.2.2.2.2.length : Int), 0, y.2.2)).bind fun r => match r with | .inl y => impl_Disk_linksOk.d1 k y | .inr o => some o

def impl_Disk_linksOk.f (k : Nat) (a0 : Int × Int × List (Int × ByteArray × Int) × List (ByteArray × Int) × List (Int × ByteArray × ByteArray × Int)) : Option Bool :=
  (iter (X := (Bool × List Int × Int × Int × List (Int × ByteArray × Int) × List (ByteArray × Int) × List (Int × ByteArray × ByteArray × Int)) ⊕ Bool) (impl_Disk_linksOk.b0 k) k (false, [], a0.2.2.2.1, (a0.2.2.2.1.length : Int), 0, a0)).bind fun r => match r with | .inl y => impl_Disk_linksOk.d0 k y | .inr o => some o

def impl_Disk_linksOk.sig : Sig := ⟨[.val true (.pair (.int .i64) (.pair (.int .i64) (.pair (.sl 79 (.pair (.int .i64) (.pair .str (.int .i64)))) (.pair (.sl 82 (.pair .str (.int .i64))) (.sl 84 (.pair (.int .i64) (.pair .str (.pair .str (.int .i64)))))))))], [⟨false, .bool, true⟩]⟩
def impl_Disk_linksOk.fn : Fn := ⟨impl_Disk_linksOk.sig, fun k (x : Int × Int × List (Int × ByteArray × Int) × List (ByteArray × Int) × List (Int × ByteArray × ByteArray × Int)) => impl_Disk_linksOk.f k x⟩
noncomputable def impl_Disk_linksOk.env (k : Nat) : Env := ⟨Tryz.prog, 110, fun t => bif Nat.beq t 3 then some (.int .i64) else none, look [(80, impl_isName.fn), (81, impl_Disk_at.fn), (82, slices_Contains.fn), (62, impl_copyLinks.fn), (83, impl_apply.fn)], k, impl_Disk_linksOk.sig.pin⟩
def impl_Disk_linksOk.ann : Ann := .seq .leaf (.seq .leaf (.seq (.seq .leaf (.loop [.ptr 1 1000, .slot 2 false .bool false, .slot 3 false (.sl 3 (.int .i64)) true, .slot 13 false (.sl 82 (.pair .str (.int .i64))) false, .slot 14 false (.int .i64) false, .slot 15 false (.int .i64) false, .box 1000 34 (.pair (.int .i64) (.pair (.int .i64) (.pair (.sl 79 (.pair (.int .i64) (.pair .str (.int .i64)))) (.pair (.sl 82 (.pair .str (.int .i64))) (.sl 84 (.pair (.int .i64) (.pair .str (.pair .str (.int .i64))))))))) false false] [.ptr 1 1000, .slot 2 false .bool false, .slot 3 false (.sl 3 (.int .i64)) true, .box 1000 34 (.pair (.int .i64) (.pair (.int .i64) (.pair (.sl 79 (.pair (.int .i64) (.pair .str (.int .i64)))) (.pair (.sl 82 (.pair .str (.int .i64))) (.sl 84 (.pair (.int .i64) (.pair .str (.pair .str (.int .i64))))))))) false false] (.seq .leaf (.seq (.cond .leaf .leaf) (.seq (.blk (.seq .leaf (.seq (.cut [.ptr 1 1000, .slot 2 false .bool false, .slot 3 false (.sl 3 (.int .i64)) true, .ptr 5 5003, .slot 13 false (.sl 82 (.pair .str (.int .i64))) false, .slot 14 false (.int .i64) false, .slot 15 false (.int .i64) false, .box 1000 34 (.pair (.int .i64) (.pair (.int .i64) (.pair (.sl 79 (.pair (.int .i64) (.pair .str (.int .i64)))) (.pair (.sl 82 (.pair .str (.int .i64))) (.sl 84 (.pair (.int .i64) (.pair .str (.pair .str (.int .i64))))))))) false false, .box 5003 82 (.pair .str (.int .i64)) false false] (.seq .leaf (.cond (.seq .leaf .leaf) .leaf))) .leaf))) .leaf))))) (.seq .leaf (.seq (.seq .leaf (.loop [.ptr 1 1000, .slot 2 false .bool false, .slot 3 false (.sl 3 (.int .i64)) true, .slot 6 false (.sl 82 (.pair .str (.int .i64))) true, .slot 63 false (.sl 84 (.pair (.int .i64) (.pair .str (.pair .str (.int .i64))))) false, .slot 64 false (.int .i64) false, .slot 65 false (.int .i64) false, .box 1000 34 (.pair (.int .i64) (.pair (.int .i64) (.pair (.sl 79 (.pair (.int .i64) (.pair .str (.int .i64)))) (.pair (.sl 82 (.pair .str (.int .i64))) (.sl 84 (.pair (.int .i64) (.pair .str (.pair .str (.int .i64))))))))) false false] [.ptr 1 1000, .slot 2 false .bool false, .slot 3 false (.sl 3 (.int .i64)) true, .box 1000 34 (.pair (.int .i64) (.pair (.int .i64) (.pair (.sl 79 (.pair (.int .i64) (.pair .str (.int .i64)))) (.pair (.sl 82 (.pair .str (.int .i64))) (.sl 84 (.pair (.int .i64) (.pair .str (.pair .str (.int .i64))))))))) false false] (.seq .leaf (.seq (.cond .leaf .leaf) (.seq (.blk (.seq .leaf (.seq .leaf (.seq (.seq .leaf (.cond (.seq .leaf .leaf) .leaf)) (.seq (.seq .leaf (.cond (.seq (.seq .leaf (.cond (.seq .leaf .leaf) .leaf)) .leaf) .leaf)) .leaf))))) .leaf))))) (.seq .leaf .leaf)))))
theorem impl_Disk_linksOk.ok (k : Nat) : FnOk Tryz.prog k 61 impl_Disk_linksOk.fn :=
  fnOk_of (E := impl_Disk_linksOk.env k) (ann := impl_Disk_linksOk.ann) (look_cons (impl_isName.ok k) (look_cons (impl_Disk_at.ok k) (look_cons (slices_Contains.ok k) (look_cons (impl_copyLinks.ok k) (look_cons (impl_apply.ok k) (look_nil)))))) (by kernel_rfl) Tryz.func61 (by kernel_rfl) (by kernel_rfl) (by kernel_rfl) (of_decide_eq_true (by kernel_rfl)) (of_decide_eq_true (by kernel_rfl)) (fun _ h => h) (fun x => by kernel_rfl)

/-! loop.example/g00358/impl.DiskOk -/
def impl_DiskOk.b0 (k : Nat) (s : Bool × List (Int × ByteArray × Int) × Int × Int × Int × Int × List (Int × ByteArray × Int) × List (ByteArray × Int) × List (Int × ByteArray × ByteArray × Int)) : Option ((Bool × List (Int × ByteArray × Int) × Int × Int × Int × Int × List (Int × ByteArray × Int) × List (ByteArray × Int) × List (Int × ByteArray × ByteArray × Int)) ⊕ (Bool × Int × Int × List (Int × ByteArray × Int) × List (ByteArray × Int) × List (Int × ByteArray × ByteArray × Int)) ⊕ Bool) :=
  bif (decide (s.2.2.2.1 < s.2.2.1)) then ((inb? s.2.1.length s.2.2.2.1).bind fun j1 => (s.2.1[j1]?).bind fun y2 => (impl_within.f k y2.1 1 (IntKind.wrap .i64 (s.2.2.2.2.2.1 - 1))).bind fun r3 => bif (!r3) then (some (.inr (.inr false))) else (bif (decide (0 < s.2.2.2.1)) then ((inb? s.2.2.2.2.2.2.1.length (IntKind.wrap .i64 (s.2.2.2.1 - 1))).bind fun j4 => (s.2.2.2.2.2.2.1[j4]?).bind fun y5 => bif (decide (y2.1 ≤ y5.1)) then (some (.inr (.inr false))) else ((impl_within.f k y2.2.2 0 (y2.2.1.size : Int)).bind fun r6 => bif (!r6) then (some (.inr (.inr false))) else (some (.inl (s.1, s.2.1, s.2.2.1, IntKind.wrap .i64 (s.2.2.2.1 + 1), s.2.2.2.2))))) else ((impl_within.f k y2.2.2 0 (y2.2.1.size : Int)).bind fun r7 => bif (!r7) then (some (.inr (.inr false))) else (some (.inl (s.1, s.2.1, s.2.2.1, IntKind.wrap .i64 (s.2.2.2.1 + 1), s.2.2.2.2)))))) else (some (.inr (.inl (s.1, s.2.2.2.2))))

def impl_DiskOk.d0 (k : Nat) (y : Bool × Int × Int × List (Int × ByteArray × Int) × List (ByteArray × Int) × List (Int × ByteArray × ByteArray × Int)) : Option Bool :=
  (impl_Disk_linksOk.f k y.2).bind fun r1 => some r1

def impl_DiskOk.f (k : Nat) (a0 : Int × Int × List (Int × ByteArray × Int) × List (ByteArray × Int) × List (Int × ByteArray × ByteArray × Int)) : Option Bool :=
  (impl_within.f k a0.1 0 1048576).bind fun r1 => bif (!r1) then (some false) else ((impl_within.f k a0.2.1 1 1000000).bind fun r2 => bif (!r2) then (some false) else (bif (decide (10 < (a0.2.2.1.length : Int))) then (some false) else ((impl_Disk_size.f k a0).bind fun r3 => bif (decide (a0.1 < r3)) then (some false) else (bif (decide (20 < (a0.2.2.2.2.length : Int))) then (some false) else ((iter (X := (Bool × Int × Int × List (Int × ByteArray × Int) × List (ByteArray × Int) × List (Int × ByteArray × ByteArray × Int)) ⊕ Bool) (impl_DiskOk.b0 k) k (false, a0.2.2.1, (a0.2.2.1.length : Int), 0, a0)).bind fun r => match r with | .inl y => impl_DiskOk.d0 k y | .inr o => some o)))))

def impl_DiskOk.sig : Sig := ⟨[.val true (.pair (.int .i64) (.pair (.int .i64) (.pair (.sl 79 (.pair (.int .i64) (.pair .str (.int .i64)))) (.pair (.sl 82 (.pair .str (.int .i64))) (.sl 84 (.pair (.int .i64) (.pair .str (.pair .str (.int .i64)))))))))], [⟨false, .bool, true⟩]⟩
def impl_DiskOk.fn : Fn := ⟨impl_DiskOk.sig, fun k (x : Int × Int × List (Int × ByteArray × Int) × List (ByteArray × Int) × List (Int × ByteArray × ByteArray × Int)) => impl_DiskOk.f k x⟩
noncomputable def impl_DiskOk.env (k : Nat) : Env := ⟨Tryz.prog, 77, fun t => none, look [(59, impl_within.fn), (60, impl_Disk_size.fn), (61, impl_Disk_linksOk.fn)], k, impl_DiskOk.sig.pin⟩
def impl_DiskOk.ann : Ann := .seq .leaf (.seq (.seq .leaf (.cond (.seq .leaf .leaf) .leaf)) (.seq (.seq .leaf (.loop [.ptr 1 1000, .slot 2 false .bool false, .slot 35 false (.sl 79 (.pair (.int .i64) (.pair .str (.int .i64)))) false, .slot 36 false (.int .i64) false, .slot 37 false (.int .i64) false, .box 1000 34 (.pair (.int .i64) (.pair (.int .i64) (.pair (.sl 79 (.pair (.int .i64) (.pair .str (.int .i64)))) (.pair (.sl 82 (.pair .str (.int .i64))) (.sl 84 (.pair (.int .i64) (.pair .str (.pair .str (.int .i64))))))))) false false] [.ptr 1 1000, .slot 2 false .bool false, .box 1000 34 (.pair (.int .i64) (.pair (.int .i64) (.pair (.sl 79 (.pair (.int .i64) (.pair .str (.int .i64)))) (.pair (.sl 82 (.pair .str (.int .i64))) (.sl 84 (.pair (.int .i64) (.pair .str (.pair .str (.int .i64))))))))) false false] (.seq .leaf (.seq (.cond .leaf .leaf) (.seq (.blk (.seq .leaf (.seq .leaf (.cond (.seq .leaf .leaf) .leaf)))) .leaf))))) (.seq .leaf .leaf)))
theorem impl_DiskOk.ok (k : Nat) : FnOk Tryz.prog k 26 impl_DiskOk.fn :=
  fnOk_of (E := impl_DiskOk.env k) (ann := impl_DiskOk.ann) (look_cons (impl_within.ok k) (look_cons (impl_Disk_size.ok k) (look_cons (impl_Disk_linksOk.ok k) (look_nil)))) (by kernel_rfl) Tryz.func26 (by kernel_rfl) (by kernel_rfl) (by kernel_rfl) (of_decide_eq_true (by kernel_rfl)) (of_decide_eq_true (by kernel_rfl)) (fun _ h => h) (fun x => by kernel_rfl)

/-! loop.example/g00358/impl.copyDisk -/
def impl_copyDisk.f (k : Nat) (a0 : Int × Int × List (Int × ByteArray × Int) × List (ByteArray × Int) × List (Int × ByteArray × ByteArray × Int)) : Option (Int × Int × List (Int × ByteArray × Int) × List (ByteArray × Int) × List (Int × ByteArray × ByteArray × Int)) :=
  (app? (limOf 32) [] a0.2.2.1).bind fun l1 => (impl_copyLinks.f k a0.2.2.2.1).bind fun r2 => (app? (limOf 48) [] a0.2.2.2.2).bind fun l3 => some (a0.1, a0.2.1, l1, r2, l3)

def impl_copyDisk.sig : Sig := ⟨[.val true (.pair (.int .i64) (.pair (.int .i64) (.pair (.sl 79 (.pair (.int .i64) (.pair .str (.int .i64)))) (.pair (.sl 82 (.pair .str (.int .i64))) (.sl 84 (.pair (.int .i64) (.pair .str (.pair .str (.int .i64)))))))))], [⟨true, (.pair (.int .i64) (.pair (.int .i64) (.pair (.sl 79 (.pair (.int .i64) (.pair .str (.int .i64)))) (.pair (.sl 82 (.pair .str (.int .i64))) (.sl 84 (.pair (.int .i64) (.pair .str (.pair .str (.int .i64))))))))), true⟩]⟩
def impl_copyDisk.fn : Fn := ⟨impl_copyDisk.sig, fun k (x : Int × Int × List (Int × ByteArray × Int) × List (ByteArray × Int) × List (Int × ByteArray × ByteArray × Int)) => impl_copyDisk.f k x⟩
noncomputable def impl_copyDisk.env (k : Nat) : Env := ⟨Tryz.prog, 17, fun t => bif Nat.beq t 79 then some (.pair (.int .i64) (.pair .str (.int .i64))) else bif Nat.beq t 84 then some (.pair (.int .i64) (.pair .str (.pair .str (.int .i64)))) else none, look [(62, impl_copyLinks.fn)], k, impl_copyDisk.sig.pin⟩
def impl_copyDisk.ann : Ann := .seq .leaf (.seq .leaf .leaf)
theorem impl_copyDisk.ok (k : Nat) : FnOk Tryz.prog k 27 impl_copyDisk.fn :=
  fnOk_of (E := impl_copyDisk.env k) (ann := impl_copyDisk.ann) (look_cons (impl_copyLinks.ok k) (look_nil)) (by kernel_rfl) Tryz.func27 (by kernel_rfl) (by kernel_rfl) (by kernel_rfl) (of_decide_eq_true (by kernel_rfl)) (of_decide_eq_true (by kernel_rfl)) (fun _ h => h) (fun x => by kernel_rfl)

/-! (loop.example/g00358/impl.Disk).names -/
def impl_Disk_names.b0 (k : Nat) (s : List (ByteArray × Int) × List (ByteArray × Int) × List (Int × ByteArray × ByteArray × Int) × Int × Int) : Option ((List (ByteArray × Int) × List (ByteArray × Int) × List (Int × ByteArray × ByteArray × Int) × Int × Int) ⊕ (List (ByteArray × Int) × List (ByteArray × Int)) ⊕ (List (ByteArray × Int))) :=
  bif (decide (s.2.2.2.2 < s.2.2.2.1)) then ((inb? s.2.2.1.length s.2.2.2.2).bind fun j1 => (s.2.2.1[j1]?).bind fun y2 => (impl_apply.f k s.2.1 y2).bind fun r3 => some (.inl (s.1, r3.1, s.2.2.1, s.2.2.2.1, IntKind.wrap .i64 (s.2.2.2.2 + 1)))) else (some (.inr (.inl (s.1, s.2.1))))

def impl_Disk_names.d0 (k : Nat) (y : List (ByteArray × Int) × List (ByteArray × Int)) : Option (List (ByteArray × Int)) :=
  some y.2

def impl_Disk_names.f (k : Nat) (a0 : Int × Int × List (Int × ByteArray × Int) × List (ByteArray × Int) × List (Int × ByteArray × ByteArray × Int)) (a1 : Int) : Option (List (ByteArray × Int)) :=
  (impl_copyLinks.f k a0.2.2.2.1).bind fun r1 => (cut? a0.2.2.2.2.length 0 a1).bind fun p2 => (iter (X := (List (ByteArray × Int) × List (ByteArray × Int)) ⊕ (List (ByteArray × Int))) (impl_Disk_names.b0 k) k ([], r1, (a0.2.2.2.2.take p2.2).drop p2.1, (((a0.2.2.2.2.take p2.2).drop p2.1).length : Int), 0)).bind fun r => match r with | .inl y => impl_Disk_names.d0 k y | .inr o => some o

def impl_Disk_names.sig : Sig := ⟨[.val true (.pair (.int .i64) (.pair (.int .i64) (.pair (.sl 79 (.pair (.int .i64) (.pair .str (.int .i64)))) (.pair (.sl 82 (.pair .str (.int .i64))) (.sl 84 (.pair (.int .i64) (.pair .str (.pair .str (.int .i64))))))))), .val false (.int .i64)], [⟨false, (.sl 82 (.pair .str (.int .i64))), true⟩]⟩
def impl_Disk_names.fn : Fn := ⟨impl_Disk_names.sig, fun k (x : (Int × Int × List (Int × ByteArray × Int) × List (ByteArray × Int) × List (Int × ByteArray × ByteArray × Int)) × Int) => impl_Disk_names.f k x.1 x.2⟩
noncomputable def impl_Disk_names.env (k : Nat) : Env := ⟨Tryz.prog, 28, fun t => none, look [(62, impl_copyLinks.fn), (83, impl_apply.fn)], k, impl_Disk_names.sig.pin⟩
def impl_Disk_names.ann : Ann := .seq .leaf (.seq .leaf (.seq (.seq .leaf (.loop [.slot 4 false (.sl 82 (.pair .str (.int .i64))) true, .slot 5 false (.sl 82 (.pair .str (.int .i64))) true, .slot 14 false (.sl 84 (.pair (.int .i64) (.pair .str (.pair .str (.int .i64))))) false, .slot 15 false (.int .i64) false, .slot 16 false (.int .i64) false] [.slot 4 false (.sl 82 (.pair .str (.int .i64))) true, .slot 5 false (.sl 82 (.pair .str (.int .i64))) true] (.seq .leaf (.seq (.cond .leaf .leaf) (.seq (.blk (.seq .leaf .leaf)) .leaf))))) (.seq .leaf .leaf)))
theorem impl_Disk_names.ok (k : Nat) : FnOk Tryz.prog k 96 impl_Disk_names.fn :=
  fnOk_of (E := impl_Disk_names.env k) (ann := impl_Disk_names.ann) (look_cons (impl_copyLinks.ok k) (look_cons (impl_apply.ok k) (look_nil))) (by kernel_rfl) Tryz.func96 (by kernel_rfl) (by kernel_rfl) (by kernel_rfl) (of_decide_eq_true (by kernel_rfl)) (of_decide_eq_true (by kernel_rfl)) (fun _ h => h) (fun x => by kernel_rfl)

/-! (loop.example/g00358/impl.Disk).now -/
def impl_Disk_now.f (k : Nat) (a0 : Int × Int × List (Int × ByteArray × Int) × List (ByteArray × Int) × List (Int × ByteArray × ByteArray × Int)) : Option (List (ByteArray × Int)) :=
  (impl_Disk_names.f k a0 (a0.2.2.2.2.length : Int)).bind fun r1 => some r1

def impl_Disk_now.sig : Sig := ⟨[.val true (.pair (.int .i64) (.pair (.int .i64) (.pair (.sl 79 (.pair (.int .i64) (.pair .str (.int .i64)))) (.pair (.sl 82 (.pair .str (.int .i64))) (.sl 84 (.pair (.int .i64) (.pair .str (.pair .str (.int .i64)))))))))], [⟨false, (.sl 82 (.pair .str (.int .i64))), true⟩]⟩
def impl_Disk_now.fn : Fn := ⟨impl_Disk_now.sig, fun k (x : Int × Int × List (Int × ByteArray × Int) × List (ByteArray × Int) × List (Int × ByteArray × ByteArray × Int)) => impl_Disk_now.f k x⟩
noncomputable def impl_Disk_now.env (k : Nat) : Env := ⟨Tryz.prog, 8, fun t => none, look [(96, impl_Disk_names.fn)], k, impl_Disk_now.sig.pin⟩
def impl_Disk_now.ann : Ann := .seq .leaf (.seq .leaf .leaf)
theorem impl_Disk_now.ok (k : Nat) : FnOk Tryz.prog k 86 impl_Disk_now.fn :=
  fnOk_of (E := impl_Disk_now.env k) (ann := impl_Disk_now.ann) (look_cons (impl_Disk_names.ok k) (look_nil)) (by kernel_rfl) Tryz.func86 (by kernel_rfl) (by kernel_rfl) (by kernel_rfl) (of_decide_eq_true (by kernel_rfl)) (of_decide_eq_true (by kernel_rfl)) (fun _ h => h) (fun x => by kernel_rfl)

/-! (loop.example/g00358/impl.Disk).file -/
def impl_Disk_file.f (k : Nat) (a0 : Int × Int × List (Int × ByteArray × Int) × List (ByteArray × Int) × List (Int × ByteArray × ByteArray × Int)) (a1 : ByteArray) : Option Int :=
  (impl_Disk_now.f k a0).bind fun r1 => (impl_linkAt.f k r1 a1).bind fun r2 => bif (decide (r2 < 0)) then (some (-1)) else ((inb? r1.length r2).bind fun j3 => (r1[j3]?).bind fun y4 => (impl_Disk_at.f k a0 y4.2).bind fun r5 => some r5)

def impl_Disk_file.sig : Sig := ⟨[.val true (.pair (.int .i64) (.pair (.int .i64) (.pair (.sl 79 (.pair (.int .i64) (.pair .str (.int .i64)))) (.pair (.sl 82 (.pair .str (.int .i64))) (.sl 84 (.pair (.int .i64) (.pair .str (.pair .str (.int .i64))))))))), .val false .str], [⟨false, (.int .i64), true⟩]⟩
def impl_Disk_file.fn : Fn := ⟨impl_Disk_file.sig, fun k (x : (Int × Int × List (Int × ByteArray × Int) × List (ByteArray × Int) × List (Int × ByteArray × ByteArray × Int)) × ByteArray) => impl_Disk_file.f k x.1 x.2⟩
noncomputable def impl_Disk_file.env (k : Nat) : Env := ⟨Tryz.prog, 21, fun t => none, look [(86, impl_Disk_now.fn), (91, impl_linkAt.fn), (81, impl_Disk_at.fn)], k, impl_Disk_file.sig.pin⟩
def impl_Disk_file.ann : Ann := .seq .leaf (.seq .leaf (.seq .leaf (.seq (.seq .leaf (.cond (.seq .leaf .leaf) .leaf)) (.seq .leaf .leaf))))
theorem impl_Disk_file.ok (k : Nat) : FnOk Tryz.prog k 84 impl_Disk_file.fn :=
  fnOk_of (E := impl_Disk_file.env k) (ann := impl_Disk_file.ann) (look_cons (impl_Disk_now.ok k) (look_cons (impl_linkAt.ok k) (look_cons (impl_Disk_at.ok k) (look_nil)))) (by kernel_rfl) Tryz.func84 (by kernel_rfl) (by kernel_rfl) (by kernel_rfl) (of_decide_eq_true (by kernel_rfl)) (of_decide_eq_true (by kernel_rfl)) (fun _ h => h) (fun x => by kernel_rfl)

/-! loop.example/g00358/impl.Make -/
def impl_Make.f (k : Nat) (a0 : Int × Int × List (Int × ByteArray × Int) × List (ByteArray × Int) × List (Int × ByteArray × ByteArray × Int)) (a1 : ByteArray) : Option ((Int × Int × List (Int × ByteArray × Int) × List (ByteArray × Int) × List (Int × ByteArray × ByteArray × Int)) × Int) :=
  (impl_DiskOk.f k a0).bind fun r1 => bif (!r1) then (some ((0, 0, [], [], []), 1)) else ((impl_copyDisk.f k a0).bind fun r2 => (impl_isName.f k a1).bind fun r3 => bif (!r3) then (some (r2, 1)) else ((impl_Disk_file.f k a0 a1).bind fun r4 => bif (decide (0 ≤ r4)) then (some (r2, 3)) else (bif (decide ((a0.2.2.1.length : Int) = 10)) then (some (r2, 4)) else (bif (decide ((a0.2.2.2.2.length : Int) = 20)) then (some (r2, 4)) else (bif (decide (a0.2.1 = 1000000)) then (some (r2, 4)) else ((app? (limOf 32) r2.2.2.1 ([(a0.2.1, (⟨#[]⟩ : ByteArray), 0)])).bind fun l5 => (app? (limOf 48) r2.2.2.2.2 ([(1, a1, (⟨#[]⟩ : ByteArray), a0.2.1)])).bind fun l6 => some ((r2.1, IntKind.wrap .i64 (r2.2.1 + 1), l5, r2.2.2.2.1, l6), 0)))))))

def impl_Make.sig : Sig := ⟨[.val true (.pair (.int .i64) (.pair (.int .i64) (.pair (.sl 79 (.pair (.int .i64) (.pair .str (.int .i64)))) (.pair (.sl 82 (.pair .str (.int .i64))) (.sl 84 (.pair (.int .i64) (.pair .str (.pair .str (.int .i64))))))))), .val false .str], [⟨true, (.pair (.int .i64) (.pair (.int .i64) (.pair (.sl 79 (.pair (.int .i64) (.pair .str (.int .i64)))) (.pair (.sl 82 (.pair .str (.int .i64))) (.sl 84 (.pair (.int .i64) (.pair .str (.pair .str (.int .i64))))))))), true⟩, ⟨false, (.int .i64), true⟩]⟩
def impl_Make.fn : Fn := ⟨impl_Make.sig, fun k (x : (Int × Int × List (Int × ByteArray × Int) × List (ByteArray × Int) × List (Int × ByteArray × ByteArray × Int)) × ByteArray) => impl_Make.f k x.1 x.2⟩
noncomputable def impl_Make.env (k : Nat) : Env := ⟨Tryz.prog, 63, fun t => bif Nat.beq t 79 then some (.pair (.int .i64) (.pair .str (.int .i64))) else bif Nat.beq t 84 then some (.pair (.int .i64) (.pair .str (.pair .str (.int .i64)))) else none, look [(26, impl_DiskOk.fn), (27, impl_copyDisk.fn), (80, impl_isName.fn), (84, impl_Disk_file.fn)], k, impl_Make.sig.pin⟩
def impl_Make.ann : Ann := .seq .leaf (.seq (.seq .leaf (.cond (.seq .leaf .leaf) .leaf)) (.seq .leaf (.seq (.blk (.seq .leaf (.cond (.seq .leaf .leaf) (.seq .leaf (.cond (.seq .leaf .leaf) (.seq .leaf (.cond (.seq .leaf .leaf) .leaf))))))) (.seq .leaf (.seq .leaf (.seq .leaf (.seq .leaf .leaf)))))))
theorem impl_Make.ok (k : Nat) : FnOk Tryz.prog k 63 impl_Make.fn :=
  fnOk_of (E := impl_Make.env k) (ann := impl_Make.ann) (look_cons (impl_DiskOk.ok k) (look_cons (impl_copyDisk.ok k) (look_cons (impl_isName.ok k) (look_cons (impl_Disk_file.ok k) (look_nil))))) (by kernel_rfl) Tryz.func63 (by kernel_rfl) (by kernel_rfl) (by kernel_rfl) (of_decide_eq_true (by kernel_rfl)) (of_decide_eq_true (by kernel_rfl)) (fun _ h => h) (fun x => by kernel_rfl)

/-! loop.example/g00358/impl.Add -/
def impl_Add.f (k : Nat) (a0 : Int × Int × List (Int × ByteArray × Int) × List (ByteArray × Int) × List (Int × ByteArray × ByteArray × Int)) (a1 : ByteArray) (a2 : ByteArray) : Option ((Int × Int × List (Int × ByteArray × Int) × List (ByteArray × Int) × List (Int × ByteArray × ByteArray × Int)) × Int) :=
  (impl_DiskOk.f k a0).bind fun r1 => bif (!r1) then (some ((0, 0, [], [], []), 1)) else ((impl_copyDisk.f k a0).bind fun r2 => (impl_Disk_file.f k a0 a1).bind fun r3 => (impl_isName.f k a1).bind fun r4 => bif (!r4) then (some (r2, 1)) else (bif (decide (r3 < 0)) then (some (r2, 2)) else ((impl_Disk_size.f k a0).bind fun r5 => bif (decide (a0.1 < IntKind.wrap .i64 (r5 + (a2.size : Int)))) then (some (r2, 4)) else ((inb? a0.2.2.1.length r3).bind fun j6 => (a0.2.2.1[j6]?).bind fun y7 => (cat? y7.2.1 a2).bind fun s8 => (inb? r2.2.2.1.length r3).bind fun j9 => (r2.2.2.1[j9]?).bind fun y10 => some ((r2.1, r2.2.1, r2.2.2.1.set j9 (y10.1, s8, y10.2.2), r2.2.2.2), 0)))))

def impl_Add.sig : Sig := ⟨[.val true (.pair (.int .i64) (.pair (.int .i64) (.pair (.sl 79 (.pair (.int .i64) (.pair .str (.int .i64)))) (.pair (.sl 82 (.pair .str (.int .i64))) (.sl 84 (.pair (.int .i64) (.pair .str (.pair .str (.int .i64))))))))), .val false .str, .val false .str], [⟨true, (.pair (.int .i64) (.pair (.int .i64) (.pair (.sl 79 (.pair (.int .i64) (.pair .str (.int .i64)))) (.pair (.sl 82 (.pair .str (.int .i64))) (.sl 84 (.pair (.int .i64) (.pair .str (.pair .str (.int .i64))))))))), true⟩, ⟨false, (.int .i64), true⟩]⟩
def impl_Add.fn : Fn := ⟨impl_Add.sig, fun k (x : (Int × Int × List (Int × ByteArray × Int) × List (ByteArray × Int) × List (Int × ByteArray × ByteArray × Int)) × ByteArray × ByteArray) => impl_Add.f k x.1 x.2.1 x.2.2⟩
noncomputable def impl_Add.env (k : Nat) : Env := ⟨Tryz.prog, 52, fun t => none, look [(26, impl_DiskOk.fn), (27, impl_copyDisk.fn), (84, impl_Disk_file.fn), (80, impl_isName.fn), (60, impl_Disk_size.fn)], k, impl_Add.sig.pin⟩
def impl_Add.ann : Ann := .seq .leaf (.seq (.seq .leaf (.cond (.seq .leaf .leaf) .leaf)) (.seq .leaf (.seq .leaf (.seq (.blk (.seq .leaf (.cond (.seq .leaf .leaf) (.seq .leaf (.cond (.seq .leaf .leaf) (.seq .leaf (.cond (.seq .leaf .leaf) .leaf))))))) (.seq .leaf (.seq .leaf .leaf))))))
theorem impl_Add.ok (k : Nat) : FnOk Tryz.prog k 64 impl_Add.fn :=
  fnOk_of (E := impl_Add.env k) (ann := impl_Add.ann) (look_cons (impl_DiskOk.ok k) (look_cons (impl_copyDisk.ok k) (look_cons (impl_Disk_file.ok k) (look_cons (impl_isName.ok k) (look_cons (impl_Disk_size.ok k) (look_nil)))))) (by kernel_rfl) Tryz.func64 (by kernel_rfl) (by kernel_rfl) (by kernel_rfl) (of_decide_eq_true (by kernel_rfl)) (of_decide_eq_true (by kernel_rfl)) (fun _ h => h) (fun x => by kernel_rfl)

/-! loop.example/g00358/impl.Sync -/
def impl_Sync.f (k : Nat) (a0 : Int × Int × List (Int × ByteArray × Int) × List (ByteArray × Int) × List (Int × ByteArray × ByteArray × Int)) (a1 : ByteArray) : Option ((Int × Int × List (Int × ByteArray × Int) × List (ByteArray × Int) × List (Int × ByteArray × ByteArray × Int)) × Int) :=
  (impl_DiskOk.f k a0).bind fun r1 => bif (!r1) then (some ((0, 0, [], [], []), 1)) else ((impl_copyDisk.f k a0).bind fun r2 => (impl_Disk_file.f k a0 a1).bind fun r3 => (impl_isName.f k a1).bind fun r4 => bif (!r4) then (some (r2, 1)) else (bif (decide (r3 < 0)) then (some (r2, 2)) else ((inb? a0.2.2.1.length r3).bind fun j5 => (a0.2.2.1[j5]?).bind fun y6 => (inb? r2.2.2.1.length r3).bind fun j7 => (r2.2.2.1[j7]?).bind fun y8 => some ((r2.1, r2.2.1, r2.2.2.1.set j7 (y8.1, y8.2.1, (y6.2.1.size : Int)), r2.2.2.2), 0))))

def impl_Sync.sig : Sig := ⟨[.val true (.pair (.int .i64) (.pair (.int .i64) (.pair (.sl 79 (.pair (.int .i64) (.pair .str (.int .i64)))) (.pair (.sl 82 (.pair .str (.int .i64))) (.sl 84 (.pair (.int .i64) (.pair .str (.pair .str (.int .i64))))))))), .val false .str], [⟨true, (.pair (.int .i64) (.pair (.int .i64) (.pair (.sl 79 (.pair (.int .i64) (.pair .str (.int .i64)))) (.pair (.sl 82 (.pair .str (.int .i64))) (.sl 84 (.pair (.int .i64) (.pair .str (.pair .str (.int .i64))))))))), true⟩, ⟨false, (.int .i64), true⟩]⟩
def impl_Sync.fn : Fn := ⟨impl_Sync.sig, fun k (x : (Int × Int × List (Int × ByteArray × Int) × List (ByteArray × Int) × List (Int × ByteArray × ByteArray × Int)) × ByteArray) => impl_Sync.f k x.1 x.2⟩
noncomputable def impl_Sync.env (k : Nat) : Env := ⟨Tryz.prog, 39, fun t => none, look [(26, impl_DiskOk.fn), (27, impl_copyDisk.fn), (84, impl_Disk_file.fn), (80, impl_isName.fn)], k, impl_Sync.sig.pin⟩
def impl_Sync.ann : Ann := .seq .leaf (.seq (.seq .leaf (.cond (.seq .leaf .leaf) .leaf)) (.seq .leaf (.seq .leaf (.seq (.blk (.seq .leaf (.cond (.seq .leaf .leaf) (.seq .leaf (.cond (.seq .leaf .leaf) .leaf))))) (.seq .leaf (.seq .leaf .leaf))))))
theorem impl_Sync.ok (k : Nat) : FnOk Tryz.prog k 65 impl_Sync.fn :=
  fnOk_of (E := impl_Sync.env k) (ann := impl_Sync.ann) (look_cons (impl_DiskOk.ok k) (look_cons (impl_copyDisk.ok k) (look_cons (impl_Disk_file.ok k) (look_cons (impl_isName.ok k) (look_nil))))) (by kernel_rfl) Tryz.func65 (by kernel_rfl) (by kernel_rfl) (by kernel_rfl) (of_decide_eq_true (by kernel_rfl)) (of_decide_eq_true (by kernel_rfl)) (fun _ h => h) (fun x => by kernel_rfl)

/-! loop.example/g00358/impl.moved -/
def impl_moved.f (k : Nat) (a0 : Int × Int × List (Int × ByteArray × Int) × List (ByteArray × Int) × List (Int × ByteArray × ByteArray × Int)) (a1 : Int × ByteArray × ByteArray × Int) (a2 : Bool) : Option ((Int × Int × List (Int × ByteArray × Int) × List (ByteArray × Int) × List (Int × ByteArray × ByteArray × Int)) × Int) :=
  (impl_DiskOk.f k a0).bind fun r1 => bif (!r1) then (some ((0, 0, [], [], []), 1)) else ((impl_copyDisk.f k a0).bind fun r2 => bif (!a2) then (some (r2, 1)) else ((impl_Disk_file.f k a0 a1.2.1).bind fun r3 => bif (decide (r3 < 0)) then (some (r2, 2)) else (bif (decide ((a0.2.2.2.2.length : Int) = 20)) then (some (r2, 4)) else ((app? (limOf 48) r2.2.2.2.2 ([a1])).bind fun l4 => some ((r2.1, r2.2.1, r2.2.2.1, r2.2.2.2.1, l4), 0)))))

def impl_moved.sig : Sig := ⟨[.val true (.pair (.int .i64) (.pair (.int .i64) (.pair (.sl 79 (.pair (.int .i64) (.pair .str (.int .i64)))) (.pair (.sl 82 (.pair .str (.int .i64))) (.sl 84 (.pair (.int .i64) (.pair .str (.pair .str (.int .i64))))))))), .val true (.pair (.int .i64) (.pair .str (.pair .str (.int .i64)))), .val false .bool], [⟨true, (.pair (.int .i64) (.pair (.int .i64) (.pair (.sl 79 (.pair (.int .i64) (.pair .str (.int .i64)))) (.pair (.sl 82 (.pair .str (.int .i64))) (.sl 84 (.pair (.int .i64) (.pair .str (.pair .str (.int .i64))))))))), true⟩, ⟨false, (.int .i64), true⟩]⟩
def impl_moved.fn : Fn := ⟨impl_moved.sig, fun k (x : (Int × Int × List (Int × ByteArray × Int) × List (ByteArray × Int) × List (Int × ByteArray × ByteArray × Int)) × (Int × ByteArray × ByteArray × Int) × Bool) => impl_moved.f k x.1 x.2.1 x.2.2⟩
noncomputable def impl_moved.env (k : Nat) : Env := ⟨Tryz.prog, 39, fun t => bif Nat.beq t 84 then some (.pair (.int .i64) (.pair .str (.pair .str (.int .i64)))) else none, look [(26, impl_DiskOk.fn), (27, impl_copyDisk.fn), (84, impl_Disk_file.fn)], k, impl_moved.sig.pin⟩
def impl_moved.ann : Ann := .seq .leaf (.seq (.seq .leaf (.cond (.seq .leaf .leaf) .leaf)) (.seq .leaf (.seq (.blk (.seq .leaf (.cond (.seq .leaf .leaf) (.seq .leaf (.cond (.seq .leaf .leaf) (.seq .leaf (.cond (.seq .leaf .leaf) .leaf))))))) (.seq .leaf (.seq .leaf .leaf)))))
theorem impl_moved.ok (k : Nat) : FnOk Tryz.prog k 85 impl_moved.fn :=
  fnOk_of (E := impl_moved.env k) (ann := impl_moved.ann) (look_cons (impl_DiskOk.ok k) (look_cons (impl_copyDisk.ok k) (look_cons (impl_Disk_file.ok k) (look_nil)))) (by kernel_rfl) Tryz.func85 (by kernel_rfl) (by kernel_rfl) (by kernel_rfl) (of_decide_eq_true (by kernel_rfl)) (of_decide_eq_true (by kernel_rfl)) (fun _ h => h) (fun x => by kernel_rfl)

/-! loop.example/g00358/impl.Rename -/
def impl_Rename.f (k : Nat) (a0 : Int × Int × List (Int × ByteArray × Int) × List (ByteArray × Int) × List (Int × ByteArray × ByteArray × Int)) (a1 : ByteArray) (a2 : ByteArray) : Option ((Int × Int × List (Int × ByteArray × Int) × List (ByteArray × Int) × List (Int × ByteArray × ByteArray × Int)) × Int) :=
  (impl_isName.f k a1).bind fun r1 => bif r1 then ((impl_isName.f k a2).bind fun r2 => bif r2 then ((impl_moved.f k a0 (2, a1, a2, 0) (!decide (a1 = a2))).bind fun r3 => some r3) else ((impl_moved.f k a0 (2, a1, a2, 0) false).bind fun r4 => some r4)) else ((impl_moved.f k a0 (2, a1, a2, 0) false).bind fun r5 => some r5)

def impl_Rename.sig : Sig := ⟨[.val true (.pair (.int .i64) (.pair (.int .i64) (.pair (.sl 79 (.pair (.int .i64) (.pair .str (.int .i64)))) (.pair (.sl 82 (.pair .str (.int .i64))) (.sl 84 (.pair (.int .i64) (.pair .str (.pair .str (.int .i64))))))))), .val false .str, .val false .str], [⟨true, (.pair (.int .i64) (.pair (.int .i64) (.pair (.sl 79 (.pair (.int .i64) (.pair .str (.int .i64)))) (.pair (.sl 82 (.pair .str (.int .i64))) (.sl 84 (.pair (.int .i64) (.pair .str (.pair .str (.int .i64))))))))), true⟩, ⟨false, (.int .i64), true⟩]⟩
def impl_Rename.fn : Fn := ⟨impl_Rename.sig, fun k (x : (Int × Int × List (Int × ByteArray × Int) × List (ByteArray × Int) × List (Int × ByteArray × ByteArray × Int)) × ByteArray × ByteArray) => impl_Rename.f k x.1 x.2.1 x.2.2⟩
noncomputable def impl_Rename.env (k : Nat) : Env := ⟨Tryz.prog, 26, fun t => none, look [(80, impl_isName.fn), (85, impl_moved.fn)], k, impl_Rename.sig.pin⟩
def impl_Rename.ann : Ann := .seq .leaf (.seq .leaf .leaf)
theorem impl_Rename.ok (k : Nat) : FnOk Tryz.prog k 66 impl_Rename.fn :=
  fnOk_of (E := impl_Rename.env k) (ann := impl_Rename.ann) (look_cons (impl_isName.ok k) (look_cons (impl_moved.ok k) (look_nil))) (by kernel_rfl) Tryz.func66 (by kernel_rfl) (by kernel_rfl) (by kernel_rfl) (of_decide_eq_true (by kernel_rfl)) (of_decide_eq_true (by kernel_rfl)) (fun _ h => h) (fun x => by kernel_rfl)

/-! loop.example/g00358/impl.Drop -/
def impl_Drop.f (k : Nat) (a0 : Int × Int × List (Int × ByteArray × Int) × List (ByteArray × Int) × List (Int × ByteArray × ByteArray × Int)) (a1 : ByteArray) : Option ((Int × Int × List (Int × ByteArray × Int) × List (ByteArray × Int) × List (Int × ByteArray × ByteArray × Int)) × Int) :=
  (impl_isName.f k a1).bind fun r1 => (impl_moved.f k a0 (3, a1, (⟨#[]⟩ : ByteArray), 0) r1).bind fun r2 => some r2

def impl_Drop.sig : Sig := ⟨[.val true (.pair (.int .i64) (.pair (.int .i64) (.pair (.sl 79 (.pair (.int .i64) (.pair .str (.int .i64)))) (.pair (.sl 82 (.pair .str (.int .i64))) (.sl 84 (.pair (.int .i64) (.pair .str (.pair .str (.int .i64))))))))), .val false .str], [⟨true, (.pair (.int .i64) (.pair (.int .i64) (.pair (.sl 79 (.pair (.int .i64) (.pair .str (.int .i64)))) (.pair (.sl 82 (.pair .str (.int .i64))) (.sl 84 (.pair (.int .i64) (.pair .str (.pair .str (.int .i64))))))))), true⟩, ⟨false, (.int .i64), true⟩]⟩
def impl_Drop.fn : Fn := ⟨impl_Drop.sig, fun k (x : (Int × Int × List (Int × ByteArray × Int) × List (ByteArray × Int) × List (Int × ByteArray × ByteArray × Int)) × ByteArray) => impl_Drop.f k x.1 x.2⟩
noncomputable def impl_Drop.env (k : Nat) : Env := ⟨Tryz.prog, 14, fun t => none, look [(80, impl_isName.fn), (85, impl_moved.fn)], k, impl_Drop.sig.pin⟩
def impl_Drop.ann : Ann := .seq .leaf (.seq .leaf .leaf)
theorem impl_Drop.ok (k : Nat) : FnOk Tryz.prog k 67 impl_Drop.fn :=
  fnOk_of (E := impl_Drop.env k) (ann := impl_Drop.ann) (look_cons (impl_isName.ok k) (look_cons (impl_moved.ok k) (look_nil))) (by kernel_rfl) Tryz.func67 (by kernel_rfl) (by kernel_rfl) (by kernel_rfl) (of_decide_eq_true (by kernel_rfl)) (of_decide_eq_true (by kernel_rfl)) (fun _ h => h) (fun x => by kernel_rfl)

/-! loop.example/g00358/impl.swept$1$1 -/
def impl_swept_in_1.f (k : Nat) (a0 : ByteArray × Int) (a1 : Int × ByteArray × Int) : Option Bool :=
  some (decide (a0.2 = a1.1))

def impl_swept_in_1.sig : Sig := ⟨[.val true (.pair .str (.int .i64)), .box 79 (.pair (.int .i64) (.pair .str (.int .i64))) false false], [⟨false, .bool, true⟩]⟩
def impl_swept_in_1.fn : Fn := ⟨impl_swept_in_1.sig, fun k (x : (ByteArray × Int) × Int × ByteArray × Int) => impl_swept_in_1.f k x.1 x.2⟩
noncomputable def impl_swept_in_1.env (k : Nat) : Env := ⟨Tryz.prog, 9, fun t => none, look [], k, impl_swept_in_1.sig.pin⟩
def impl_swept_in_1.ann : Ann := .seq .leaf (.seq .leaf .leaf)
theorem impl_swept_in_1.ok (k : Nat) : FnOk Tryz.prog k 100 impl_swept_in_1.fn :=
  fnOk_of (E := impl_swept_in_1.env k) (ann := impl_swept_in_1.ann) (look_nil) (by kernel_rfl) Tryz.func100 (by kernel_rfl) (by kernel_rfl) (by kernel_rfl) (of_decide_eq_true (by kernel_rfl)) (of_decide_eq_true (by kernel_rfl)) (fun _ h => h) (fun x => by kernel_rfl)

/-! slices.IndexFunc[[]loop.example/g00358/impl.Link,loop.example/g00358/impl.Link] -/
def slices_IndexFunc_Link_impl_swept_in_1.b0 (k : Nat) (s : List (ByteArray × Int) × Int × Int × Int × Int × ByteArray × Int) : Option ((List (ByteArray × Int) × Int × Int × Int × Int × ByteArray × Int) ⊕ Int ⊕ Int) :=
  bif (decide (s.2.2.2.1 < s.2.2.1)) then ((inb? s.1.length s.2.2.2.1).bind fun j1 => (s.1[j1]?).bind fun y2 => (impl_swept_in_1.f k y2 s.2.2.2.2).bind fun r3 => bif r3 then (some (.inr (.inr s.2.2.2.1))) else (some (.inl (s.1, s.2.1, s.2.2.1, IntKind.wrap .i64 (s.2.2.2.1 + 1), s.2.2.2.2)))) else (some (.inr (.inl s.2.1)))

def slices_IndexFunc_Link_impl_swept_in_1.d0 (k : Nat) (y : Int) : Option Int :=
  some (-1)

def slices_IndexFunc_Link_impl_swept_in_1.f (k : Nat) (a0 : List (ByteArray × Int)) (a1 : Int × ByteArray × Int) : Option Int :=
  (iter (X := Int ⊕ Int) (slices_IndexFunc_Link_impl_swept_in_1.b0 k) k (a0, 0, (a0.length : Int), 0, a1)).bind fun r => match r with | .inl y => slices_IndexFunc_Link_impl_swept_in_1.d0 k y | .inr o => some o

def slices_IndexFunc_Link_impl_swept_in_1.sig : Sig := ⟨[.val false (.sl 82 (.pair .str (.int .i64))), .clo 100 false 79 (.pair (.int .i64) (.pair .str (.int .i64)))], [⟨false, (.int .i64), true⟩]⟩
def slices_IndexFunc_Link_impl_swept_in_1.fn : Fn := ⟨slices_IndexFunc_Link_impl_swept_in_1.sig, fun k (x : List (ByteArray × Int) × Int × ByteArray × Int) => slices_IndexFunc_Link_impl_swept_in_1.f k x.1 x.2⟩
noncomputable def slices_IndexFunc_Link_impl_swept_in_1.env (k : Nat) : Env := ⟨Tryz.prog, 19, fun t => none, look [(100, impl_swept_in_1.fn)], k, slices_IndexFunc_Link_impl_swept_in_1.sig.pin⟩
def slices_IndexFunc_Link_impl_swept_in_1.ann : Ann := .seq .leaf (.seq (.seq .leaf (.loop [.slot 0 false (.sl 82 (.pair .str (.int .i64))) false, .fnp 1 100 false 2, .slot 4 false (.int .i64) false, .slot 7 false (.int .i64) false, .slot 8 false (.int .i64) false, .box 2 79 (.pair (.int .i64) (.pair .str (.int .i64))) false true] [.slot 4 false (.int .i64) false] (.seq .leaf (.seq (.cond .leaf .leaf) (.seq (.blk (.seq .leaf (.seq .leaf (.cond (.seq .leaf .leaf) .leaf)))) .leaf))))) (.seq .leaf .leaf))
theorem slices_IndexFunc_Link_impl_swept_in_1.ok (k : Nat) : FnOk Tryz.prog k 101 slices_IndexFunc_Link_impl_swept_in_1.fn :=
  fnOk_of (E := slices_IndexFunc_Link_impl_swept_in_1.env k) (ann := slices_IndexFunc_Link_impl_swept_in_1.ann) (look_cons (impl_swept_in_1.ok k) (look_nil)) (by kernel_rfl) Tryz.func101 (by kernel_rfl) (by kernel_rfl) (by kernel_rfl) (of_decide_eq_true (by kernel_rfl)) (of_decide_eq_true (by kernel_rfl)) (fun _ h => h) (fun x => by kernel_rfl)

/-! slices.ContainsFunc[[]loop.example/g00358/impl.Link,loop.example/g00358/impl.Link] -/
def slices_ContainsFunc_Link_impl_swept_in_1.f (k : Nat) (a0 : List (ByteArray × Int)) (a1 : Int × ByteArray × Int) : Option Bool :=
  (slices_IndexFunc_Link_impl_swept_in_1.f k a0 a1).bind fun r1 => some (decide (0 ≤ r1))

def slices_ContainsFunc_Link_impl_swept_in_1.sig : Sig := ⟨[.val false (.sl 82 (.pair .str (.int .i64))), .clo 100 false 79 (.pair (.int .i64) (.pair .str (.int .i64)))], [⟨false, .bool, true⟩]⟩
def slices_ContainsFunc_Link_impl_swept_in_1.fn : Fn := ⟨slices_ContainsFunc_Link_impl_swept_in_1.sig, fun k (x : List (ByteArray × Int) × Int × ByteArray × Int) => slices_ContainsFunc_Link_impl_swept_in_1.f k x.1 x.2⟩
noncomputable def slices_ContainsFunc_Link_impl_swept_in_1.env (k : Nat) : Env := ⟨Tryz.prog, 9, fun t => none, look [(101, slices_IndexFunc_Link_impl_swept_in_1.fn)], k, slices_ContainsFunc_Link_impl_swept_in_1.sig.pin⟩
def slices_ContainsFunc_Link_impl_swept_in_1.ann : Ann := .seq .leaf (.seq .leaf .leaf)
theorem slices_ContainsFunc_Link_impl_swept_in_1.ok (k : Nat) : FnOk Tryz.prog k 99 slices_ContainsFunc_Link_impl_swept_in_1.fn :=
  fnOk_of (E := slices_ContainsFunc_Link_impl_swept_in_1.env k) (ann := slices_ContainsFunc_Link_impl_swept_in_1.ann) (look_cons (slices_IndexFunc_Link_impl_swept_in_1.ok k) (look_nil)) (by kernel_rfl) Tryz.func99 (by kernel_rfl) (by kernel_rfl) (by kernel_rfl) (of_decide_eq_true (by kernel_rfl)) (of_decide_eq_true (by kernel_rfl)) (fun _ h => h) (fun x => by kernel_rfl)

/-! loop.example/g00358/impl.swept$1 -/
def impl_swept_in.f (k : Nat) (a0 : Int × ByteArray × Int) (a1 : Int × Int × Unit × List (ByteArray × Int) × List (Int × ByteArray × ByteArray × Int)) : Option Bool :=
  (slices_ContainsFunc_Link_impl_swept_in_1.f k a1.2.2.2.1 a0).bind fun r1 => some (!r1)

def impl_swept_in.sig : Sig := ⟨[.val true (.pair (.int .i64) (.pair .str (.int .i64))), .box 34 (.pair (.int .i64) (.pair (.int .i64) (.pair .any (.pair (.sl 82 (.pair .str (.int .i64))) (.sl 84 (.pair (.int .i64) (.pair .str (.pair .str (.int .i64))))))))) false false], [⟨false, .bool, true⟩]⟩
def impl_swept_in.fn : Fn := ⟨impl_swept_in.sig, fun k (x : (Int × ByteArray × Int) × Int × Int × Unit × List (ByteArray × Int) × List (Int × ByteArray × ByteArray × Int)) => impl_swept_in.f k x.1 x.2⟩
noncomputable def impl_swept_in.env (k : Nat) : Env := ⟨Tryz.prog, 9, fun t => none, look [(99, slices_ContainsFunc_Link_impl_swept_in_1.fn)], k, impl_swept_in.sig.pin⟩
def impl_swept_in.ann : Ann := .seq .leaf (.seq .leaf .leaf)
theorem impl_swept_in.ok (k : Nat) : FnOk Tryz.prog k 98 impl_swept_in.fn :=
  fnOk_of (E := impl_swept_in.env k) (ann := impl_swept_in.ann) (look_cons (slices_ContainsFunc_Link_impl_swept_in_1.ok k) (look_nil)) (by kernel_rfl) Tryz.func98 (by kernel_rfl) (by kernel_rfl) (by kernel_rfl) (of_decide_eq_true (by kernel_rfl)) (of_decide_eq_true (by kernel_rfl)) (fun _ h => h) (fun x => by kernel_rfl)

/-! slices.IndexFunc[[]loop.example/g00358/impl.Inode,loop.example/g00358/impl.Inode] -/
def slices_IndexFunc_Inode_impl_swept_in.b0 (k : Nat) (s : List (Int × ByteArray × Int) × Int × Int × Int × Int × Int × Unit × List (ByteArray × Int) × List (Int × ByteArray × ByteArray × Int)) : Option ((List (Int × ByteArray × Int) × Int × Int × Int × Int × Int × Unit × List (ByteArray × Int) × List (Int × ByteArray × ByteArray × Int)) ⊕ Int ⊕ Int) :=
  bif (decide (s.2.2.2.1 < s.2.2.1)) then ((inb? s.1.length s.2.2.2.1).bind fun j1 => (s.1[j1]?).bind fun y2 => (impl_swept_in.f k y2 (s.2.2.2.2.1, s.2.2.2.2.2.1, (), s.2.2.2.2.2.2.2)).bind fun r3 => bif r3 then (some (.inr (.inr s.2.2.2.1))) else (some (.inl (s.1, s.2.1, s.2.2.1, IntKind.wrap .i64 (s.2.2.2.1 + 1), s.2.2.2.2.1, s.2.2.2.2.2.1, (), s.2.2.2.2.2.2.2)))) else (some (.inr (.inl s.2.1)))

def slices_IndexFunc_Inode_impl_swept_in.d0 (k : Nat) (y : Int) : Option Int :=
  some (-1)

def slices_IndexFunc_Inode_impl_swept_in.f (k : Nat) (a0 : List (Int × ByteArray × Int)) (a1 : Int × Int × Unit × List (ByteArray × Int) × List (Int × ByteArray × ByteArray × Int)) : Option Int :=
  (iter (X := Int ⊕ Int) (slices_IndexFunc_Inode_impl_swept_in.b0 k) k (a0, 0, (a0.length : Int), 0, a1.1, a1.2.1, (), a1.2.2.2)).bind fun r => match r with | .inl y => slices_IndexFunc_Inode_impl_swept_in.d0 k y | .inr o => some o

def slices_IndexFunc_Inode_impl_swept_in.sig : Sig := ⟨[.val false (.sl 79 (.pair (.int .i64) (.pair .str (.int .i64)))), .clo 98 false 34 (.pair (.int .i64) (.pair (.int .i64) (.pair .any (.pair (.sl 82 (.pair .str (.int .i64))) (.sl 84 (.pair (.int .i64) (.pair .str (.pair .str (.int .i64)))))))))], [⟨false, (.int .i64), true⟩]⟩
def slices_IndexFunc_Inode_impl_swept_in.fn : Fn := ⟨slices_IndexFunc_Inode_impl_swept_in.sig, fun k (x : List (Int × ByteArray × Int) × Int × Int × Unit × List (ByteArray × Int) × List (Int × ByteArray × ByteArray × Int)) => slices_IndexFunc_Inode_impl_swept_in.f k x.1 x.2⟩
noncomputable def slices_IndexFunc_Inode_impl_swept_in.env (k : Nat) : Env := ⟨Tryz.prog, 19, fun t => none, look [(98, impl_swept_in.fn)], k, slices_IndexFunc_Inode_impl_swept_in.sig.pin⟩
def slices_IndexFunc_Inode_impl_swept_in.ann : Ann := .seq .leaf (.seq (.seq .leaf (.loop [.slot 0 false (.sl 79 (.pair (.int .i64) (.pair .str (.int .i64)))) false, .fnp 1 98 false 2, .slot 4 false (.int .i64) false, .slot 7 false (.int .i64) false, .slot 8 false (.int .i64) false, .box 2 34 (.pair (.int .i64) (.pair (.int .i64) (.pair .any (.pair (.sl 82 (.pair .str (.int .i64))) (.sl 84 (.pair (.int .i64) (.pair .str (.pair .str (.int .i64))))))))) false true] [.slot 4 false (.int .i64) false] (.seq .leaf (.seq (.cond .leaf .leaf) (.seq (.blk (.seq .leaf (.seq .leaf (.cond (.seq .leaf .leaf) .leaf)))) .leaf))))) (.seq .leaf .leaf))
theorem slices_IndexFunc_Inode_impl_swept_in.ok (k : Nat) : FnOk Tryz.prog k 88 slices_IndexFunc_Inode_impl_swept_in.fn :=
  fnOk_of (E := slices_IndexFunc_Inode_impl_swept_in.env k) (ann := slices_IndexFunc_Inode_impl_swept_in.ann) (look_cons (impl_swept_in.ok k) (look_nil)) (by kernel_rfl) Tryz.func88 (by kernel_rfl) (by kernel_rfl) (by kernel_rfl) (of_decide_eq_true (by kernel_rfl)) (of_decide_eq_true (by kernel_rfl)) (fun _ h => h) (fun x => by kernel_rfl)

section
open Go.Proofs Go.Shelf Go.RowKit Go.Lib
theorem Hand.infoInode : ∃ i : TypeInfo, Tryz.prog.info? 79 = some i ∧ i.size = 3 ∧ i.bytes = 32 ∧ ∃ z, i.zero = some z ∧ z.cells.size = 3 := by
  have h : (Tryz.prog.info? 79).map (fun i => (i.zero, i.size, i.bytes)) = some (some (.agg #[.int .i64 0, .string ⟨#[]⟩, .int .i64 0]), 3, 32) := by kernel_rfl
  cases hq : Tryz.prog.info? 79 with
  | none => rw [hq] at h; cases h
  | some i =>
    rw [hq] at h
    simp only [Option.map_some, Option.some.injEq, Prod.mk.injEq] at h
    exact ⟨i, rfl, h.2.1, h.2.2, _, h.1, rfl⟩

theorem Hand.zeroInode : ∃ z : Value, (∀ w, (zeroValue 79).run Tryz.prog w = .ok z w) ∧ z.cells.size = 3 ∧ ∀ n, ∀ v ∈ (Builtin.zeroCells z.cells n).toList, v.oneCell' = true := by
  refine ⟨_, Tryz.zeroValue79, rfl, fun n v hv => ?_⟩
  simp only [Builtin.zeroCells] at hv
  obtain ⟨j, hj, rfl⟩ := List.getElem_of_mem hv
  simp [Value.cells]
  have : j % 3 = 0 ∨ j % 3 = 1 ∨ j % 3 = 2 := by omega
  rcases this with h | h | h <;> rw [h] <;> rfl

end
def cvInode (x : (Int × ByteArray × Int)) : List Value := [.int .i64 x.1, .string x.2.1, .int .i64 x.2.2]
theorem cvInode_len (x : (Int × ByteArray × Int)) : (cvInode x).length = 3 := rfl
theorem cvInode_rd {w : World} {S : Nat → Prop} (x : (Int × ByteArray × Int)) : RdT w S (.pair (.int .i64) (.pair .str (.int .i64))) x (cvInode x) := by unfold cvInode; exact ⟨[_], [_, _], rfl, rfl, ⟨[_], [_], rfl, rfl, rfl⟩⟩
section
open Go.Proofs Go.Shelf Go.RowKit Go.Lib
set_option maxHeartbeats 4000000 in
/-- nothing is found: the row comes back as it is -/
theorem Hand.dfn0_slices_DeleteFunc_Inode_impl_swept_in (w : World) (b : Option Addr) (n c mb : Nat) (Q : World → Prop) (hix : Calls Tryz.prog 88 #[.slice b n c, .func (.func 98) #[] #[.pointer (some ⟨mb, 0, none⟩)]] w fun e w' => e = .returned (.int .i64 (-1)) ∧ Q w') :
    Calls Tryz.prog 97 #[.slice b n c, .func (.func 98) #[] #[.pointer (some ⟨mb, 0, none⟩)]] w (fun e w' => e = .returned (.slice b n c) ∧ Q w') := by
  have mixed : Tryz.prog.follows .mixedOrders = true := by kernel_rfl
  go_enter Tryz.func97, Tryz.ntmps97
  go_wp2_with (go_at_call 88; refine hix.mono ?_; rintro e w' ⟨rfl, hI⟩)
  go_ret
  exact ⟨rfl, hI⟩

set_option maxHeartbeats 4000000 in
set_option maxRecDepth 100000 in
/-- slices.DeleteFunc behind the search: what stays -/
theorem Hand.dfn_slices_DeleteFunc_Inode_impl_swept_in (w : World) (b off n c i0 mb : Nat) (cur : Array Value) (X : List Value) (E0 : Nat → Int) (E1 : Nat → ByteArray) (E2 : Nat → Int) (pr : Nat → Bool) (Inv : Nat → Nat → World → Prop)
    (hix : Calls Tryz.prog 88 #[.slice (some ⟨b, off, none⟩) n c, .func (.func 98) #[] #[.pointer (some ⟨mb, 0, none⟩)]] w fun e w' => e = .returned (.int .i64 i0) ∧ Inv i0 (i0 + 1) w')
    (hi0 : i0 < n) (hn63 : n ≤ 9223372036854775806) (hnc : n ≤ c)
    (hread : ∀ i j W, Inv i j W → j < n → W.cell? ⟨b, off + j * 3, none⟩ = some (.int .i64 (E0 j)) ∧ W.cell? ⟨b, off + j * 3 + 1, none⟩ = some (.string (E1 j)) ∧ W.cell? ⟨b, off + j * 3 + 2, none⟩ = some (.int .i64 (E2 j)))
    (hcall : ∀ i j W, Inv i j W → j < n → Calls Tryz.prog 98 #[.agg #[.int .i64 (E0 j), .string (E1 j), .int .i64 (E2 j)], .pointer (some ⟨mb, 0, none⟩)] (W.alloc (.cells #[.int .i64 (E0 j), .string (E1 j), .int .i64 (E2 j)] 79)) fun e W' => e = .returned (.bool (pr j)) ∧ Frm (W.alloc (.cells #[.int .i64 (E0 j), .string (E1 j), .int .i64 (E2 j)] 79)).heap.size (fun _ => False) (W.alloc (.cells #[.int .i64 (E0 j), .string (E1 j), .int .i64 (E2 j)] 79)) W')
    (hskip : ∀ i j W W', Inv i j W → j < n → pr j = true → Frm (W.alloc (.cells #[.int .i64 (E0 j), .string (E1 j), .int .i64 (E2 j)] 79)).heap.size (fun _ => False) (W.alloc (.cells #[.int .i64 (E0 j), .string (E1 j), .int .i64 (E2 j)] 79)) W' → Inv i (j + 1) W')
    (hrow : ∀ i j W W', Inv i j W → j < n → Frm (W.alloc (.cells #[.int .i64 (E0 j), .string (E1 j), .int .i64 (E2 j)] 79)).heap.size (fun _ => False) (W.alloc (.cells #[.int .i64 (E0 j), .string (E1 j), .int .i64 (E2 j)] 79)) W' → ∃ cur', W'.heap[b]? = some (.cells cur' 79 (0, 0)) ∧ off + c * 3 ≤ cur'.size)
    (hkeep : ∀ i j W W', Inv i j W → j < n → pr j = false → Frm (W.alloc (.cells #[.int .i64 (E0 j), .string (E1 j), .int .i64 (E2 j)] 79)).heap.size (fun _ => False) (W.alloc (.cells #[.int .i64 (E0 j), .string (E1 j), .int .i64 (E2 j)] 79)) W' →
      Inv (i + 1) (j + 1) (((W'.setCell ⟨b, off + i * 3, none⟩ (.int .i64 (E0 j))).setCell ⟨b, off + i * 3 + 1, none⟩ (.string (E1 j))).setCell ⟨b, off + i * 3 + 2, none⟩ (.int .i64 (E2 j))))
    (Post : Nat → World → Prop)
    (hend : ∀ i W, Inv i n W → ∃ W2, (∀ ty dc, (Builtin.clear_ #[30] ty #[.slice (some ⟨b, off + i * 3, none⟩) (n - i) dc]).run Tryz.prog W = .ok (.tuple #[]) W2) ∧ Post i W2)
    (hij : ∀ i j W, Inv i j W → i < j) :
    Calls Tryz.prog 97 #[.slice (some ⟨b, off, none⟩) n c, .func (.func 98) #[] #[.pointer (some ⟨mb, 0, none⟩)]] w (fun e w' => ∃ i, e = .returned (.slice (some ⟨b, off, none⟩) i c) ∧ Post i w') := by
  have hne1 : ((i0 : Int) == -1) = false := beq_eq_false_iff_ne.2 (by omega)
  have HC : Aside _ := hcall
  have HR : Aside _ := hread
  clear hcall hread
  have HROW0 : Aside _ := hrow
  have HSK0 : Aside _ := hskip
  have HKP0 : Aside _ := hkeep
  have HEND : Aside _ := hend
  clear hrow hskip hkeep hend
  have mixed : Tryz.prog.follows .mixedOrders = true := by kernel_rfl
  go_enter Tryz.func97, Tryz.ntmps97
  go_wp2_with (go_at_call 88; refine hix.mono ?_; rintro e w' ⟨rfl, hI⟩)
  go_loopg [5, 6, 7] n (fun gg s5 s6 _ wr => ∃ (i j : Nat), s5 = .int .i64 i ∧ s6 = .int .i64 j ∧ j ≤ n ∧ n - j ≤ gg ∧ Aside (Inv i j wr))
  case atStart => exact ⟨i0, i0 + 1, rfl, by go_num, by omega, by omega, hI⟩
  case round =>
    obtain ⟨i, j, rfl, rfl, hjn, hgg, I⟩ := hrel
    by_cases hlt : j < n
    · have hltz : (j : Int) < (n : Int) := by omega
      obtain ⟨c0, c1, c2⟩ := HR.out i j wr I.out hlt
      have hcall := HC.out i j wr I.out hlt
      have hil := hij i j wr I.out
      have HROW : Aside _ := HROW0.out i j wr
      have HSK : Aside _ := HSK0.out i j wr
      obtain ⟨e0, C0⟩ : ∃ e, Aside (E0 j = e) := ⟨_, rfl⟩
      rw [C0.out] at c0 hcall
      obtain ⟨e1, C1⟩ : ∃ e, Aside (E1 j = e) := ⟨_, rfl⟩
      rw [C1.out] at c1 hcall
      obtain ⟨e2, C2⟩ : ∃ e, Aside (E2 j = e) := ⟨_, rfl⟩
      rw [C2.out] at c2 hcall
      cases hq : pr j with
      | true =>
        rw [hq] at hcall
        go_wp2_with (go_at_call 98; refine hcall.mono ?_; rintro e w' ⟨rfl, hf⟩)
        go_roundg (n - (j + 1))
        case measure => omega
        case rel =>
          refine ⟨i, j + 1, rfl, by go_num, by omega, Nat.le_refl _, HSK.out w' I.out hlt hq ?_⟩
          rw [C0.out, C1.out, C2.out]
          exact hf
      | false =>
        rw [hq] at hcall
        have hpost : ∀ w', Frm (wr.alloc (.cells #[.int .i64 e0, .string e1, .int .i64 e2] 79)).heap.size (fun _ => False) (wr.alloc (.cells #[.int .i64 e0, .string e1, .int .i64 e2] 79)) w' →
            w'.cell? ⟨wr.heap.size, 0, none⟩ = some (.int .i64 e0) ∧ w'.cell? ⟨wr.heap.size, 1, none⟩ = some (.string e1) ∧ w'.cell? ⟨wr.heap.size, 2, none⟩ = some (.int .i64 e2) ∧ (∃ u, w'.cell? ⟨b, off + i * 3, none⟩ = some u) ∧ (∃ u, w'.cell? ⟨b, off + i * 3 + 1, none⟩ = some u) ∧ (∃ u, w'.cell? ⟨b, off + i * 3 + 2, none⟩ = some u) ∧ w'.frozen? ⟨b, off + i * 3, none⟩ = false ∧ w'.frozen? ⟨b, off + i * 3 + 1, none⟩ = false ∧ w'.frozen? ⟨b, off + i * 3 + 2, none⟩ = false := by
          intro w' hf
          obtain ⟨cur', hcur', hfit'⟩ := HROW.out w' I.out hlt (by rw [C0.out, C1.out, C2.out]; exact hf)
          have hwn : (wr.alloc (.cells #[.int .i64 e0, .string e1, .int .i64 e2] 79)).heap[wr.heap.size]? = some (.cells #[.int .i64 e0, .string e1, .int .i64 e2] 79 (0, 0)) := by show (wr.heap.push _)[wr.heap.size]? = _; simp
          refine ⟨hf.cell0 ?_, hf.cell0 ?_, hf.cell0 ?_, ?_, ?_, ?_, ?_, ?_, ?_⟩
          · rw [cell_of_row _ _ _ _ 79 (0, 0) hwn]; rfl
          · rw [cell_of_row _ _ _ _ 79 (0, 0) hwn]; rfl
          · rw [cell_of_row _ _ _ _ 79 (0, 0) hwn]; rfl
          · exact ⟨_, by rw [cell_of_row w' b _ cur' 79 (0, 0) hcur', Array.getElem?_eq_getElem (by omega)]⟩
          · exact ⟨_, by rw [cell_of_row w' b _ cur' 79 (0, 0) hcur', Array.getElem?_eq_getElem (by omega)]⟩
          · exact ⟨_, by rw [cell_of_row w' b _ cur' 79 (0, 0) hcur', Array.getElem?_eq_getElem (by omega)]⟩
          · simp [World.frozen?, hcur']
          · simp [World.frozen?, hcur']
          · simp [World.frozen?, hcur']
        go_wp2_with (go_at_call 98; refine hcall.mono ?_; rintro e w' ⟨rfl, hf⟩; obtain ⟨d0, d1, d2, ⟨u0, g0⟩, ⟨u1, g1⟩, ⟨u2, g2⟩, f0, f1, f2⟩ := hpost w' hf)
        go_roundg (n - (j + 1))
        case measure => omega
        case rel =>
          refine ⟨i + 1, j + 1, by go_num, by go_num, by omega, Nat.le_refl _, (show Aside _ from ?_)⟩
          have := HKP0.out i j wr w' I.out hlt hq (by rw [C0.out, C1.out, C2.out]; exact hf)
          rw [C0.out, C1.out, C2.out] at this
          exact this
    · obtain rfl : j = n := by omega
      have hltz : ¬ (j : Int) < (j : Int) := by omega
      have hil := hij i j wr I.out
      obtain ⟨W2, hcl, hp⟩ := HEND.out i wr I.out
      have HP : Aside _ := hp
      clear hp
      have hic : i ≤ c := by omega
      have hci : ¬ (c = i) := by omega
      have hij1 : (i : Int) ≤ (j : Int) := by omega
      go_wp2
      go_ret
      exact ⟨i, rfl, HP.out⟩
end
def dflt_Inode : (Int × ByteArray × Int) := (0, ⟨#[]⟩, 0)
def slices_DeleteFunc_Inode_impl_swept_in.f (k : Nat) (a0 : List (Int × ByteArray × Int)) (a1 : Int × Int × Unit × List (ByteArray × Int) × List (Int × ByteArray × ByteArray × Int)) : Option (List (Int × ByteArray × Int)) := delG (slices_IndexFunc_Inode_impl_swept_in.f k a0 a1) (fun x => impl_swept_in.f k x a1) a0
def slices_DeleteFunc_Inode_impl_swept_in.sig : Sig := ⟨[.give false (.sl 79 (.pair (.int .i64) (.pair .str (.int .i64)))), .clo 98 false 34 (.pair (.int .i64) (.pair (.int .i64) (.pair .any (.pair (.sl 82 (.pair .str (.int .i64))) (.sl 84 (.pair (.int .i64) (.pair .str (.pair .str (.int .i64)))))))))], [⟨false, (.sl 79 (.pair (.int .i64) (.pair .str (.int .i64)))), true⟩]⟩
def slices_DeleteFunc_Inode_impl_swept_in.fn : Fn := ⟨slices_DeleteFunc_Inode_impl_swept_in.sig, fun k (x : List (Int × ByteArray × Int) × (Int × Int × Unit × List (ByteArray × Int) × List (Int × ByteArray × ByteArray × Int))) => slices_DeleteFunc_Inode_impl_swept_in.f k x.1 x.2⟩

theorem slices_DeleteFunc_Inode_impl_swept_in.ok (k : Nat) : FnOk Tryz.prog k 97 slices_DeleteFunc_Inode_impl_swept_in.fn := by
  refine ⟨body_there Tryz.func97 (by kernel_rfl) (by kernel_rfl), ?_⟩
  intro w S vs vss rows (x : List (Int × ByteArray × Int) × (Int × Int × Unit × List (ByteArray × Int) × List (Int × ByteArray × ByteArray × Int))) (r : List (Int × ByteArray × Int)) hsem hargs hparts hS hbn hbn2 hbS hnd hrows
  obtain ⟨xs, cap⟩ := x
  change slices_DeleteFunc_Inode_impl_swept_in.f k xs cap = some r at hsem
  unfold slices_DeleteFunc_Inode_impl_swept_in.f delG at hsem
  obtain ⟨idx, hidx, hsem⟩ := Option.bind_eq_some_iff.1 hsem
  have hal := hargs.length
  obtain ⟨v0, v1, rfl⟩ := list2 hal.1
  obtain ⟨l0, l1, rfl⟩ := list2 hal.2
  obtain ⟨ha0, ⟨mb, rfl, hmb⟩, _⟩ := hargs
  simp only [Bool.false_eq_true, if_false] at ha0
  subst ha0
  obtain ⟨q0, qs, r1, r2, he, rfl, hp0, hp⟩ := hparts
  simp only [List.cons.injEq] at he
  obtain ⟨rfl, rfl⟩ := he
  obtain ⟨q1, he, hp1⟩ := hp
  simp only [List.cons.injEq, and_true] at he
  subst he
  have hp0 : OwnT w S (.sl 79 (.pair (.int .i64) (.pair .str (.int .i64)))) xs [v0] r1 := hp0
  obtain ⟨hp1, rfl⟩ : RdT w S (.pair (.int .i64) (.pair (.int .i64) (.pair .any (.pair (.sl 82 (.pair .str (.int .i64))) (.sl 84 (.pair (.int .i64) (.pair .str (.pair .str (.int .i64))))))))) cap l1 ∧ r2 = [] := hp1
  have hrd0 : RdT w (fun b => S b ∨ b ∈ Blks r1) (.sl 79 (.pair (.int .i64) (.pair .str (.int .i64)))) xs [v0] := by
    obtain ⟨a, n, cp, h1, h2, h3, _⟩ := hp0
    refine ⟨a, n, cp, h1, h3.mono (fun b hb => .inr ?_) (fun _ _ => rfl) (fun x l => RdT.mono (fun b hb => .inl hb) fun _ _ => rfl)⟩
    subst h2
    cases a with
    | none => cases hb
    | some ad => simpa [Blks] using hb.symm
  obtain ⟨a, c, X, hl, rfl, hcap, hnil, hXl, hX, hblk⟩ := own_cells hp0 (by decide)
  simp only [List.cons.injEq, and_true] at hl
  subst hl
  simp only [List.append_nil] at hnd hrows ⊢
  have hcap : xs.length ≤ c := hcap
  have hix : Calls Tryz.prog 88 #[.slice a xs.length c, .func (.func 98) #[] #[.pointer (some ⟨mb, 0, none⟩)]] w (fun e w' => e = .returned (.int .i64 idx) ∧ Frm w.heap.size (fun _ => False) w w') := by
    refine ((slices_IndexFunc_Inode_impl_swept_in.ok k).run w (fun b => S b ∨ b ∈ Blks [(a.map (·.block), .slice a xs.length c)]) [.slice a xs.length c, .func (.func 98) #[] #[.pointer (some ⟨mb, 0, none⟩)]] [[.slice a xs.length c], l1] [] (xs, cap) idx hidx
      ⟨rfl, ⟨mb, rfl, hmb⟩, trivial⟩ ⟨_, _, [], [], rfl, rfl, ⟨hrd0, rfl⟩, _, rfl, ⟨hp1.mono (fun b hb => .inl hb) (fun _ _ => rfl), rfl⟩⟩
      (fun b hb => hb.elim (hS b) fun hb => (hrows b hb).2.1) List.nodup_nil (fun b hb => nomatch hb) (fun b hb => ?_) List.nodup_nil (fun b hb => nomatch hb)).mono ?_
    · exact fun h => h.elim (hbS b hb) fun h => (hrows b h).2.2 hb
    · rintro e w' ⟨rv, S', vr, vo, rows', rfl, hfrm, _, _, _, hpr, hres, ho, _, _⟩
      obtain rfl : vo = [] := ho
      match vr, hres with
      | [l], hres =>
        have h1 := hres.1
        simp only [Bool.false_eq_true, if_false] at h1
        subst h1
        have := one_out (own := true) (.inr ⟨_, rfl⟩) hpr
        simp only [RdT, List.cons.injEq, and_true] at this
        subst this
        exact ⟨rfl, hfrm.os, hfrm.tape, hfrm.output, rfl, hfrm.size, fun b hb _ => hfrm.block b hb fun h => h.elim (fun h => nomatch h) (fun h => nomatch h)⟩
      | [], hres => exact hres.elim
      | _ :: _ :: _, hres => exact hres.2.elim
  have hmS : ¬ S mb := hbS mb (List.mem_singleton.2 rfl : mb ∈ [mb])
  by_cases hi1 : idx = -1
  · subst hi1
    rw [if_pos rfl] at hsem
    simp only [Option.some.injEq] at hsem
    subst hsem
    refine (Hand.dfn0_slices_DeleteFunc_Inode_impl_swept_in w a xs.length c mb _ hix).mono ?_
    rintro en w' ⟨rfl, hfrm⟩
    refine ⟨_, S, [[_]], [], [(a.map (·.block), .slice a xs.length c)], rfl, ⟨hfrm.os, hfrm.tape, hfrm.output, rfl, hfrm.size, fun b hb _ => hfrm.block b hb id⟩, fun _ h => h, fun _ h => .inl h, fun b hb => Nat.lt_of_lt_of_le (hS b hb) hfrm.size, ⟨_, rfl, ?_⟩, ⟨rfl, trivial⟩, rfl, hnd, fun b hb => ⟨(hrows b hb).1, Nat.lt_of_lt_of_le (hrows b hb).2.1 hfrm.size, (hrows b hb).2.2, .inl hb⟩⟩
    exact OwnT.mono (fun _ h => h) (fun b hb => hfrm.block b (hS b hb) id) (fun b hb => hfrm.block b (hrows b hb).2.1 id) hp0
  have hrows : ∀ b ∈ Blks [(a.map (·.block), .slice a xs.length c)], ¬ S b ∧ b < w.heap.size ∧ b ≠ mb := fun b hb => ⟨(hrows b hb).1, (hrows b hb).2.1, fun e => (hrows b hb).2.2 (List.mem_singleton.2 e : b ∈ [mb])⟩
  rw [if_neg hi1] at hsem
  split at hsem
  case isFalse => cases hsem
  rename_i hc
  obtain ⟨h0, hlt, hbig⟩ := hc
  obtain ⟨i0, rfl⟩ : ∃ n : Nat, idx = n := ⟨idx.toNat, by omega⟩
  have hlt : i0 < xs.length := by exact_mod_cast hlt
  simp only [Int.toNat_natCast] at hsem
  obtain ⟨rest, hrest, rfl⟩ := Option.map_eq_some_iff.1 hsem
  obtain ⟨hp, rfl⟩ := delF_eq hrest
  obtain ⟨q, hq⟩ : ∃ q : (Int × ByteArray × Int) → Bool, q = fun x => (impl_swept_in.f k x cap).getD false := ⟨_, rfl⟩
  have hpq : ∀ x ∈ xs.drop (i0 + 1), impl_swept_in.f k x cap = some (q x) := fun x hx => by obtain ⟨b, hb⟩ := hp x hx; simp [hq, hb]
  have hfin : xs.take i0 ++ (xs.drop (i0 + 1)).filter (fun x => !(impl_swept_in.f k x cap).getD false) = keptTo q xs i0 (xs.length - (i0 + 1)) := by
    unfold keptTo
    rw [List.take_of_length_le (l := xs.drop (i0 + 1)) (by rw [List.length_drop]; omega), hq]
  rw [hfin]
  cases a with
  | none => obtain ⟨rfl, _⟩ := hnil rfl; exact absurd hlt (Nat.not_lt_zero _)
  | some ad =>
    obtain ⟨b, off, asp⟩ := ad
    obtain ⟨hsp, cur, hcur, hfit, hXc⟩ := hblk _ rfl
    simp only at hsp hcur hfit hXc
    subst hsp
    have hfit : off + c * 3 ≤ cur.size := hfit
    have hXf := hX.flat (cv := cvInode) cvInode_len (fun x l h => by obtain ⟨_, _, rfl, rfl, ⟨_, _, rfl, rfl, rfl⟩⟩ := h; rfl)
    subst hXf
    have hbb : b ∈ Blks [((some (⟨b, off, none⟩ : Addr)).map (·.block), .slice (some ⟨b, off, none⟩) xs.length c)] := by simp [Blks]
    have hbS' := hrows b hbb
    have hmbb : mb ≠ b := fun h => hbS'.2.2 h.symm
    have hmlt : mb < w.heap.size := (Array.getElem?_eq_some_iff.1 hmb).1
    obtain ⟨z, hzv, hzs, hz1⟩ := Hand.zeroInode
    have key := Hand.dfn_slices_DeleteFunc_Inode_impl_swept_in w b off xs.length c i0 mb cur [] (fun j => ((xs[j]?).getD dflt_Inode).1) (fun j => ((xs[j]?).getD dflt_Inode).2.1) (fun j => ((xs[j]?).getD dflt_Inode).2.2) (fun j => q ((xs[j]?).getD dflt_Inode))
      (fun i j W => ∃ d, j = i0 + 1 + d ∧ i = (keptTo q xs i0 d).length ∧ DInv 79 3 cvInode w b off cur.size xs (keptTo q xs i0 d) j W)
      (hix.mono (by
        rintro e w' ⟨rfl, hf⟩
        refine ⟨rfl, 0, rfl, ?_, ⟨⟨hf.os, hf.tape, hf.output, rfl, hf.size, fun k hk _ => hf.block k hk id⟩, cur, (hf.block b hbS'.2.1 id).trans hcur, rfl, fun q v hq => ?_, fun q v _ hq => hXc q v hq⟩⟩
        · simp [keptTo]; omega
        · simp only [keptTo, List.take_zero, List.filter_nil, List.append_nil] at hq
          refine hXc q v ?_
          rw [← List.take_append_drop i0 xs, List.flatMap_append, List.getElem?_append_left (List.getElem?_eq_some_iff.1 hq).1]
          exact hq))
      hlt (by omega) hcap
      (fun i j W hI hj => by
        obtain ⟨d, rfl, rfl, h⟩ := hI
        have hx : xs[i0 + 1 + d]? = some xs[i0 + 1 + d] := List.getElem?_eq_getElem hj
        exact ⟨by have := h.read (cvInode_len) hx (t := 0) rfl; simpa [hx] using this, by have := h.read (cvInode_len) hx (t := 1) rfl; simpa [hx] using this, by have := h.read (cvInode_len) hx (t := 2) rfl; simpa [hx] using this⟩)
      (fun i j W hI hj => by
        obtain ⟨d, rfl, rfl, h⟩ := hI
        have hx : xs[i0 + 1 + d]? = some xs[i0 + 1 + d] := List.getElem?_eq_getElem hj
        have hpx := hpq _ (List.mem_of_getElem? (by rw [List.getElem?_drop]; exact hx))
        simp only [hx, Option.getD_some]
        have hWs := h.frm.size
        have hkeep : ∀ k, k < w.heap.size → k ≠ b → (W.alloc (.cells (cvInode xs[i0 + 1 + d]).toArray 79)).heap[k]? = w.heap[k]? := fun k hk hkb => by
          show (W.heap.push _)[k]? = _
          rw [Array.getElem?_push, if_neg (by omega)]
          exact h.frm.block k hk hkb
        refine ((impl_swept_in.ok k).run _ S [.agg (cvInode xs[i0 + 1 + d]).toArray, .pointer (some ⟨mb, 0, none⟩)] [cvInode xs[i0 + 1 + d], l1] [] (xs[i0 + 1 + d], cap) (q xs[i0 + 1 + d]) hpx
          ⟨rfl, ⟨mb, rfl, (hkeep mb hmlt hmbb).trans hmb⟩, trivial⟩
          ⟨_, _, [], [], rfl, rfl, ⟨cvInode_rd _, rfl⟩, _, rfl, ⟨hp1.mono (fun _ h => h) (fun s hs => hkeep s (hS s hs) fun e => hbS'.1 (e ▸ hs)), rfl⟩⟩
          (fun s hs => by have := hS s hs; show s < (W.heap.push _).size; simp; omega) List.nodup_nil (fun b hb => nomatch hb) (fun s hs => by have hs : s = mb := List.mem_singleton.1 hs; rw [hs]; exact hmS) List.nodup_nil (fun b hb => nomatch hb)).mono ?_
        rintro e w' ⟨rv, S', vr, vo, rows', rfl, hfrm, _, _, _, hpr, hres, ho, _, _⟩
        obtain rfl : vo = [] := ho
        match vr, hres with
        | [l], hres =>
          have h1 := hres.1
          simp only [Bool.false_eq_true, if_false] at h1
          subst h1
          have := one_out (own := true) (.inl rfl) hpr
          simp only [RdT, List.cons.injEq, and_true] at this
          subst this
          exact ⟨rfl, hfrm.os, hfrm.tape, hfrm.output, rfl, hfrm.size, fun b hb _ => hfrm.block b hb fun h => h.elim (fun h => nomatch h) (fun h => nomatch h)⟩
        | [], hres => exact hres.elim
        | _ :: _ :: _, hres => exact hres.2.elim)
      (fun i j W W' hI hj hpr hf => by
        obtain ⟨d, rfl, rfl, h⟩ := hI
        have hx : xs[i0 + 1 + d]? = some xs[i0 + 1 + d] := List.getElem?_eq_getElem hj
        simp only [hx, Option.getD_some] at hpr
        refine ⟨d + 1, rfl, ?_, ?_⟩ <;> rw [keptTo_succ hx, hpr, cond_true]
        exact (h.call hf).skip)
      (fun i j W W' hI hj hf => by
        obtain ⟨d, rfl, rfl, h⟩ := hI
        obtain ⟨cur', h1, h2, _⟩ := (h.call hf).row
        exact ⟨cur', h1, by omega⟩)
      (fun i j W W' hI hj hpr hf => by
        obtain ⟨d, rfl, rfl, h⟩ := hI
        have hx : xs[i0 + 1 + d]? = some xs[i0 + 1 + d] := List.getElem?_eq_getElem hj
        simp only [hx, Option.getD_some] at hpr hf ⊢
        have hkl := keptTo_len (q := q) (xs := xs) (i0 := i0) (d := d)
        refine ⟨d + 1, rfl, ?_, ?_⟩ <;> rw [keptTo_succ hx, hpr, cond_false]
        · simp
        · exact (h.call hf).keep cvInode_len (c := c) xs[i0 + 1 + d] (by omega) (by omega) (by omega))
      (fun i W2 => i = (keptTo q xs i0 (xs.length - (i0 + 1))).length ∧ Frm w.heap.size (fun x => x = b) w W2 ∧ ∃ cur', W2.heap[b]? = some (.cells cur' 79 (0, 0)) ∧ cur'.size = cur.size ∧ ∀ q' v, ((keptTo q xs i0 (xs.length - (i0 + 1))).flatMap cvInode)[q']? = some v → cur'[off + q']? = some v)
      (fun i W hI => by
        obtain ⟨d, hd, rfl, h⟩ := hI
        obtain rfl : d = xs.length - (i0 + 1) := by omega
        have hkl := keptTo_len (q := q) (xs := xs) (i0 := i0) (d := xs.length - (i0 + 1))
        obtain ⟨K, hK⟩ : ∃ K, K = keptTo q xs i0 (xs.length - (i0 + 1)) := ⟨_, rfl⟩
        rw [← hK] at h hkl ⊢
        obtain ⟨cur', h1, h2, h3, h4⟩ := h.row
        have hflat := flat_len cvInode_len K
        have hzl : (Builtin.zeroCells z.cells (xs.length - K.length)).toList.length = (xs.length - K.length) * 3 := by rw [Array.length_toList, size_zeroCells, hzs]
        refine ⟨_, fun ty dc => run_clear_k W 30 79 ty z Tryz.underlying30 hzv b (off + K.length * 3) (xs.length - K.length) dc cur' 79 h1 (by rw [hzl, h2]; omega) (hz1 _) (by omega), rfl, ?_, ?_⟩
        · exact ⟨h.frm.os, h.frm.tape, h.frm.output, rfl, by rw [size_setRow]; exact h.frm.size, fun k hk hm => (setRow_other _ _ _ _ hm).trans (h.frm.block k hk hm)⟩
        · refine ⟨_, setRow_heap _ b cur' _ 79 (0, 0) h1, ?_, fun q' v hv => ?_⟩
          · simp only [List.size_toArray, List.length_append, List.length_take, List.length_drop, Array.length_toList, hzl] at *; omega
          · have hlt' := (List.getElem?_eq_some_iff.1 hv).1
            simp only [List.getElem?_toArray]
            rw [laid_get cur'.toList _ (off + K.length * 3) (off + q') (by rw [hzl]; simp; omega), if_pos (by omega)]
            simpa using h3 q' v hv)
      (fun i j W hI => by
        obtain ⟨d, rfl, rfl, h⟩ := hI
        have hkl := keptTo_len (q := q) (xs := xs) (i0 := i0) (d := d)
        omega)
    refine key.mono ?_
    rintro en w' ⟨i, rfl, rfl, hfrm, cur', hcur', hsz', hcells⟩
    have hkl := keptTo_len (q := q) (xs := xs) (i0 := i0) (d := xs.length - (i0 + 1))
    have hpost : InsPost 79 3 w (some b) ((keptTo q xs i0 (xs.length - (i0 + 1))).flatMap cvInode) (keptTo q xs i0 (xs.length - (i0 + 1))).length (.returned (.slice (some ⟨b, off, none⟩) (keptTo q xs i0 (xs.length - (i0 + 1))).length c)) w' :=
      ⟨b, off, c, cur', rfl, by omega, hcur', by omega, hcells, ⟨hfrm.os, hfrm.tape, hfrm.output, rfl, hfrm.size, fun k hk hm => hfrm.block k hk fun e => hm (by rw [e])⟩, .inl rfl⟩
    obtain ⟨rv, rows', h1, h2, h3, h4, h5, h6⟩ := ins_back (e := 79) (c := (.pair (.int .i64) (.pair .str (.int .i64)))) (S := S) (rows := [((some (⟨b, off, none⟩ : Addr)).map (·.block), .slice (some ⟨b, off, none⟩) xs.length c)]) hpost (FlatR.of_flat (rd := RdT w S (.pair (.int .i64) (.pair .str (.int .i64)))) (size := 3) cvInode_len (xs := keptTo q xs i0 (xs.length - (i0 + 1))) fun x _ => cvInode_rd x) rfl hS
      (fun x hx => by cases hx; exact hbb) (fun x hx => ⟨(hrows x hx).1, (hrows x hx).2.1⟩) rfl
    refine ⟨rv, S, [[rv]], [], rows', h1, ⟨h2.os, h2.tape, h2.output, rfl, h2.size, fun k hk hm => h2.block k hk fun h => h.elim (fun h => nomatch h) fun h => hm (.inr h)⟩, fun _ h => h, fun _ h => .inl h, h3, h4, ⟨rfl, trivial⟩, rfl, h5, fun x hx => ⟨(h6 x hx).1, (h6 x hx).2.1, fun h => ?_, (h6 x hx).2.2.2⟩⟩
    have hxm : x = mb := List.mem_singleton.1 h
    rcases (h6 x hx).2.2.2 with h' | h'
    · exact (hrows x h').2.2 hxm
    · omega

/-! loop.example/g00358/impl.swept -/
def impl_swept.f (k : Nat) (a0 : Int × Int × List (Int × ByteArray × Int) × List (ByteArray × Int) × List (Int × ByteArray × ByteArray × Int)) : Option (Int × Int × List (Int × ByteArray × Int) × List (ByteArray × Int) × List (Int × ByteArray × ByteArray × Int)) :=
  (slices_DeleteFunc_Inode_impl_swept_in.f k a0.2.2.1 (a0.1, a0.2.1, (), a0.2.2.2)).bind fun r1 => some (a0.1, a0.2.1, r1, a0.2.2.2)

def impl_swept.sig : Sig := ⟨[.give true (.pair (.int .i64) (.pair (.int .i64) (.pair (.sl 79 (.pair (.int .i64) (.pair .str (.int .i64)))) (.pair (.sl 82 (.pair .str (.int .i64))) (.sl 84 (.pair (.int .i64) (.pair .str (.pair .str (.int .i64)))))))))], [⟨true, (.pair (.int .i64) (.pair (.int .i64) (.pair (.sl 79 (.pair (.int .i64) (.pair .str (.int .i64)))) (.pair (.sl 82 (.pair .str (.int .i64))) (.sl 84 (.pair (.int .i64) (.pair .str (.pair .str (.int .i64))))))))), true⟩]⟩
def impl_swept.fn : Fn := ⟨impl_swept.sig, fun k (x : Int × Int × List (Int × ByteArray × Int) × List (ByteArray × Int) × List (Int × ByteArray × ByteArray × Int)) => impl_swept.f k x⟩
noncomputable def impl_swept.env (k : Nat) : Env := ⟨Tryz.prog, 9, fun t => none, look [(97, slices_DeleteFunc_Inode_impl_swept_in.fn)], k, impl_swept.sig.pin⟩
def impl_swept.ann : Ann := .seq .leaf (.seq .leaf (.seq .leaf .leaf))
theorem impl_swept.ok (k : Nat) : FnOk Tryz.prog k 87 impl_swept.fn :=
  fnOk_of (E := impl_swept.env k) (ann := impl_swept.ann) (look_cons (slices_DeleteFunc_Inode_impl_swept_in.ok k) (look_nil)) (by kernel_rfl) Tryz.func87 (by kernel_rfl) (by kernel_rfl) (by kernel_rfl) (of_decide_eq_true (by kernel_rfl)) (of_decide_eq_true (by kernel_rfl)) (fun _ h => h) (fun x => by kernel_rfl)

/-! loop.example/g00358/impl.SyncDir -/
def impl_SyncDir.f (k : Nat) (a0 : Int × Int × List (Int × ByteArray × Int) × List (ByteArray × Int) × List (Int × ByteArray × ByteArray × Int)) : Option ((Int × Int × List (Int × ByteArray × Int) × List (ByteArray × Int) × List (Int × ByteArray × ByteArray × Int)) × Int) :=
  (impl_DiskOk.f k a0).bind fun r1 => bif (!r1) then (some ((0, 0, [], [], []), 1)) else ((impl_copyDisk.f k a0).bind fun r2 => (impl_Disk_now.f k a0).bind fun r3 => (impl_swept.f k (r2.1, r2.2.1, r2.2.2.1, r3, [])).bind fun r4 => some (r4, 0))

def impl_SyncDir.sig : Sig := ⟨[.val true (.pair (.int .i64) (.pair (.int .i64) (.pair (.sl 79 (.pair (.int .i64) (.pair .str (.int .i64)))) (.pair (.sl 82 (.pair .str (.int .i64))) (.sl 84 (.pair (.int .i64) (.pair .str (.pair .str (.int .i64)))))))))], [⟨true, (.pair (.int .i64) (.pair (.int .i64) (.pair (.sl 79 (.pair (.int .i64) (.pair .str (.int .i64)))) (.pair (.sl 82 (.pair .str (.int .i64))) (.sl 84 (.pair (.int .i64) (.pair .str (.pair .str (.int .i64))))))))), true⟩, ⟨false, (.int .i64), true⟩]⟩
def impl_SyncDir.fn : Fn := ⟨impl_SyncDir.sig, fun k (x : Int × Int × List (Int × ByteArray × Int) × List (ByteArray × Int) × List (Int × ByteArray × ByteArray × Int)) => impl_SyncDir.f k x⟩
noncomputable def impl_SyncDir.env (k : Nat) : Env := ⟨Tryz.prog, 17, fun t => none, look [(26, impl_DiskOk.fn), (27, impl_copyDisk.fn), (86, impl_Disk_now.fn), (87, impl_swept.fn)], k, impl_SyncDir.sig.pin⟩
def impl_SyncDir.ann : Ann := .seq .leaf (.seq (.seq .leaf (.cond (.seq .leaf .leaf) .leaf)) (.seq .leaf (.seq .leaf (.seq .leaf (.seq .leaf .leaf)))))
theorem impl_SyncDir.ok (k : Nat) : FnOk Tryz.prog k 68 impl_SyncDir.fn :=
  fnOk_of (E := impl_SyncDir.env k) (ann := impl_SyncDir.ann) (look_cons (impl_DiskOk.ok k) (look_cons (impl_copyDisk.ok k) (look_cons (impl_Disk_now.ok k) (look_cons (impl_swept.ok k) (look_nil))))) (by kernel_rfl) Tryz.func68 (by kernel_rfl) (by kernel_rfl) (by kernel_rfl) (of_decide_eq_true (by kernel_rfl)) (of_decide_eq_true (by kernel_rfl)) (fun _ h => h) (fun x => by kernel_rfl)

/-! loop.example/g00358/impl.DoStep -/
def impl_DoStep.f (k : Nat) (a0 : Int × Int × List (Int × ByteArray × Int) × List (ByteArray × Int) × List (Int × ByteArray × ByteArray × Int)) (a1 : Int × ByteArray × ByteArray × ByteArray) : Option ((Int × Int × List (Int × ByteArray × Int) × List (ByteArray × Int) × List (Int × ByteArray × ByteArray × Int)) × Int) :=
  bif (decide (a1.1 = 1)) then ((impl_Make.f k a0 a1.2.1).bind fun r1 => some r1) else (bif (decide (a1.1 = 2)) then ((impl_Add.f k a0 a1.2.1 a1.2.2.2).bind fun r2 => some r2) else (bif (decide (a1.1 = 3)) then ((impl_Sync.f k a0 a1.2.1).bind fun r3 => some r3) else (bif (decide (a1.1 = 4)) then ((impl_Rename.f k a0 a1.2.1 a1.2.2.1).bind fun r4 => some r4) else (bif (decide (a1.1 = 5)) then ((impl_Drop.f k a0 a1.2.1).bind fun r5 => some r5) else (bif (decide (a1.1 = 6)) then ((impl_SyncDir.f k a0).bind fun r6 => some r6) else ((impl_DiskOk.f k a0).bind fun r7 => bif (!r7) then (some ((0, 0, [], [], []), 1)) else ((impl_copyDisk.f k a0).bind fun r8 => some (r8, 1))))))))

def impl_DoStep.sig : Sig := ⟨[.val true (.pair (.int .i64) (.pair (.int .i64) (.pair (.sl 79 (.pair (.int .i64) (.pair .str (.int .i64)))) (.pair (.sl 82 (.pair .str (.int .i64))) (.sl 84 (.pair (.int .i64) (.pair .str (.pair .str (.int .i64))))))))), .val true (.pair (.int .i64) (.pair .str (.pair .str .str)))], [⟨true, (.pair (.int .i64) (.pair (.int .i64) (.pair (.sl 79 (.pair (.int .i64) (.pair .str (.int .i64)))) (.pair (.sl 82 (.pair .str (.int .i64))) (.sl 84 (.pair (.int .i64) (.pair .str (.pair .str (.int .i64))))))))), true⟩, ⟨false, (.int .i64), true⟩]⟩
def impl_DoStep.fn : Fn := ⟨impl_DoStep.sig, fun k (x : (Int × Int × List (Int × ByteArray × Int) × List (ByteArray × Int) × List (Int × ByteArray × ByteArray × Int)) × Int × ByteArray × ByteArray × ByteArray) => impl_DoStep.f k x.1 x.2⟩
noncomputable def impl_DoStep.env (k : Nat) : Env := ⟨Tryz.prog, 64, fun t => none, look [(63, impl_Make.fn), (64, impl_Add.fn), (65, impl_Sync.fn), (66, impl_Rename.fn), (67, impl_Drop.fn), (68, impl_SyncDir.fn), (26, impl_DiskOk.fn), (27, impl_copyDisk.fn)], k, impl_DoStep.sig.pin⟩
def impl_DoStep.ann : Ann := .seq .leaf (.seq (.seq .leaf (.blk (.seq .leaf (.cond (.seq .leaf .leaf) (.seq .leaf (.cond (.seq .leaf .leaf) (.seq .leaf (.cond (.seq .leaf .leaf) (.seq .leaf (.cond (.seq .leaf .leaf) (.seq .leaf (.cond (.seq .leaf .leaf) (.seq .leaf (.cond (.seq .leaf .leaf) .leaf)))))))))))))) (.seq (.seq .leaf (.cond (.seq .leaf .leaf) .leaf)) (.seq .leaf .leaf)))
theorem impl_DoStep.ok (k : Nat) : FnOk Tryz.prog k 28 impl_DoStep.fn :=
  fnOk_of (E := impl_DoStep.env k) (ann := impl_DoStep.ann) (look_cons (impl_Make.ok k) (look_cons (impl_Add.ok k) (look_cons (impl_Sync.ok k) (look_cons (impl_Rename.ok k) (look_cons (impl_Drop.ok k) (look_cons (impl_SyncDir.ok k) (look_cons (impl_DiskOk.ok k) (look_cons (impl_copyDisk.ok k) (look_nil))))))))) (by kernel_rfl) Tryz.func28 (by kernel_rfl) (by kernel_rfl) (by kernel_rfl) (of_decide_eq_true (by kernel_rfl)) (of_decide_eq_true (by kernel_rfl)) (fun _ h => h) (fun x => by kernel_rfl)

/-! loop.example/g00358/impl.DoSteps -/
def impl_DoSteps.b0 (k : Nat) (s : List (Int × ByteArray × ByteArray × ByteArray) × Int × Int × Int × Int × (Int × Int × List (Int × ByteArray × Int) × List (ByteArray × Int) × List (Int × ByteArray × ByteArray × Int)) × Int × Int × List (Int × ByteArray × Int) × List (ByteArray × Int) × List (Int × ByteArray × ByteArray × Int)) : Option ((List (Int × ByteArray × ByteArray × ByteArray) × Int × Int × Int × Int × (Int × Int × List (Int × ByteArray × Int) × List (ByteArray × Int) × List (Int × ByteArray × ByteArray × Int)) × Int × Int × List (Int × ByteArray × Int) × List (ByteArray × Int) × List (Int × ByteArray × ByteArray × Int)) ⊕ (List (Int × ByteArray × ByteArray × ByteArray) × Int × Int × Int × (Int × Int × List (Int × ByteArray × Int) × List (ByteArray × Int) × List (Int × ByteArray × ByteArray × Int)) × Int × Int × List (Int × ByteArray × Int) × List (ByteArray × Int) × List (Int × ByteArray × ByteArray × Int)) ⊕ ((Int × Int × List (Int × ByteArray × Int) × List (ByteArray × Int) × List (Int × ByteArray × ByteArray × Int)) × Int × Int)) :=
  bif (decide (s.2.2.2.2.1 < s.2.1)) then (bif (decide (s.2.2.2.2.1 < (s.1.length : Int))) then ((inb? s.1.length s.2.2.2.2.1).bind fun j1 => (s.1[j1]?).bind fun y2 => (impl_DoStep.f k s.2.2.2.2.2.2 y2).bind fun r3 => bif (!decide (r3.2 = 0)) then (some (.inr (.inr (s.2.2.2.2.2.2, s.2.2.2.2.1, r3.2)))) else (some (.inl (s.1, s.2.1, s.2.2.1, s.2.2.2.1, IntKind.wrap .i64 (s.2.2.2.2.1 + 1), s.2.2.2.2.2.1, r3.1)))) else (some (.inr (.inl (s.1, s.2.1, s.2.2.1, s.2.2.2.1, s.2.2.2.2.2))))) else (some (.inr (.inl (s.1, s.2.1, s.2.2.1, s.2.2.2.1, s.2.2.2.2.2))))

def impl_DoSteps.d0 (k : Nat) (y : List (Int × ByteArray × ByteArray × ByteArray) × Int × Int × Int × (Int × Int × List (Int × ByteArray × Int) × List (ByteArray × Int) × List (Int × ByteArray × ByteArray × Int)) × Int × Int × List (Int × ByteArray × Int) × List (ByteArray × Int) × List (Int × ByteArray × ByteArray × Int)) : Option ((Int × Int × List (Int × ByteArray × Int) × List (ByteArray × Int) × List (Int × ByteArray × ByteArray × Int)) × Int × Int) :=
  some (y.2.2.2.2.2, (if (if (y.1.length : Int) < y.2.1 then (y.1.length : Int) else y.2.1) > 0 then (if (y.1.length : Int) < y.2.1 then (y.1.length : Int) else y.2.1) else 0), 0)

def impl_DoSteps.f (k : Nat) (a0 : Int × Int × List (Int × ByteArray × Int) × List (ByteArray × Int) × List (Int × ByteArray × ByteArray × Int)) (a1 : List (Int × ByteArray × ByteArray × ByteArray)) (a2 : Int) : Option ((Int × Int × List (Int × ByteArray × Int) × List (ByteArray × Int) × List (Int × ByteArray × ByteArray × Int)) × Int × Int) :=
  (impl_DiskOk.f k a0).bind fun r1 => bif (!r1) then (some ((0, 0, [], [], []), 0, 1)) else ((impl_copyDisk.f k a0).bind fun r2 => bif (decide (20 < (a1.length : Int))) then (some (r2, 0, 1)) else ((iter (X := (List (Int × ByteArray × ByteArray × ByteArray) × Int × Int × Int × (Int × Int × List (Int × ByteArray × Int) × List (ByteArray × Int) × List (Int × ByteArray × ByteArray × Int)) × Int × Int × List (Int × ByteArray × Int) × List (ByteArray × Int) × List (Int × ByteArray × ByteArray × Int)) ⊕ ((Int × Int × List (Int × ByteArray × Int) × List (ByteArray × Int) × List (Int × ByteArray × ByteArray × Int)) × Int × Int)) (impl_DoSteps.b0 k) k (a1, a2, 0, 0, 0, (0, 0, [], [], []), r2)).bind fun r => match r with | .inl y => impl_DoSteps.d0 k y | .inr o => some o))

def impl_DoSteps.sig : Sig := ⟨[.val true (.pair (.int .i64) (.pair (.int .i64) (.pair (.sl 79 (.pair (.int .i64) (.pair .str (.int .i64)))) (.pair (.sl 82 (.pair .str (.int .i64))) (.sl 84 (.pair (.int .i64) (.pair .str (.pair .str (.int .i64))))))))), .val false (.sl 55 (.pair (.int .i64) (.pair .str (.pair .str .str)))), .val false (.int .i64)], [⟨true, (.pair (.int .i64) (.pair (.int .i64) (.pair (.sl 79 (.pair (.int .i64) (.pair .str (.int .i64)))) (.pair (.sl 82 (.pair .str (.int .i64))) (.sl 84 (.pair (.int .i64) (.pair .str (.pair .str (.int .i64))))))))), true⟩, ⟨false, (.int .i64), true⟩, ⟨false, (.int .i64), true⟩]⟩
def impl_DoSteps.fn : Fn := ⟨impl_DoSteps.sig, fun k (x : (Int × Int × List (Int × ByteArray × Int) × List (ByteArray × Int) × List (Int × ByteArray × ByteArray × Int)) × List (Int × ByteArray × ByteArray × ByteArray) × Int) => impl_DoSteps.f k x.1 x.2.1 x.2.2⟩
noncomputable def impl_DoSteps.env (k : Nat) : Env := ⟨Tryz.prog, 55, fun t => none, look [(26, impl_DiskOk.fn), (27, impl_copyDisk.fn), (28, impl_DoStep.fn)], k, impl_DoSteps.sig.pin⟩
def impl_DoSteps.ann : Ann := .seq .leaf (.seq (.seq .leaf (.cond (.seq .leaf .leaf) .leaf)) (.seq .leaf (.seq (.seq .leaf (.cond (.seq .leaf .leaf) .leaf)) (.seq (.seq .leaf (.loop [.slot 1 false (.sl 55 (.pair (.int .i64) (.pair .str (.pair .str .str)))) false, .slot 2 false (.int .i64) false, .ptr 6 1001, .slot 7 false (.int .i64) false, .slot 8 false (.int .i64) false, .ptr 9 4002, .slot 10 false (.int .i64) false, .box 1001 34 (.pair (.int .i64) (.pair (.int .i64) (.pair (.sl 79 (.pair (.int .i64) (.pair .str (.int .i64)))) (.pair (.sl 82 (.pair .str (.int .i64))) (.sl 84 (.pair (.int .i64) (.pair .str (.pair .str (.int .i64))))))))) true false, .box 4002 34 (.pair (.int .i64) (.pair (.int .i64) (.pair (.sl 79 (.pair (.int .i64) (.pair .str (.int .i64)))) (.pair (.sl 82 (.pair .str (.int .i64))) (.sl 84 (.pair (.int .i64) (.pair .str (.pair .str (.int .i64))))))))) true false] [.slot 1 false (.sl 55 (.pair (.int .i64) (.pair .str (.pair .str .str)))) false, .slot 2 false (.int .i64) false, .ptr 6 1001, .slot 7 false (.int .i64) false, .slot 8 false (.int .i64) false, .ptr 9 4002, .box 1001 34 (.pair (.int .i64) (.pair (.int .i64) (.pair (.sl 79 (.pair (.int .i64) (.pair .str (.int .i64)))) (.pair (.sl 82 (.pair .str (.int .i64))) (.sl 84 (.pair (.int .i64) (.pair .str (.pair .str (.int .i64))))))))) true false, .box 4002 34 (.pair (.int .i64) (.pair (.int .i64) (.pair (.sl 79 (.pair (.int .i64) (.pair .str (.int .i64)))) (.pair (.sl 82 (.pair .str (.int .i64))) (.sl 84 (.pair (.int .i64) (.pair .str (.pair .str (.int .i64))))))))) true false] (.seq (.seq .leaf (.cond .leaf .leaf)) (.seq (.blk (.seq .leaf (.seq (.seq .leaf (.cond (.seq .leaf .leaf) .leaf)) .leaf))) .leaf)))) (.seq .leaf .leaf)))))
theorem impl_DoSteps.ok (k : Nat) : FnOk Tryz.prog k 9 impl_DoSteps.fn :=
  fnOk_of (E := impl_DoSteps.env k) (ann := impl_DoSteps.ann) (look_cons (impl_DiskOk.ok k) (look_cons (impl_copyDisk.ok k) (look_cons (impl_DoStep.ok k) (look_nil)))) (by kernel_rfl) Tryz.func9 (by kernel_rfl) (by kernel_rfl) (by kernel_rfl) (of_decide_eq_true (by kernel_rfl)) (of_decide_eq_true (by kernel_rfl)) (fun _ h => h) (fun x => by kernel_rfl)

/-! loop.example/g00358/laws.eqInode -/
def laws_eqInode.f (k : Nat) (a0 : Int × ByteArray × Int) (a1 : Int × ByteArray × Int) : Option Bool :=
  bif (!decide (a0.1 = a1.1)) then (some false) else (bif (!decide (a0.2.1 = a1.2.1)) then (some false) else (bif (!decide (a0.2.2 = a1.2.2)) then (some false) else (some true)))

def laws_eqInode.sig : Sig := ⟨[.val true (.pair (.int .i64) (.pair .str (.int .i64))), .val true (.pair (.int .i64) (.pair .str (.int .i64)))], [⟨false, .bool, true⟩]⟩
def laws_eqInode.fn : Fn := ⟨laws_eqInode.sig, fun k (x : (Int × ByteArray × Int) × Int × ByteArray × Int) => laws_eqInode.f k x.1 x.2⟩
noncomputable def laws_eqInode.env (k : Nat) : Env := ⟨Tryz.prog, 20, fun t => none, look [], k, laws_eqInode.sig.pin⟩
def laws_eqInode.ann : Ann := .seq .leaf (.seq (.seq .leaf (.cond (.seq .leaf .leaf) .leaf)) (.seq (.seq .leaf (.cond (.seq .leaf .leaf) .leaf)) (.seq (.seq .leaf (.cond (.seq .leaf .leaf) .leaf)) (.seq .leaf .leaf))))
theorem laws_eqInode.ok (k : Nat) : FnOk Tryz.prog k 69 laws_eqInode.fn :=
  fnOk_of (E := laws_eqInode.env k) (ann := laws_eqInode.ann) (look_nil) (by kernel_rfl) Tryz.func69 (by kernel_rfl) (by kernel_rfl) (by kernel_rfl) (of_decide_eq_true (by kernel_rfl)) (of_decide_eq_true (by kernel_rfl)) (fun _ h => h) (fun x => by kernel_rfl)

/-! loop.example/g00358/laws.eqInodeS -/
def laws_eqInodeS.b0 (k : Nat) (s : List (Int × ByteArray × Int) × List (Int × ByteArray × Int) × Bool × Int) : Option ((List (Int × ByteArray × Int) × List (Int × ByteArray × Int) × Bool × Int) ⊕ Bool ⊕ Bool) :=
  bif (decide (s.2.2.2 < (s.1.length : Int))) then ((inb? s.1.length s.2.2.2).bind fun j1 => (s.1[j1]?).bind fun y2 => (inb? s.2.1.length s.2.2.2).bind fun j3 => (s.2.1[j3]?).bind fun y4 => (laws_eqInode.f k y2 y4).bind fun r5 => bif (!r5) then (some (.inr (.inr false))) else (some (.inl (s.1, s.2.1, s.2.2.1, IntKind.wrap .i64 (s.2.2.2 + 1))))) else (some (.inr (.inl s.2.2.1)))

def laws_eqInodeS.d0 (k : Nat) (y : Bool) : Option Bool :=
  some true

def laws_eqInodeS.f (k : Nat) (a0 : List (Int × ByteArray × Int)) (a1 : List (Int × ByteArray × Int)) : Option Bool :=
  bif (!decide ((a0.length : Int) = (a1.length : Int))) then (some false) else ((iter (X := Bool ⊕ Bool) (laws_eqInodeS.b0 k) k (a0, a1, false, 0)).bind fun r => match r with | .inl y => laws_eqInodeS.d0 k y | .inr o => some o)

def laws_eqInodeS.sig : Sig := ⟨[.val false (.sl 79 (.pair (.int .i64) (.pair .str (.int .i64)))), .val false (.sl 79 (.pair (.int .i64) (.pair .str (.int .i64))))], [⟨false, .bool, true⟩]⟩
def laws_eqInodeS.fn : Fn := ⟨laws_eqInodeS.sig, fun k (x : List (Int × ByteArray × Int) × List (Int × ByteArray × Int)) => laws_eqInodeS.f k x.1 x.2⟩
noncomputable def laws_eqInodeS.env (k : Nat) : Env := ⟨Tryz.prog, 27, fun t => none, look [(69, laws_eqInode.fn)], k, laws_eqInodeS.sig.pin⟩
def laws_eqInodeS.ann : Ann := .seq .leaf (.seq (.seq .leaf (.cond (.seq .leaf .leaf) .leaf)) (.seq (.seq .leaf (.loop [.slot 0 false (.sl 79 (.pair (.int .i64) (.pair .str (.int .i64)))) false, .slot 1 false (.sl 79 (.pair (.int .i64) (.pair .str (.int .i64)))) false, .slot 4 false .bool false, .slot 5 false (.int .i64) false] [.slot 4 false .bool false] (.seq (.seq .leaf (.cond .leaf .leaf)) (.seq (.blk (.seq .leaf (.cond (.seq .leaf .leaf) .leaf))) .leaf)))) (.seq .leaf .leaf)))
theorem laws_eqInodeS.ok (k : Nat) : FnOk Tryz.prog k 29 laws_eqInodeS.fn :=
  fnOk_of (E := laws_eqInodeS.env k) (ann := laws_eqInodeS.ann) (look_cons (laws_eqInode.ok k) (look_nil)) (by kernel_rfl) Tryz.func29 (by kernel_rfl) (by kernel_rfl) (by kernel_rfl) (of_decide_eq_true (by kernel_rfl)) (of_decide_eq_true (by kernel_rfl)) (fun _ h => h) (fun x => by kernel_rfl)

/-! loop.example/g00358/laws.eqLink -/
def laws_eqLink.f (k : Nat) (a0 : ByteArray × Int) (a1 : ByteArray × Int) : Option Bool :=
  bif (!decide (a0.1 = a1.1)) then (some false) else (bif (!decide (a0.2 = a1.2)) then (some false) else (some true))

def laws_eqLink.sig : Sig := ⟨[.val true (.pair .str (.int .i64)), .val true (.pair .str (.int .i64))], [⟨false, .bool, true⟩]⟩
def laws_eqLink.fn : Fn := ⟨laws_eqLink.sig, fun k (x : (ByteArray × Int) × ByteArray × Int) => laws_eqLink.f k x.1 x.2⟩
noncomputable def laws_eqLink.env (k : Nat) : Env := ⟨Tryz.prog, 15, fun t => none, look [], k, laws_eqLink.sig.pin⟩
def laws_eqLink.ann : Ann := .seq .leaf (.seq (.seq .leaf (.cond (.seq .leaf .leaf) .leaf)) (.seq (.seq .leaf (.cond (.seq .leaf .leaf) .leaf)) (.seq .leaf .leaf)))
theorem laws_eqLink.ok (k : Nat) : FnOk Tryz.prog k 70 laws_eqLink.fn :=
  fnOk_of (E := laws_eqLink.env k) (ann := laws_eqLink.ann) (look_nil) (by kernel_rfl) Tryz.func70 (by kernel_rfl) (by kernel_rfl) (by kernel_rfl) (of_decide_eq_true (by kernel_rfl)) (of_decide_eq_true (by kernel_rfl)) (fun _ h => h) (fun x => by kernel_rfl)

/-! loop.example/g00358/laws.eqLinkS -/
def laws_eqLinkS.b0 (k : Nat) (s : List (ByteArray × Int) × List (ByteArray × Int) × Bool × Int) : Option ((List (ByteArray × Int) × List (ByteArray × Int) × Bool × Int) ⊕ Bool ⊕ Bool) :=
  bif (decide (s.2.2.2 < (s.1.length : Int))) then ((inb? s.1.length s.2.2.2).bind fun j1 => (s.1[j1]?).bind fun y2 => (inb? s.2.1.length s.2.2.2).bind fun j3 => (s.2.1[j3]?).bind fun y4 => (laws_eqLink.f k y2 y4).bind fun r5 => bif (!r5) then (some (.inr (.inr false))) else (some (.inl (s.1, s.2.1, s.2.2.1, IntKind.wrap .i64 (s.2.2.2 + 1))))) else (some (.inr (.inl s.2.2.1)))

def laws_eqLinkS.d0 (k : Nat) (y : Bool) : Option Bool :=
  some true

def laws_eqLinkS.f (k : Nat) (a0 : List (ByteArray × Int)) (a1 : List (ByteArray × Int)) : Option Bool :=
  bif (!decide ((a0.length : Int) = (a1.length : Int))) then (some false) else ((iter (X := Bool ⊕ Bool) (laws_eqLinkS.b0 k) k (a0, a1, false, 0)).bind fun r => match r with | .inl y => laws_eqLinkS.d0 k y | .inr o => some o)

def laws_eqLinkS.sig : Sig := ⟨[.val false (.sl 82 (.pair .str (.int .i64))), .val false (.sl 82 (.pair .str (.int .i64)))], [⟨false, .bool, true⟩]⟩
def laws_eqLinkS.fn : Fn := ⟨laws_eqLinkS.sig, fun k (x : List (ByteArray × Int) × List (ByteArray × Int)) => laws_eqLinkS.f k x.1 x.2⟩
noncomputable def laws_eqLinkS.env (k : Nat) : Env := ⟨Tryz.prog, 27, fun t => none, look [(70, laws_eqLink.fn)], k, laws_eqLinkS.sig.pin⟩
def laws_eqLinkS.ann : Ann := .seq .leaf (.seq (.seq .leaf (.cond (.seq .leaf .leaf) .leaf)) (.seq (.seq .leaf (.loop [.slot 0 false (.sl 82 (.pair .str (.int .i64))) false, .slot 1 false (.sl 82 (.pair .str (.int .i64))) false, .slot 4 false .bool false, .slot 5 false (.int .i64) false] [.slot 4 false .bool false] (.seq (.seq .leaf (.cond .leaf .leaf)) (.seq (.blk (.seq .leaf (.cond (.seq .leaf .leaf) .leaf))) .leaf)))) (.seq .leaf .leaf)))
theorem laws_eqLinkS.ok (k : Nat) : FnOk Tryz.prog k 30 laws_eqLinkS.fn :=
  fnOk_of (E := laws_eqLinkS.env k) (ann := laws_eqLinkS.ann) (look_cons (laws_eqLink.ok k) (look_nil)) (by kernel_rfl) Tryz.func30 (by kernel_rfl) (by kernel_rfl) (by kernel_rfl) (of_decide_eq_true (by kernel_rfl)) (of_decide_eq_true (by kernel_rfl)) (fun _ h => h) (fun x => by kernel_rfl)

/-! loop.example/g00358/laws.eqMove -/
def laws_eqMove.f (k : Nat) (a0 : Int × ByteArray × ByteArray × Int) (a1 : Int × ByteArray × ByteArray × Int) : Option Bool :=
  bif (!decide (a0.1 = a1.1)) then (some false) else (bif (!decide (a0.2.1 = a1.2.1)) then (some false) else (bif (!decide (a0.2.2.1 = a1.2.2.1)) then (some false) else (bif (!decide (a0.2.2.2 = a1.2.2.2)) then (some false) else (some true))))

def laws_eqMove.sig : Sig := ⟨[.val true (.pair (.int .i64) (.pair .str (.pair .str (.int .i64)))), .val true (.pair (.int .i64) (.pair .str (.pair .str (.int .i64))))], [⟨false, .bool, true⟩]⟩
def laws_eqMove.fn : Fn := ⟨laws_eqMove.sig, fun k (x : (Int × ByteArray × ByteArray × Int) × Int × ByteArray × ByteArray × Int) => laws_eqMove.f k x.1 x.2⟩
noncomputable def laws_eqMove.env (k : Nat) : Env := ⟨Tryz.prog, 25, fun t => none, look [], k, laws_eqMove.sig.pin⟩
def laws_eqMove.ann : Ann := .seq .leaf (.seq (.seq .leaf (.cond (.seq .leaf .leaf) .leaf)) (.seq (.seq .leaf (.cond (.seq .leaf .leaf) .leaf)) (.seq (.seq .leaf (.cond (.seq .leaf .leaf) .leaf)) (.seq (.seq .leaf (.cond (.seq .leaf .leaf) .leaf)) (.seq .leaf .leaf)))))
theorem laws_eqMove.ok (k : Nat) : FnOk Tryz.prog k 71 laws_eqMove.fn :=
  fnOk_of (E := laws_eqMove.env k) (ann := laws_eqMove.ann) (look_nil) (by kernel_rfl) Tryz.func71 (by kernel_rfl) (by kernel_rfl) (by kernel_rfl) (of_decide_eq_true (by kernel_rfl)) (of_decide_eq_true (by kernel_rfl)) (fun _ h => h) (fun x => by kernel_rfl)

/-! loop.example/g00358/laws.eqMoveS -/
def laws_eqMoveS.b0 (k : Nat) (s : List (Int × ByteArray × ByteArray × Int) × List (Int × ByteArray × ByteArray × Int) × Bool × Int) : Option ((List (Int × ByteArray × ByteArray × Int) × List (Int × ByteArray × ByteArray × Int) × Bool × Int) ⊕ Bool ⊕ Bool) :=
  bif (decide (s.2.2.2 < (s.1.length : Int))) then ((inb? s.1.length s.2.2.2).bind fun j1 => (s.1[j1]?).bind fun y2 => (inb? s.2.1.length s.2.2.2).bind fun j3 => (s.2.1[j3]?).bind fun y4 => (laws_eqMove.f k y2 y4).bind fun r5 => bif (!r5) then (some (.inr (.inr false))) else (some (.inl (s.1, s.2.1, s.2.2.1, IntKind.wrap .i64 (s.2.2.2 + 1))))) else (some (.inr (.inl s.2.2.1)))

def laws_eqMoveS.d0 (k : Nat) (y : Bool) : Option Bool :=
  some true

def laws_eqMoveS.f (k : Nat) (a0 : List (Int × ByteArray × ByteArray × Int)) (a1 : List (Int × ByteArray × ByteArray × Int)) : Option Bool :=
  bif (!decide ((a0.length : Int) = (a1.length : Int))) then (some false) else ((iter (X := Bool ⊕ Bool) (laws_eqMoveS.b0 k) k (a0, a1, false, 0)).bind fun r => match r with | .inl y => laws_eqMoveS.d0 k y | .inr o => some o)

def laws_eqMoveS.sig : Sig := ⟨[.val false (.sl 84 (.pair (.int .i64) (.pair .str (.pair .str (.int .i64))))), .val false (.sl 84 (.pair (.int .i64) (.pair .str (.pair .str (.int .i64)))))], [⟨false, .bool, true⟩]⟩
def laws_eqMoveS.fn : Fn := ⟨laws_eqMoveS.sig, fun k (x : List (Int × ByteArray × ByteArray × Int) × List (Int × ByteArray × ByteArray × Int)) => laws_eqMoveS.f k x.1 x.2⟩
noncomputable def laws_eqMoveS.env (k : Nat) : Env := ⟨Tryz.prog, 27, fun t => none, look [(71, laws_eqMove.fn)], k, laws_eqMoveS.sig.pin⟩
def laws_eqMoveS.ann : Ann := .seq .leaf (.seq (.seq .leaf (.cond (.seq .leaf .leaf) .leaf)) (.seq (.seq .leaf (.loop [.slot 0 false (.sl 84 (.pair (.int .i64) (.pair .str (.pair .str (.int .i64))))) false, .slot 1 false (.sl 84 (.pair (.int .i64) (.pair .str (.pair .str (.int .i64))))) false, .slot 4 false .bool false, .slot 5 false (.int .i64) false] [.slot 4 false .bool false] (.seq (.seq .leaf (.cond .leaf .leaf)) (.seq (.blk (.seq .leaf (.cond (.seq .leaf .leaf) .leaf))) .leaf)))) (.seq .leaf .leaf)))
theorem laws_eqMoveS.ok (k : Nat) : FnOk Tryz.prog k 31 laws_eqMoveS.fn :=
  fnOk_of (E := laws_eqMoveS.env k) (ann := laws_eqMoveS.ann) (look_cons (laws_eqMove.ok k) (look_nil)) (by kernel_rfl) Tryz.func31 (by kernel_rfl) (by kernel_rfl) (by kernel_rfl) (of_decide_eq_true (by kernel_rfl)) (of_decide_eq_true (by kernel_rfl)) (fun _ h => h) (fun x => by kernel_rfl)

/-! loop.example/g00358/laws.eqDisk -/
def laws_eqDisk.f (k : Nat) (a0 : Int × Int × List (Int × ByteArray × Int) × List (ByteArray × Int) × List (Int × ByteArray × ByteArray × Int)) (a1 : Int × Int × List (Int × ByteArray × Int) × List (ByteArray × Int) × List (Int × ByteArray × ByteArray × Int)) : Option Bool :=
  bif (!decide (a0.1 = a1.1)) then (some false) else (bif (!decide (a0.2.1 = a1.2.1)) then (some false) else ((laws_eqInodeS.f k a0.2.2.1 a1.2.2.1).bind fun r1 => bif (!r1) then (some false) else ((laws_eqLinkS.f k a0.2.2.2.1 a1.2.2.2.1).bind fun r2 => bif (!r2) then (some false) else ((laws_eqMoveS.f k a0.2.2.2.2 a1.2.2.2.2).bind fun r3 => bif (!r3) then (some false) else (some true)))))

def laws_eqDisk.sig : Sig := ⟨[.val true (.pair (.int .i64) (.pair (.int .i64) (.pair (.sl 79 (.pair (.int .i64) (.pair .str (.int .i64)))) (.pair (.sl 82 (.pair .str (.int .i64))) (.sl 84 (.pair (.int .i64) (.pair .str (.pair .str (.int .i64))))))))), .val true (.pair (.int .i64) (.pair (.int .i64) (.pair (.sl 79 (.pair (.int .i64) (.pair .str (.int .i64)))) (.pair (.sl 82 (.pair .str (.int .i64))) (.sl 84 (.pair (.int .i64) (.pair .str (.pair .str (.int .i64)))))))))], [⟨false, .bool, true⟩]⟩
def laws_eqDisk.fn : Fn := ⟨laws_eqDisk.sig, fun k (x : (Int × Int × List (Int × ByteArray × Int) × List (ByteArray × Int) × List (Int × ByteArray × ByteArray × Int)) × Int × Int × List (Int × ByteArray × Int) × List (ByteArray × Int) × List (Int × ByteArray × ByteArray × Int)) => laws_eqDisk.f k x.1 x.2⟩
noncomputable def laws_eqDisk.env (k : Nat) : Env := ⟨Tryz.prog, 33, fun t => none, look [(29, laws_eqInodeS.fn), (30, laws_eqLinkS.fn), (31, laws_eqMoveS.fn)], k, laws_eqDisk.sig.pin⟩
def laws_eqDisk.ann : Ann := .seq .leaf (.seq (.seq .leaf (.cond (.seq .leaf .leaf) .leaf)) (.seq (.seq .leaf (.cond (.seq .leaf .leaf) .leaf)) (.seq (.seq .leaf (.cond (.seq .leaf .leaf) .leaf)) (.seq (.seq .leaf (.cond (.seq .leaf .leaf) .leaf)) (.seq (.seq .leaf (.cond (.seq .leaf .leaf) .leaf)) (.seq .leaf .leaf))))))
theorem laws_eqDisk.ok (k : Nat) : FnOk Tryz.prog k 10 laws_eqDisk.fn :=
  fnOk_of (E := laws_eqDisk.env k) (ann := laws_eqDisk.ann) (look_cons (laws_eqInodeS.ok k) (look_cons (laws_eqLinkS.ok k) (look_cons (laws_eqMoveS.ok k) (look_nil)))) (by kernel_rfl) Tryz.func10 (by kernel_rfl) (by kernel_rfl) (by kernel_rfl) (of_decide_eq_true (by kernel_rfl)) (of_decide_eq_true (by kernel_rfl)) (fun _ h => h) (fun x => by kernel_rfl)

/-! loop.example/g00358/laws.eqStep -/
def laws_eqStep.f (k : Nat) (a0 : Int × ByteArray × ByteArray × ByteArray) (a1 : Int × ByteArray × ByteArray × ByteArray) : Option Bool :=
  bif (!decide (a0.1 = a1.1)) then (some false) else (bif (!decide (a0.2.1 = a1.2.1)) then (some false) else (bif (!decide (a0.2.2.1 = a1.2.2.1)) then (some false) else (bif (!decide (a0.2.2.2 = a1.2.2.2)) then (some false) else (some true))))

def laws_eqStep.sig : Sig := ⟨[.val true (.pair (.int .i64) (.pair .str (.pair .str .str))), .val true (.pair (.int .i64) (.pair .str (.pair .str .str)))], [⟨false, .bool, true⟩]⟩
def laws_eqStep.fn : Fn := ⟨laws_eqStep.sig, fun k (x : (Int × ByteArray × ByteArray × ByteArray) × Int × ByteArray × ByteArray × ByteArray) => laws_eqStep.f k x.1 x.2⟩
noncomputable def laws_eqStep.env (k : Nat) : Env := ⟨Tryz.prog, 25, fun t => none, look [], k, laws_eqStep.sig.pin⟩
def laws_eqStep.ann : Ann := .seq .leaf (.seq (.seq .leaf (.cond (.seq .leaf .leaf) .leaf)) (.seq (.seq .leaf (.cond (.seq .leaf .leaf) .leaf)) (.seq (.seq .leaf (.cond (.seq .leaf .leaf) .leaf)) (.seq (.seq .leaf (.cond (.seq .leaf .leaf) .leaf)) (.seq .leaf .leaf)))))
theorem laws_eqStep.ok (k : Nat) : FnOk Tryz.prog k 32 laws_eqStep.fn :=
  fnOk_of (E := laws_eqStep.env k) (ann := laws_eqStep.ann) (look_nil) (by kernel_rfl) Tryz.func32 (by kernel_rfl) (by kernel_rfl) (by kernel_rfl) (of_decide_eq_true (by kernel_rfl)) (of_decide_eq_true (by kernel_rfl)) (fun _ h => h) (fun x => by kernel_rfl)

/-! loop.example/g00358/laws.eqStepS -/
def laws_eqStepS.b0 (k : Nat) (s : List (Int × ByteArray × ByteArray × ByteArray) × List (Int × ByteArray × ByteArray × ByteArray) × Bool × Int) : Option ((List (Int × ByteArray × ByteArray × ByteArray) × List (Int × ByteArray × ByteArray × ByteArray) × Bool × Int) ⊕ Bool ⊕ Bool) :=
  bif (decide (s.2.2.2 < (s.1.length : Int))) then ((inb? s.1.length s.2.2.2).bind fun j1 => (s.1[j1]?).bind fun y2 => (inb? s.2.1.length s.2.2.2).bind fun j3 => (s.2.1[j3]?).bind fun y4 => (laws_eqStep.f k y2 y4).bind fun r5 => bif (!r5) then (some (.inr (.inr false))) else (some (.inl (s.1, s.2.1, s.2.2.1, IntKind.wrap .i64 (s.2.2.2 + 1))))) else (some (.inr (.inl s.2.2.1)))

def laws_eqStepS.d0 (k : Nat) (y : Bool) : Option Bool :=
  some true

def laws_eqStepS.f (k : Nat) (a0 : List (Int × ByteArray × ByteArray × ByteArray)) (a1 : List (Int × ByteArray × ByteArray × ByteArray)) : Option Bool :=
  bif (!decide ((a0.length : Int) = (a1.length : Int))) then (some false) else ((iter (X := Bool ⊕ Bool) (laws_eqStepS.b0 k) k (a0, a1, false, 0)).bind fun r => match r with | .inl y => laws_eqStepS.d0 k y | .inr o => some o)

def laws_eqStepS.sig : Sig := ⟨[.val false (.sl 55 (.pair (.int .i64) (.pair .str (.pair .str .str)))), .val false (.sl 55 (.pair (.int .i64) (.pair .str (.pair .str .str))))], [⟨false, .bool, true⟩]⟩
def laws_eqStepS.fn : Fn := ⟨laws_eqStepS.sig, fun k (x : List (Int × ByteArray × ByteArray × ByteArray) × List (Int × ByteArray × ByteArray × ByteArray)) => laws_eqStepS.f k x.1 x.2⟩
noncomputable def laws_eqStepS.env (k : Nat) : Env := ⟨Tryz.prog, 27, fun t => none, look [(32, laws_eqStep.fn)], k, laws_eqStepS.sig.pin⟩
def laws_eqStepS.ann : Ann := .seq .leaf (.seq (.seq .leaf (.cond (.seq .leaf .leaf) .leaf)) (.seq (.seq .leaf (.loop [.slot 0 false (.sl 55 (.pair (.int .i64) (.pair .str (.pair .str .str)))) false, .slot 1 false (.sl 55 (.pair (.int .i64) (.pair .str (.pair .str .str)))) false, .slot 4 false .bool false, .slot 5 false (.int .i64) false] [.slot 4 false .bool false] (.seq (.seq .leaf (.cond .leaf .leaf)) (.seq (.blk (.seq .leaf (.cond (.seq .leaf .leaf) .leaf))) .leaf)))) (.seq .leaf .leaf)))
theorem laws_eqStepS.ok (k : Nat) : FnOk Tryz.prog k 11 laws_eqStepS.fn :=
  fnOk_of (E := laws_eqStepS.env k) (ann := laws_eqStepS.ann) (look_cons (laws_eqStep.ok k) (look_nil)) (by kernel_rfl) Tryz.func11 (by kernel_rfl) (by kernel_rfl) (by kernel_rfl) (of_decide_eq_true (by kernel_rfl)) (of_decide_eq_true (by kernel_rfl)) (fun _ h => h) (fun x => by kernel_rfl)

/-! loop.example/g00358/laws.markText -/
def laws_markText.b0 (k : Nat) (s : Int × ByteArray × ByteArray) : Option ((Int × ByteArray × ByteArray) ⊕ (ByteArray × ByteArray) ⊕ ByteArray) :=
  bif (decide (0 < s.1)) then ((cat? (strOfNums ([IntKind.wrap .u8 (IntKind.wrap .i64 (48 + (Int.tmod s.1 10)))])) s.2.2).bind fun s1 => some (.inl (IntKind.wrap .i64 (Int.tdiv s.1 10), s.2.1, s1))) else (some (.inr (.inl s.2)))

def laws_markText.d0 (k : Nat) (y : ByteArray × ByteArray) : Option ByteArray :=
  (cat? (⟨#[109]⟩ : ByteArray) y.2).bind fun s1 => some s1

def laws_markText.f (k : Nat) (a0 : Int) : Option ByteArray :=
  bif (decide (a0 ≤ 0)) then (some (⟨#[109, 48]⟩ : ByteArray)) else ((iter (X := (ByteArray × ByteArray) ⊕ ByteArray) (laws_markText.b0 k) k (a0, (⟨#[]⟩ : ByteArray), (⟨#[]⟩ : ByteArray))).bind fun r => match r with | .inl y => laws_markText.d0 k y | .inr o => some o)

def laws_markText.sig : Sig := ⟨[.val false (.int .i64)], [⟨false, .str, true⟩]⟩
def laws_markText.fn : Fn := ⟨laws_markText.sig, fun k (x : Int) => laws_markText.f k x⟩
noncomputable def laws_markText.env (k : Nat) : Env := ⟨Tryz.prog, 20, fun t => bif Nat.beq t 5 then some (.int .u8) else none, look [], k, laws_markText.sig.pin⟩
def laws_markText.ann : Ann := .seq .leaf (.seq (.seq .leaf (.cond (.seq .leaf .leaf) .leaf)) (.seq .leaf (.seq (.loop [.slot 0 false (.int .i64) false, .slot 2 false .str false, .slot 3 false .str false] [.slot 2 false .str false, .slot 3 false .str false] (.seq (.seq .leaf (.cond .leaf .leaf)) (.blk (.seq .leaf .leaf)))) (.seq .leaf .leaf))))
theorem laws_markText.ok (k : Nat) : FnOk Tryz.prog k 36 laws_markText.fn :=
  fnOk_of (E := laws_markText.env k) (ann := laws_markText.ann) (look_nil) (by kernel_rfl) Tryz.func36 (by kernel_rfl) (by kernel_rfl) (by kernel_rfl) (of_decide_eq_true (by kernel_rfl)) (of_decide_eq_true (by kernel_rfl)) (fun _ h => h) (fun x => by kernel_rfl)

/-! loop.example/g00358/laws.markInodeS -/
def laws_markInodeS.b0 (k : Nat) (s : List (Int × ByteArray × Int) × Int × Int × Int) : Option ((List (Int × ByteArray × Int) × Int × Int × Int) ⊕ (List (Int × ByteArray × Int) × Int × Int) ⊕ (Int × List (Int × ByteArray × Int))) :=
  bif (decide (s.2.2.2 < (s.1.length : Int))) then ((inb? s.1.length s.2.2.2).bind fun j1 => (s.1[j1]?).bind fun y2 => (laws_markText.f k (IntKind.wrap .i64 (s.2.1 + 1))).bind fun r3 => (inb? (s.1.set j1 (s.2.1, y2.2)).length s.2.2.2).bind fun j4 => ((s.1.set j1 (s.2.1, y2.2))[j4]?).bind fun y5 => (inb? ((s.1.set j1 (s.2.1, y2.2)).set j4 (y5.1, r3, y5.2.2)).length s.2.2.2).bind fun j6 => (((s.1.set j1 (s.2.1, y2.2)).set j4 (y5.1, r3, y5.2.2))[j6]?).bind fun y7 => some (.inl (((s.1.set j1 (s.2.1, y2.2)).set j4 (y5.1, r3, y5.2.2)).set j6 (y7.1, y7.2.1, IntKind.wrap .i64 ((IntKind.wrap .i64 (s.2.1 + 1)) + 1)), IntKind.wrap .i64 ((IntKind.wrap .i64 ((IntKind.wrap .i64 (s.2.1 + 1)) + 1)) + 1), s.2.2.1, IntKind.wrap .i64 (s.2.2.2 + 1)))) else (some (.inr (.inl (s.1, s.2.1, s.2.2.1))))

def laws_markInodeS.d0 (k : Nat) (y : List (Int × ByteArray × Int) × Int × Int) : Option (Int × List (Int × ByteArray × Int)) :=
  some (y.2.1, y.1)

def laws_markInodeS.f (k : Nat) (a0 : List (Int × ByteArray × Int)) (a1 : Int) : Option (Int × List (Int × ByteArray × Int)) :=
  (iter (X := (List (Int × ByteArray × Int) × Int × Int) ⊕ (Int × List (Int × ByteArray × Int))) (laws_markInodeS.b0 k) k (a0, a1, 0, 0)).bind fun r => match r with | .inl y => laws_markInodeS.d0 k y | .inr o => some o

def laws_markInodeS.sig : Sig := ⟨[.lent false (.sl 79 (.pair (.int .i64) (.pair .str (.int .i64)))), .val false (.int .i64)], [⟨false, (.int .i64), true⟩]⟩
def laws_markInodeS.fn : Fn := ⟨laws_markInodeS.sig, fun k (x : List (Int × ByteArray × Int) × Int) => laws_markInodeS.f k x.1 x.2⟩
noncomputable def laws_markInodeS.env (k : Nat) : Env := ⟨Tryz.prog, 35, fun t => none, look [(36, laws_markText.fn)], k, laws_markInodeS.sig.pin⟩
def laws_markInodeS.ann : Ann := .seq .leaf (.seq (.seq .leaf (.loop [.slot 0 false (.sl 79 (.pair (.int .i64) (.pair .str (.int .i64)))) true, .slot 1 false (.int .i64) false, .slot 4 false (.int .i64) false, .slot 5 false (.int .i64) false] [.slot 0 false (.sl 79 (.pair (.int .i64) (.pair .str (.int .i64)))) true, .slot 1 false (.int .i64) false, .slot 4 false (.int .i64) false] (.seq (.seq .leaf (.cond .leaf .leaf)) (.seq (.blk (.seq .leaf (.seq .leaf (.seq .leaf (.seq .leaf (.seq .leaf .leaf)))))) .leaf)))) (.seq .leaf .leaf))
theorem laws_markInodeS.ok (k : Nat) : FnOk Tryz.prog k 33 laws_markInodeS.fn :=
  fnOk_of (E := laws_markInodeS.env k) (ann := laws_markInodeS.ann) (look_cons (laws_markText.ok k) (look_nil)) (by kernel_rfl) Tryz.func33 (by kernel_rfl) (by kernel_rfl) (by kernel_rfl) (of_decide_eq_true (by kernel_rfl)) (of_decide_eq_true (by kernel_rfl)) (fun _ h => h) (fun x => by kernel_rfl)

/-! loop.example/g00358/laws.markLinkS -/
def laws_markLinkS.b0 (k : Nat) (s : List (ByteArray × Int) × Int × Int × Int) : Option ((List (ByteArray × Int) × Int × Int × Int) ⊕ (List (ByteArray × Int) × Int × Int) ⊕ (Int × List (ByteArray × Int))) :=
  bif (decide (s.2.2.2 < (s.1.length : Int))) then ((laws_markText.f k s.2.1).bind fun r1 => (inb? s.1.length s.2.2.2).bind fun j2 => (s.1[j2]?).bind fun y3 => (inb? (s.1.set j2 (r1, y3.2)).length s.2.2.2).bind fun j4 => ((s.1.set j2 (r1, y3.2))[j4]?).bind fun y5 => some (.inl ((s.1.set j2 (r1, y3.2)).set j4 (y5.1, IntKind.wrap .i64 (s.2.1 + 1)), IntKind.wrap .i64 ((IntKind.wrap .i64 (s.2.1 + 1)) + 1), s.2.2.1, IntKind.wrap .i64 (s.2.2.2 + 1)))) else (some (.inr (.inl (s.1, s.2.1, s.2.2.1))))

def laws_markLinkS.d0 (k : Nat) (y : List (ByteArray × Int) × Int × Int) : Option (Int × List (ByteArray × Int)) :=
  some (y.2.1, y.1)

def laws_markLinkS.f (k : Nat) (a0 : List (ByteArray × Int)) (a1 : Int) : Option (Int × List (ByteArray × Int)) :=
  (iter (X := (List (ByteArray × Int) × Int × Int) ⊕ (Int × List (ByteArray × Int))) (laws_markLinkS.b0 k) k (a0, a1, 0, 0)).bind fun r => match r with | .inl y => laws_markLinkS.d0 k y | .inr o => some o

def laws_markLinkS.sig : Sig := ⟨[.lent false (.sl 82 (.pair .str (.int .i64))), .val false (.int .i64)], [⟨false, (.int .i64), true⟩]⟩
def laws_markLinkS.fn : Fn := ⟨laws_markLinkS.sig, fun k (x : List (ByteArray × Int) × Int) => laws_markLinkS.f k x.1 x.2⟩
noncomputable def laws_markLinkS.env (k : Nat) : Env := ⟨Tryz.prog, 28, fun t => none, look [(36, laws_markText.fn)], k, laws_markLinkS.sig.pin⟩
def laws_markLinkS.ann : Ann := .seq .leaf (.seq (.seq .leaf (.loop [.slot 0 false (.sl 82 (.pair .str (.int .i64))) true, .slot 1 false (.int .i64) false, .slot 4 false (.int .i64) false, .slot 5 false (.int .i64) false] [.slot 0 false (.sl 82 (.pair .str (.int .i64))) true, .slot 1 false (.int .i64) false, .slot 4 false (.int .i64) false] (.seq (.seq .leaf (.cond .leaf .leaf)) (.seq (.blk (.seq .leaf (.seq .leaf (.seq .leaf .leaf)))) .leaf)))) (.seq .leaf .leaf))
theorem laws_markLinkS.ok (k : Nat) : FnOk Tryz.prog k 34 laws_markLinkS.fn :=
  fnOk_of (E := laws_markLinkS.env k) (ann := laws_markLinkS.ann) (look_cons (laws_markText.ok k) (look_nil)) (by kernel_rfl) Tryz.func34 (by kernel_rfl) (by kernel_rfl) (by kernel_rfl) (of_decide_eq_true (by kernel_rfl)) (of_decide_eq_true (by kernel_rfl)) (fun _ h => h) (fun x => by kernel_rfl)

/-! loop.example/g00358/laws.markMoveS -/
def laws_markMoveS.b0 (k : Nat) (s : List (Int × ByteArray × ByteArray × Int) × Int × Int × Int) : Option ((List (Int × ByteArray × ByteArray × Int) × Int × Int × Int) ⊕ (List (Int × ByteArray × ByteArray × Int) × Int × Int) ⊕ (Int × List (Int × ByteArray × ByteArray × Int))) :=
  bif (decide (s.2.2.2 < (s.1.length : Int))) then ((inb? s.1.length s.2.2.2).bind fun j1 => (s.1[j1]?).bind fun y2 => (laws_markText.f k (IntKind.wrap .i64 (s.2.1 + 1))).bind fun r3 => (inb? (s.1.set j1 (s.2.1, y2.2)).length s.2.2.2).bind fun j4 => ((s.1.set j1 (s.2.1, y2.2))[j4]?).bind fun y5 => (laws_markText.f k (IntKind.wrap .i64 ((IntKind.wrap .i64 (s.2.1 + 1)) + 1))).bind fun r6 => (inb? ((s.1.set j1 (s.2.1, y2.2)).set j4 (y5.1, r3, y5.2.2)).length s.2.2.2).bind fun j7 => (((s.1.set j1 (s.2.1, y2.2)).set j4 (y5.1, r3, y5.2.2))[j7]?).bind fun y8 => (inb? (((s.1.set j1 (s.2.1, y2.2)).set j4 (y5.1, r3, y5.2.2)).set j7 (y8.1, y8.2.1, r6, y8.2.2.2)).length s.2.2.2).bind fun j9 => ((((s.1.set j1 (s.2.1, y2.2)).set j4 (y5.1, r3, y5.2.2)).set j7 (y8.1, y8.2.1, r6, y8.2.2.2))[j9]?).bind fun y10 => some (.inl ((((s.1.set j1 (s.2.1, y2.2)).set j4 (y5.1, r3, y5.2.2)).set j7 (y8.1, y8.2.1, r6, y8.2.2.2)).set j9 (y10.1, y10.2.1, y10.2.2.1, IntKind.wrap .i64 ((IntKind.wrap .i64 ((IntKind.wrap .i64 (s.2.1 + 1)) + 1)) + 1)), IntKind.wrap .i64 ((IntKind.wrap .i64 ((IntKind.wrap .i64 ((IntKind.wrap .i64 (s.2.1 + 1)) + 1)) + 1)) + 1), s.2.2.1, IntKind.wrap .i64 (s.2.2.2 + 1)))) else (some (.inr (.inl (s.1, s.2.1, s.2.2.1))))

def laws_markMoveS.d0 (k : Nat) (y : List (Int × ByteArray × ByteArray × Int) × Int × Int) : Option (Int × List (Int × ByteArray × ByteArray × Int)) :=
  some (y.2.1, y.1)

def laws_markMoveS.f (k : Nat) (a0 : List (Int × ByteArray × ByteArray × Int)) (a1 : Int) : Option (Int × List (Int × ByteArray × ByteArray × Int)) :=
  (iter (X := (List (Int × ByteArray × ByteArray × Int) × Int × Int) ⊕ (Int × List (Int × ByteArray × ByteArray × Int))) (laws_markMoveS.b0 k) k (a0, a1, 0, 0)).bind fun r => match r with | .inl y => laws_markMoveS.d0 k y | .inr o => some o

def laws_markMoveS.sig : Sig := ⟨[.lent false (.sl 84 (.pair (.int .i64) (.pair .str (.pair .str (.int .i64))))), .val false (.int .i64)], [⟨false, (.int .i64), true⟩]⟩
def laws_markMoveS.fn : Fn := ⟨laws_markMoveS.sig, fun k (x : List (Int × ByteArray × ByteArray × Int) × Int) => laws_markMoveS.f k x.1 x.2⟩
noncomputable def laws_markMoveS.env (k : Nat) : Env := ⟨Tryz.prog, 43, fun t => none, look [(36, laws_markText.fn)], k, laws_markMoveS.sig.pin⟩
def laws_markMoveS.ann : Ann := .seq .leaf (.seq (.seq .leaf (.loop [.slot 0 false (.sl 84 (.pair (.int .i64) (.pair .str (.pair .str (.int .i64))))) true, .slot 1 false (.int .i64) false, .slot 4 false (.int .i64) false, .slot 5 false (.int .i64) false] [.slot 0 false (.sl 84 (.pair (.int .i64) (.pair .str (.pair .str (.int .i64))))) true, .slot 1 false (.int .i64) false, .slot 4 false (.int .i64) false] (.seq (.seq .leaf (.cond .leaf .leaf)) (.seq (.blk (.seq .leaf (.seq .leaf (.seq .leaf (.seq .leaf (.seq .leaf (.seq .leaf (.seq .leaf .leaf)))))))) .leaf)))) (.seq .leaf .leaf))
theorem laws_markMoveS.ok (k : Nat) : FnOk Tryz.prog k 35 laws_markMoveS.fn :=
  fnOk_of (E := laws_markMoveS.env k) (ann := laws_markMoveS.ann) (look_cons (laws_markText.ok k) (look_nil)) (by kernel_rfl) Tryz.func35 (by kernel_rfl) (by kernel_rfl) (by kernel_rfl) (of_decide_eq_true (by kernel_rfl)) (of_decide_eq_true (by kernel_rfl)) (fun _ h => h) (fun x => by kernel_rfl)

/-! loop.example/g00358/laws.markDisk -/
def laws_markDisk.f (k : Nat) (a0 : Int × Int × List (Int × ByteArray × Int) × List (ByteArray × Int) × List (Int × ByteArray × ByteArray × Int)) (a1 : Int) : Option (Int × Int × Int × List (Int × ByteArray × Int) × List (ByteArray × Int) × List (Int × ByteArray × ByteArray × Int)) :=
  (laws_markInodeS.f k a0.2.2.1 a1).bind fun r1 => (laws_markLinkS.f k a0.2.2.2.1 r1.1).bind fun r2 => (laws_markMoveS.f k a0.2.2.2.2 r2.1).bind fun r3 => some (r3.1, a0.1, a0.2.1, r1.2, r2.2, r3.2)

def laws_markDisk.sig : Sig := ⟨[.lent true (.pair (.int .i64) (.pair (.int .i64) (.pair (.sl 79 (.pair (.int .i64) (.pair .str (.int .i64)))) (.pair (.sl 82 (.pair .str (.int .i64))) (.sl 84 (.pair (.int .i64) (.pair .str (.pair .str (.int .i64))))))))), .val false (.int .i64)], [⟨false, (.int .i64), true⟩]⟩
def laws_markDisk.fn : Fn := ⟨laws_markDisk.sig, fun k (x : (Int × Int × List (Int × ByteArray × Int) × List (ByteArray × Int) × List (Int × ByteArray × ByteArray × Int)) × Int) => laws_markDisk.f k x.1 x.2⟩
noncomputable def laws_markDisk.env (k : Nat) : Env := ⟨Tryz.prog, 18, fun t => none, look [(33, laws_markInodeS.fn), (34, laws_markLinkS.fn), (35, laws_markMoveS.fn)], k, laws_markDisk.sig.pin⟩
def laws_markDisk.ann : Ann := .seq .leaf (.seq .leaf (.seq .leaf (.seq .leaf (.seq .leaf .leaf))))
theorem laws_markDisk.ok (k : Nat) : FnOk Tryz.prog k 12 laws_markDisk.fn :=
  fnOk_of (E := laws_markDisk.env k) (ann := laws_markDisk.ann) (look_cons (laws_markInodeS.ok k) (look_cons (laws_markLinkS.ok k) (look_cons (laws_markMoveS.ok k) (look_nil)))) (by kernel_rfl) Tryz.func12 (by kernel_rfl) (by kernel_rfl) (by kernel_rfl) (of_decide_eq_true (by kernel_rfl)) (of_decide_eq_true (by kernel_rfl)) (fun _ h => h) (fun x => by kernel_rfl)

/-! loop.example/g00358/laws.markStepS -/
def laws_markStepS.b0 (k : Nat) (s : List (Int × ByteArray × ByteArray × ByteArray) × Int × Int × Int) : Option ((List (Int × ByteArray × ByteArray × ByteArray) × Int × Int × Int) ⊕ (List (Int × ByteArray × ByteArray × ByteArray) × Int × Int) ⊕ (Int × List (Int × ByteArray × ByteArray × ByteArray))) :=
  bif (decide (s.2.2.2 < (s.1.length : Int))) then ((inb? s.1.length s.2.2.2).bind fun j1 => (s.1[j1]?).bind fun y2 => (laws_markText.f k (IntKind.wrap .i64 (s.2.1 + 1))).bind fun r3 => (inb? (s.1.set j1 (s.2.1, y2.2)).length s.2.2.2).bind fun j4 => ((s.1.set j1 (s.2.1, y2.2))[j4]?).bind fun y5 => (laws_markText.f k (IntKind.wrap .i64 ((IntKind.wrap .i64 (s.2.1 + 1)) + 1))).bind fun r6 => (inb? ((s.1.set j1 (s.2.1, y2.2)).set j4 (y5.1, r3, y5.2.2)).length s.2.2.2).bind fun j7 => (((s.1.set j1 (s.2.1, y2.2)).set j4 (y5.1, r3, y5.2.2))[j7]?).bind fun y8 => (laws_markText.f k (IntKind.wrap .i64 ((IntKind.wrap .i64 ((IntKind.wrap .i64 (s.2.1 + 1)) + 1)) + 1))).bind fun r9 => (inb? (((s.1.set j1 (s.2.1, y2.2)).set j4 (y5.1, r3, y5.2.2)).set j7 (y8.1, y8.2.1, r6, y8.2.2.2)).length s.2.2.2).bind fun j10 => ((((s.1.set j1 (s.2.1, y2.2)).set j4 (y5.1, r3, y5.2.2)).set j7 (y8.1, y8.2.1, r6, y8.2.2.2))[j10]?).bind fun y11 => some (.inl ((((s.1.set j1 (s.2.1, y2.2)).set j4 (y5.1, r3, y5.2.2)).set j7 (y8.1, y8.2.1, r6, y8.2.2.2)).set j10 (y11.1, y11.2.1, y11.2.2.1, r9), IntKind.wrap .i64 ((IntKind.wrap .i64 ((IntKind.wrap .i64 ((IntKind.wrap .i64 (s.2.1 + 1)) + 1)) + 1)) + 1), s.2.2.1, IntKind.wrap .i64 (s.2.2.2 + 1)))) else (some (.inr (.inl (s.1, s.2.1, s.2.2.1))))

def laws_markStepS.d0 (k : Nat) (y : List (Int × ByteArray × ByteArray × ByteArray) × Int × Int) : Option (Int × List (Int × ByteArray × ByteArray × ByteArray)) :=
  some (y.2.1, y.1)

def laws_markStepS.f (k : Nat) (a0 : List (Int × ByteArray × ByteArray × ByteArray)) (a1 : Int) : Option (Int × List (Int × ByteArray × ByteArray × ByteArray)) :=
  (iter (X := (List (Int × ByteArray × ByteArray × ByteArray) × Int × Int) ⊕ (Int × List (Int × ByteArray × ByteArray × ByteArray))) (laws_markStepS.b0 k) k (a0, a1, 0, 0)).bind fun r => match r with | .inl y => laws_markStepS.d0 k y | .inr o => some o

def laws_markStepS.sig : Sig := ⟨[.lent false (.sl 55 (.pair (.int .i64) (.pair .str (.pair .str .str)))), .val false (.int .i64)], [⟨false, (.int .i64), true⟩]⟩
def laws_markStepS.fn : Fn := ⟨laws_markStepS.sig, fun k (x : List (Int × ByteArray × ByteArray × ByteArray) × Int) => laws_markStepS.f k x.1 x.2⟩
noncomputable def laws_markStepS.env (k : Nat) : Env := ⟨Tryz.prog, 44, fun t => none, look [(36, laws_markText.fn)], k, laws_markStepS.sig.pin⟩
def laws_markStepS.ann : Ann := .seq .leaf (.seq (.seq .leaf (.loop [.slot 0 false (.sl 55 (.pair (.int .i64) (.pair .str (.pair .str .str)))) true, .slot 1 false (.int .i64) false, .slot 4 false (.int .i64) false, .slot 5 false (.int .i64) false] [.slot 0 false (.sl 55 (.pair (.int .i64) (.pair .str (.pair .str .str)))) true, .slot 1 false (.int .i64) false, .slot 4 false (.int .i64) false] (.seq (.seq .leaf (.cond .leaf .leaf)) (.seq (.blk (.seq .leaf (.seq .leaf (.seq .leaf (.seq .leaf (.seq .leaf (.seq .leaf (.seq .leaf .leaf)))))))) .leaf)))) (.seq .leaf .leaf))
theorem laws_markStepS.ok (k : Nat) : FnOk Tryz.prog k 13 laws_markStepS.fn :=
  fnOk_of (E := laws_markStepS.env k) (ann := laws_markStepS.ann) (look_cons (laws_markText.ok k) (look_nil)) (by kernel_rfl) Tryz.func13 (by kernel_rfl) (by kernel_rfl) (by kernel_rfl) (of_decide_eq_true (by kernel_rfl)) (of_decide_eq_true (by kernel_rfl)) (fun _ h => h) (fun x => by kernel_rfl)

/-! loop.example/g00358/laws.heldInodeS -/
def laws_heldInodeS.b0 (k : Nat) (s : List (Int × ByteArray × Int) × Int × Int × Int) : Option ((List (Int × ByteArray × Int) × Int × Int × Int) ⊕ (Int × Int) ⊕ Int) :=
  bif (decide (s.2.2.2 < (s.1.length : Int))) then ((inb? s.1.length s.2.2.2).bind fun j1 => (s.1[j1]?).bind fun y2 => bif (!decide (y2.1 = s.2.1)) then (some (.inr (.inr (-1)))) else ((inb? s.1.length s.2.2.2).bind fun j3 => (s.1[j3]?).bind fun y4 => (laws_markText.f k (IntKind.wrap .i64 (s.2.1 + 1))).bind fun r5 => bif (!decide (y4.2.1 = r5)) then (some (.inr (.inr (-1)))) else ((inb? s.1.length s.2.2.2).bind fun j6 => (s.1[j6]?).bind fun y7 => bif (!decide (y7.2.2 = IntKind.wrap .i64 ((IntKind.wrap .i64 (s.2.1 + 1)) + 1))) then (some (.inr (.inr (-1)))) else (some (.inl (s.1, IntKind.wrap .i64 ((IntKind.wrap .i64 ((IntKind.wrap .i64 (s.2.1 + 1)) + 1)) + 1), s.2.2.1, IntKind.wrap .i64 (s.2.2.2 + 1))))))) else (some (.inr (.inl (s.2.1, s.2.2.1))))

def laws_heldInodeS.d0 (k : Nat) (y : Int × Int) : Option Int :=
  some y.1

def laws_heldInodeS.f (k : Nat) (a0 : List (Int × ByteArray × Int)) (a1 : Int) : Option Int :=
  (iter (X := (Int × Int) ⊕ Int) (laws_heldInodeS.b0 k) k (a0, a1, 0, 0)).bind fun r => match r with | .inl y => laws_heldInodeS.d0 k y | .inr o => some o

def laws_heldInodeS.sig : Sig := ⟨[.val false (.sl 79 (.pair (.int .i64) (.pair .str (.int .i64)))), .val false (.int .i64)], [⟨false, (.int .i64), true⟩]⟩
def laws_heldInodeS.fn : Fn := ⟨laws_heldInodeS.sig, fun k (x : List (Int × ByteArray × Int) × Int) => laws_heldInodeS.f k x.1 x.2⟩
noncomputable def laws_heldInodeS.env (k : Nat) : Env := ⟨Tryz.prog, 41, fun t => none, look [(36, laws_markText.fn)], k, laws_heldInodeS.sig.pin⟩
def laws_heldInodeS.ann : Ann := .seq .leaf (.seq (.seq .leaf (.loop [.slot 0 false (.sl 79 (.pair (.int .i64) (.pair .str (.int .i64)))) false, .slot 1 false (.int .i64) false, .slot 4 false (.int .i64) false, .slot 5 false (.int .i64) false] [.slot 1 false (.int .i64) false, .slot 4 false (.int .i64) false] (.seq (.seq .leaf (.cond .leaf .leaf)) (.seq (.blk (.seq (.seq .leaf (.cond (.seq .leaf .leaf) .leaf)) (.seq .leaf (.seq (.seq .leaf (.cond (.seq .leaf .leaf) .leaf)) (.seq .leaf (.seq (.seq .leaf (.cond (.seq .leaf .leaf) .leaf)) .leaf)))))) .leaf)))) (.seq .leaf .leaf))
theorem laws_heldInodeS.ok (k : Nat) : FnOk Tryz.prog k 37 laws_heldInodeS.fn :=
  fnOk_of (E := laws_heldInodeS.env k) (ann := laws_heldInodeS.ann) (look_cons (laws_markText.ok k) (look_nil)) (by kernel_rfl) Tryz.func37 (by kernel_rfl) (by kernel_rfl) (by kernel_rfl) (of_decide_eq_true (by kernel_rfl)) (of_decide_eq_true (by kernel_rfl)) (fun _ h => h) (fun x => by kernel_rfl)

/-! loop.example/g00358/laws.heldLinkS -/
def laws_heldLinkS.b0 (k : Nat) (s : List (ByteArray × Int) × Int × Int × Int) : Option ((List (ByteArray × Int) × Int × Int × Int) ⊕ (Int × Int) ⊕ Int) :=
  bif (decide (s.2.2.2 < (s.1.length : Int))) then ((inb? s.1.length s.2.2.2).bind fun j1 => (s.1[j1]?).bind fun y2 => (laws_markText.f k s.2.1).bind fun r3 => bif (!decide (y2.1 = r3)) then (some (.inr (.inr (-1)))) else ((inb? s.1.length s.2.2.2).bind fun j4 => (s.1[j4]?).bind fun y5 => bif (!decide (y5.2 = IntKind.wrap .i64 (s.2.1 + 1))) then (some (.inr (.inr (-1)))) else (some (.inl (s.1, IntKind.wrap .i64 ((IntKind.wrap .i64 (s.2.1 + 1)) + 1), s.2.2.1, IntKind.wrap .i64 (s.2.2.2 + 1)))))) else (some (.inr (.inl (s.2.1, s.2.2.1))))

def laws_heldLinkS.d0 (k : Nat) (y : Int × Int) : Option Int :=
  some y.1

def laws_heldLinkS.f (k : Nat) (a0 : List (ByteArray × Int)) (a1 : Int) : Option Int :=
  (iter (X := (Int × Int) ⊕ Int) (laws_heldLinkS.b0 k) k (a0, a1, 0, 0)).bind fun r => match r with | .inl y => laws_heldLinkS.d0 k y | .inr o => some o

def laws_heldLinkS.sig : Sig := ⟨[.val false (.sl 82 (.pair .str (.int .i64))), .val false (.int .i64)], [⟨false, (.int .i64), true⟩]⟩
def laws_heldLinkS.fn : Fn := ⟨laws_heldLinkS.sig, fun k (x : List (ByteArray × Int) × Int) => laws_heldLinkS.f k x.1 x.2⟩
noncomputable def laws_heldLinkS.env (k : Nat) : Env := ⟨Tryz.prog, 32, fun t => none, look [(36, laws_markText.fn)], k, laws_heldLinkS.sig.pin⟩
def laws_heldLinkS.ann : Ann := .seq .leaf (.seq (.seq .leaf (.loop [.slot 0 false (.sl 82 (.pair .str (.int .i64))) false, .slot 1 false (.int .i64) false, .slot 4 false (.int .i64) false, .slot 5 false (.int .i64) false] [.slot 1 false (.int .i64) false, .slot 4 false (.int .i64) false] (.seq (.seq .leaf (.cond .leaf .leaf)) (.seq (.blk (.seq (.seq .leaf (.cond (.seq .leaf .leaf) .leaf)) (.seq .leaf (.seq (.seq .leaf (.cond (.seq .leaf .leaf) .leaf)) .leaf)))) .leaf)))) (.seq .leaf .leaf))
theorem laws_heldLinkS.ok (k : Nat) : FnOk Tryz.prog k 38 laws_heldLinkS.fn :=
  fnOk_of (E := laws_heldLinkS.env k) (ann := laws_heldLinkS.ann) (look_cons (laws_markText.ok k) (look_nil)) (by kernel_rfl) Tryz.func38 (by kernel_rfl) (by kernel_rfl) (by kernel_rfl) (of_decide_eq_true (by kernel_rfl)) (of_decide_eq_true (by kernel_rfl)) (fun _ h => h) (fun x => by kernel_rfl)

/-! loop.example/g00358/laws.heldMoveS -/
def laws_heldMoveS.b0 (k : Nat) (s : List (Int × ByteArray × ByteArray × Int) × Int × Int × Int) : Option ((List (Int × ByteArray × ByteArray × Int) × Int × Int × Int) ⊕ (Int × Int) ⊕ Int) :=
  bif (decide (s.2.2.2 < (s.1.length : Int))) then ((inb? s.1.length s.2.2.2).bind fun j1 => (s.1[j1]?).bind fun y2 => bif (!decide (y2.1 = s.2.1)) then (some (.inr (.inr (-1)))) else ((inb? s.1.length s.2.2.2).bind fun j3 => (s.1[j3]?).bind fun y4 => (laws_markText.f k (IntKind.wrap .i64 (s.2.1 + 1))).bind fun r5 => bif (!decide (y4.2.1 = r5)) then (some (.inr (.inr (-1)))) else ((inb? s.1.length s.2.2.2).bind fun j6 => (s.1[j6]?).bind fun y7 => (laws_markText.f k (IntKind.wrap .i64 ((IntKind.wrap .i64 (s.2.1 + 1)) + 1))).bind fun r8 => bif (!decide (y7.2.2.1 = r8)) then (some (.inr (.inr (-1)))) else ((inb? s.1.length s.2.2.2).bind fun j9 => (s.1[j9]?).bind fun y10 => bif (!decide (y10.2.2.2 = IntKind.wrap .i64 ((IntKind.wrap .i64 ((IntKind.wrap .i64 (s.2.1 + 1)) + 1)) + 1))) then (some (.inr (.inr (-1)))) else (some (.inl (s.1, IntKind.wrap .i64 ((IntKind.wrap .i64 ((IntKind.wrap .i64 ((IntKind.wrap .i64 (s.2.1 + 1)) + 1)) + 1)) + 1), s.2.2.1, IntKind.wrap .i64 (s.2.2.2 + 1)))))))) else (some (.inr (.inl (s.2.1, s.2.2.1))))

def laws_heldMoveS.d0 (k : Nat) (y : Int × Int) : Option Int :=
  some y.1

def laws_heldMoveS.f (k : Nat) (a0 : List (Int × ByteArray × ByteArray × Int)) (a1 : Int) : Option Int :=
  (iter (X := (Int × Int) ⊕ Int) (laws_heldMoveS.b0 k) k (a0, a1, 0, 0)).bind fun r => match r with | .inl y => laws_heldMoveS.d0 k y | .inr o => some o

def laws_heldMoveS.sig : Sig := ⟨[.val false (.sl 84 (.pair (.int .i64) (.pair .str (.pair .str (.int .i64))))), .val false (.int .i64)], [⟨false, (.int .i64), true⟩]⟩
def laws_heldMoveS.fn : Fn := ⟨laws_heldMoveS.sig, fun k (x : List (Int × ByteArray × ByteArray × Int) × Int) => laws_heldMoveS.f k x.1 x.2⟩
noncomputable def laws_heldMoveS.env (k : Nat) : Env := ⟨Tryz.prog, 51, fun t => none, look [(36, laws_markText.fn)], k, laws_heldMoveS.sig.pin⟩
def laws_heldMoveS.ann : Ann := .seq .leaf (.seq (.seq .leaf (.loop [.slot 0 false (.sl 84 (.pair (.int .i64) (.pair .str (.pair .str (.int .i64))))) false, .slot 1 false (.int .i64) false, .slot 4 false (.int .i64) false, .slot 5 false (.int .i64) false] [.slot 1 false (.int .i64) false, .slot 4 false (.int .i64) false] (.seq (.seq .leaf (.cond .leaf .leaf)) (.seq (.blk (.seq (.seq .leaf (.cond (.seq .leaf .leaf) .leaf)) (.seq .leaf (.seq (.seq .leaf (.cond (.seq .leaf .leaf) .leaf)) (.seq .leaf (.seq (.seq .leaf (.cond (.seq .leaf .leaf) .leaf)) (.seq .leaf (.seq (.seq .leaf (.cond (.seq .leaf .leaf) .leaf)) .leaf)))))))) .leaf)))) (.seq .leaf .leaf))
theorem laws_heldMoveS.ok (k : Nat) : FnOk Tryz.prog k 39 laws_heldMoveS.fn :=
  fnOk_of (E := laws_heldMoveS.env k) (ann := laws_heldMoveS.ann) (look_cons (laws_markText.ok k) (look_nil)) (by kernel_rfl) Tryz.func39 (by kernel_rfl) (by kernel_rfl) (by kernel_rfl) (of_decide_eq_true (by kernel_rfl)) (of_decide_eq_true (by kernel_rfl)) (fun _ h => h) (fun x => by kernel_rfl)

/-! loop.example/g00358/laws.heldDisk -/
def laws_heldDisk.f (k : Nat) (a0 : Int × Int × List (Int × ByteArray × Int) × List (ByteArray × Int) × List (Int × ByteArray × ByteArray × Int)) (a1 : Int) : Option Int :=
  (laws_heldInodeS.f k a0.2.2.1 a1).bind fun r1 => bif (decide (r1 < 0)) then (some (-1)) else ((laws_heldLinkS.f k a0.2.2.2.1 r1).bind fun r2 => bif (decide (r2 < 0)) then (some (-1)) else ((laws_heldMoveS.f k a0.2.2.2.2 r2).bind fun r3 => bif (decide (r3 < 0)) then (some (-1)) else (some r3)))

def laws_heldDisk.sig : Sig := ⟨[.val true (.pair (.int .i64) (.pair (.int .i64) (.pair (.sl 79 (.pair (.int .i64) (.pair .str (.int .i64)))) (.pair (.sl 82 (.pair .str (.int .i64))) (.sl 84 (.pair (.int .i64) (.pair .str (.pair .str (.int .i64))))))))), .val false (.int .i64)], [⟨false, (.int .i64), true⟩]⟩
def laws_heldDisk.fn : Fn := ⟨laws_heldDisk.sig, fun k (x : (Int × Int × List (Int × ByteArray × Int) × List (ByteArray × Int) × List (Int × ByteArray × ByteArray × Int)) × Int) => laws_heldDisk.f k x.1 x.2⟩
noncomputable def laws_heldDisk.env (k : Nat) : Env := ⟨Tryz.prog, 24, fun t => none, look [(37, laws_heldInodeS.fn), (38, laws_heldLinkS.fn), (39, laws_heldMoveS.fn)], k, laws_heldDisk.sig.pin⟩
def laws_heldDisk.ann : Ann := .seq .leaf (.seq .leaf (.seq (.seq .leaf (.cond (.seq .leaf .leaf) .leaf)) (.seq .leaf (.seq (.seq .leaf (.cond (.seq .leaf .leaf) .leaf)) (.seq .leaf (.seq (.seq .leaf (.cond (.seq .leaf .leaf) .leaf)) (.seq .leaf .leaf)))))))
theorem laws_heldDisk.ok (k : Nat) : FnOk Tryz.prog k 14 laws_heldDisk.fn :=
  fnOk_of (E := laws_heldDisk.env k) (ann := laws_heldDisk.ann) (look_cons (laws_heldInodeS.ok k) (look_cons (laws_heldLinkS.ok k) (look_cons (laws_heldMoveS.ok k) (look_nil)))) (by kernel_rfl) Tryz.func14 (by kernel_rfl) (by kernel_rfl) (by kernel_rfl) (of_decide_eq_true (by kernel_rfl)) (of_decide_eq_true (by kernel_rfl)) (fun _ h => h) (fun x => by kernel_rfl)

/-! loop.example/g00358/laws.FnExactDoSteps -/
def laws_FnExactDoSteps.f (k : Nat) (a0 : Int × Int × List (Int × ByteArray × Int) × List (ByteArray × Int) × List (Int × ByteArray × ByteArray × Int)) (a1 : List (Int × ByteArray × ByteArray × ByteArray)) (a2 : Int) : Option Bool :=
  (laws_szDisk.f k a0 1048576).bind fun r1 => bif (decide (r1 < 0)) then (some true) else ((laws_szStepS.f k a1 r1).bind fun r2 => bif (decide (r2 < 0)) then (some true) else ((laws_toDisk.f k a0).bind fun r3 => (laws_toStepS.f k a1).bind fun r4 => (spec_DoSteps.f k r3 r4 a2).bind fun r5 => (laws_toDisk.f k a0).bind fun r6 => (laws_toStepS.f k a1).bind fun r7 => (impl_DoSteps.f k r6 r7 a2).bind fun r8 => (laws_eqDisk.f k r8.1 r5.1).bind fun r9 => bif (!r9) then (some false) else (bif (!decide (r8.2.1 = r5.2.1)) then (some false) else (bif (!decide (r8.2.2 = r5.2.2)) then (some false) else ((laws_toDisk.f k a0).bind fun r10 => (laws_eqDisk.f k r6 r10).bind fun r11 => bif (!r11) then (some false) else ((laws_toStepS.f k a1).bind fun r12 => (laws_eqStepS.f k r7 r12).bind fun r13 => bif (!r13) then (some false) else ((laws_markDisk.f k r6 1).bind fun r14 => (laws_markStepS.f k r7 r14.1).bind fun r15 => bif (decide (r15.1 < 0)) then (some false) else ((laws_eqDisk.f k r8.1 r5.1).bind fun r16 => bif (!r16) then (some false) else (bif (!decide (r8.2.1 = r5.2.1)) then (some false) else (bif (!decide (r8.2.2 = r5.2.2)) then (some false) else ((laws_markDisk.f k r8.1 1).bind fun r17 => (laws_heldDisk.f k (r8.1.1, r8.1.2.1, r17.2.2.2) 1).bind fun r18 => bif (decide (r18 < 0)) then (some false) else (bif (!decide (r18 = r17.1)) then (some false) else ((laws_toDisk.f k a0).bind fun r19 => (laws_toStepS.f k a1).bind fun r20 => (impl_DoSteps.f k r19 r20 a2).bind fun r21 => (laws_eqDisk.f k r21.1 r5.1).bind fun r22 => bif (!r22) then (some false) else (bif (!decide (r21.2.1 = r5.2.1)) then (some false) else (bif (!decide (r21.2.2 = r5.2.2)) then (some false) else ((laws_heldDisk.f k (r8.1.1, r8.1.2.1, r17.2.2.2) 1).bind fun r23 => bif (decide (r23 < 0)) then (some false) else (bif (!decide (r23 = r17.1)) then (some false) else (some true))))))))))))))))))

def laws_FnExactDoSteps.sig : Sig := ⟨[.val true (.pair (.int .i64) (.pair (.int .i64) (.pair (.sl 70 (.pair (.int .i64) (.pair .str (.int .i64)))) (.pair (.sl 73 (.pair .str (.int .i64))) (.sl 76 (.pair (.int .i64) (.pair .str (.pair .str (.int .i64))))))))), .val false (.sl 50 (.pair (.int .i64) (.pair .str (.pair .str .str)))), .val false (.int .i64)], [⟨false, .bool, true⟩]⟩
def laws_FnExactDoSteps.fn : Fn := ⟨laws_FnExactDoSteps.sig, fun k (x : (Int × Int × List (Int × ByteArray × Int) × List (ByteArray × Int) × List (Int × ByteArray × ByteArray × Int)) × List (Int × ByteArray × ByteArray × ByteArray) × Int) => laws_FnExactDoSteps.f k x.1 x.2.1 x.2.2⟩
noncomputable def laws_FnExactDoSteps.env (k : Nat) : Env := ⟨Tryz.prog, 145, fun t => none, look [(4, laws_szDisk.fn), (5, laws_szStepS.fn), (7, laws_toDisk.fn), (8, laws_toStepS.fn), (6, spec_DoSteps.fn), (9, impl_DoSteps.fn), (10, laws_eqDisk.fn), (11, laws_eqStepS.fn), (12, laws_markDisk.fn), (13, laws_markStepS.fn), (14, laws_heldDisk.fn)], k, laws_FnExactDoSteps.sig.pin⟩
def laws_FnExactDoSteps.ann : Ann := .seq .leaf (.seq .leaf (.seq .leaf (.seq (.seq .leaf (.cond (.seq .leaf .leaf) .leaf)) (.seq .leaf (.seq (.seq .leaf (.cond (.seq .leaf .leaf) .leaf)) (.seq .leaf (.seq .leaf (.seq .leaf (.seq .leaf (.seq (.seq .leaf (.cond (.seq .leaf .leaf) .leaf)) (.seq (.seq .leaf (.cond (.seq .leaf .leaf) .leaf)) (.seq (.seq .leaf (.cond (.seq .leaf .leaf) .leaf)) (.seq .leaf (.seq .leaf (.seq .leaf (.seq (.seq .leaf (.cond (.seq .leaf .leaf) .leaf)) (.seq .leaf (.seq .leaf (.seq .leaf (.seq .leaf (.seq (.seq .leaf (.cond (.seq .leaf .leaf) .leaf)) (.seq (.seq .leaf (.cond (.seq .leaf .leaf) .leaf)) (.seq .leaf (.seq (.seq .leaf (.cond (.seq .leaf .leaf) .leaf)) (.seq .leaf (.seq .leaf (.seq (.seq .leaf (.cond (.seq .leaf .leaf) .leaf)) (.seq (.seq .leaf (.cond (.seq .leaf .leaf) .leaf)) (.seq .leaf .leaf)))))))))))))))))))))))))))))
theorem laws_FnExactDoSteps.ok (k : Nat) : FnOk Tryz.prog k 3 laws_FnExactDoSteps.fn :=
  fnOk_of (E := laws_FnExactDoSteps.env k) (ann := laws_FnExactDoSteps.ann) (look_cons (laws_szDisk.ok k) (look_cons (laws_szStepS.ok k) (look_cons (laws_toDisk.ok k) (look_cons (laws_toStepS.ok k) (look_cons (spec_DoSteps.ok k) (look_cons (impl_DoSteps.ok k) (look_cons (laws_eqDisk.ok k) (look_cons (laws_eqStepS.ok k) (look_cons (laws_markDisk.ok k) (look_cons (laws_markStepS.ok k) (look_cons (laws_heldDisk.ok k) (look_nil)))))))))))) (by kernel_rfl) Tryz.func3 (by kernel_rfl) (by kernel_rfl) (by kernel_rfl) (of_decide_eq_true (by kernel_rfl)) (of_decide_eq_true (by kernel_rfl)) (fun _ h => h) (fun x => by kernel_rfl)

end Go.Proofs.YtkolofaifjdjjaaGreat.Rx
