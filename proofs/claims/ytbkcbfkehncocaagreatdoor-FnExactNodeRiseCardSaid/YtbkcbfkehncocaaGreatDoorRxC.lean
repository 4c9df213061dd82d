/- A part of the evaluator and its soundness. No condition beside those that each theorem states. -/
import Derived.ProofKit
import Derived.Deep.Slices
import Derived.Lib.Overlaps
import Derived.Lib.AppendZerosOnto
import Derived.Shelf.Spec.SlicesInsert
import Derived.KernelRfl
import Derived.WalkKit
import Derived.Shelf.RegionOpenPlain
import Derived.Lib.Walk
import Derived.Deep.LoopGhost
import Derived.Sort.WalkB12
import Derived.ChangeVars
import Derived.ChangeReads
import Derived.JoinedOf
import Derived.Test.YtbkcbfkehncocaaGreatDoorRxB
set_option linter.unusedVariables false
set_option linter.unusedSimpArgs false
namespace Go.Proofs.YtbkcbfkehncocaaGreatDoor.Rx
section
section
variable {E : Env} {base : Nat} {Mod : Nat → Prop} {w0 : Org} {m : Emb} {st : St} {a : Act} {w : World} {rid i : Nat} {ops : Array Oper} {R : Type} {r : R} {K : St → Option R} {Q : Exit → Act → World → Prop}
theorem Rel.putUndef (h : Rel E.F base Mod w0 m st a w) (dst : Option Nat) (hp : ∀ d, dst = some d → E.pin d = false) : Rel E.F base Mod w0 m (st.put? dst (.one .undef)) (a.put dst undef) w := by
 by_cases hd : ∀ d, dst = some d → d < E.N
 ·exact h.put (fun d he => ⟨hd d he, hp d he⟩) rfl
 ·cases dst with
  | none => exact h
  | some d =>
   have hge : E.N ≤ d := by
    rcases Nat.lt_or_ge d E.N with hlt | hge
    ·exact absurd (fun d' he => by cases he; exact hlt) hd
    ·exact hge
   have e : a.put (some d) undef = a := by
    unfold Act.put
    simp only
    rw [Array.setIfInBounds_eq_of_size_le (by rw [h.size]; exact hge)]
   rw [e]
   exact h.tell (by
    rw [Array.getD_eq_getD_getElem?, Array.getElem?_eq_none (by rw [h.size]; exact hge)]
    rfl)
theorem Qoe (h : Rel E.F base Mod w0 m st a w) {g t : Nat} {p : Bool} (ht : (ops[g]?).bind (·.dst) = some t) (hp : st.slot t = .one (.bool p)) : yielded ops a.tmps g = some p := by
 have := h.slot t
 rw [hp] at this
 have hv : a.tmps.getD t undef = .bool p := this
 unfold yielded
 rw [ht]
 simp only [Zo]
 rw [Array.getD_eq_getD_getElem?] at hv
 cases hx : a.tmps[t]? with
 | none => rw [hx] at hv; simp [undef] at hv
 | some v => rw [hx] at hv; simp only [Option.getD_some] at hv; subst hv; rfl
theorem Qju (hE : EnvOk E) (hP : ∀ (i : Nat) (o : Oper), ops[i]? = some o → ∀ d, o.dst = some d → E.pin d = false) (h : Rel E.F base Mod w0 m st a w) (hK : Qed E ops rid i st K = some r) {next : Act → World → Prop}
  (hn : ∀ m' st' a' w', Rel E.F base Mod w0 m' st' a' w' → K st' = some r → next a' w') : wpOp E.P ops Q i next a w := by
 unfold Qed at hK
 unfold wpOp
 cases ho : ops[i]? with
 | none => simp only [ho] at hK; exact hn _ _ _ _ h hK
 | some o =>
  simp only [ho] at hK ⊢
  split at hK
  ·cases hK
  rename_i hu
  have hu : st.used (keyOf rid i) = false := by simpa using hu
  cases hg : o.guard with
  | none =>
   simp only [hg] at hK
   rw [if_pos (by simp [Region.wanted, hg])]
   exact .inl (Qjh hE (hP i o ho) (by unfold keyOf; omega) h hu hK hn)
  | some gw =>
   obtain ⟨g, want⟩ := gw
   simp only [hg] at hK
   cases ht : (ops[g]?).bind (·.dst) with
   | none => simp [ht] at hK
   | some t =>
    simp only [ht] at hK
    by_cases hun : Qfm (st.slot t) = true
    ·rw [if_pos hun] at hK
     have hv := h.slot t
     have hy : yielded ops a.tmps g = none := by
      unfold Qfm at hun
      split at hun
      ·rename_i he
       rw [he] at hv
       have hv : a.tmps.getD t undef = undef := hv
       unfold yielded
       rw [ht]
       simp only [Zo]
       rw [Array.getD_eq_getD_getElem?] at hv
       cases hx : a.tmps[t]? with
       | none => rfl
       | some v => rw [hx] at hv; simp only [Option.getD_some] at hv; subst hv; rfl
      ·cases hun
     rw [if_neg (by simp [Region.wanted, hg, hy])]
     exact hn _ _ _ _ ((h.use (keyOf rid i)).putUndef _ (hP i o ho)) hK
    rw [if_neg hun] at hK
    obtain ⟨p, hp, hK⟩ := Qfk hK
    have hy := Qoe h ht hp
    by_cases hw : p = want
    ·rw [if_pos hw] at hK
     rw [if_pos (by simp [Region.wanted, hg, hy, hw])]
     exact .inl (Qjh hE (hP i o ho) (by unfold keyOf; omega) h hu hK hn)
    ·rw [if_neg hw] at hK
     rw [if_neg (by simp [Region.wanted, hg, hy, hw])]
     exact hn _ _ _ _ ((h.use (keyOf rid i)).putUndef _ (hP i o ho)) hK
theorem Qhg (hE : EnvOk E) (hP : ∀ (i : Nat) (o : Oper), ops[i]? = some o → ∀ d, o.dst = some d → E.pin d = false) (hn : ∀ m' st' a' w', Rel E.F base Mod w0 m' st' a' w' → K st' = some r → Q .normal a' w') :
  ∀ (l : List Nat) (m : Emb) (st : St) (a : Act) (w : World), Rel E.F base Mod w0 m st a w → Qnl E ops rid l st K = some r → wpOps E.P ops Q l a w
 | [], m, st, a, w, h, hK => hn _ _ _ _ h hK
 | i :: l, m, st, a, w, h, hK => by
  rw [wpOps_cons]
  exact Qju hE hP h hK fun m' st' a' w' h' hK' => Qhg hE hP hn l m' st' a' w' h' hK'
def left (n : Nat) (listed : Array Bool) : List Nat := (List.range n).filter fun i => !listed.getD i true
theorem Qnf {n i : Nat} {listed : Array Bool} (hs : listed.size = n) : left n (listed.setIfInBounds i true) = (left n listed).filter fun j => decide (j ≠ i) := by
 unfold left
 rw [List.filter_filter]
 apply List.filter_congr
 intro j hj
 have hj : j < n := List.mem_range.1 hj
 by_cases e : i = j
 ·subst e
  simp [Array.getElem?_setIfInBounds, hs, hj]
 ·have e' : j ≠ i := Ne.symm e
  simp [Array.getElem?_setIfInBounds_ne e, e']
theorem Qnv {n i : Nat} {listed : Array Bool} (hi : i ∈ left n listed) : ∃ L1 L2, left n listed = L1 ++ i :: L2 ∧ (∀ j ∈ L1, j < i) ∧ (left n listed).filter (fun j => decide (j ≠ i)) = L1 ++ L2 := by
 obtain ⟨L1, L2, hl⟩ := List.append_of_mem hi
 have hp : (left n listed).Pairwise (· < ·) := List.Pairwise.filter _ List.pairwise_lt_range
 rw [hl, List.pairwise_append] at hp
 obtain ⟨h1, h2, h3⟩ := hp
 refine ⟨L1, L2, hl, fun j hj => h3 j hj i (by simp), ?_⟩
 rw [hl, List.filter_append, List.filter_cons]
 simp only [ne_eq, not_true_eq_false, decide_false, Bool.false_eq_true, if_false]
 rw [List.filter_eq_self.2 (fun j hj => by have := h3 j hj i (by simp); simp; omega), List.filter_eq_self.2 (fun j hj => by have := (List.pairwise_cons.1 h2).1 j hj; simp; omega)]
def Qpt (ops : Array Oper) (listed : Array Bool) : Prop :=
 ∀ k o, ops[k]? = some o → listed.getD k false = true → ∀ e ∈ o.after, Region.binds .any e = true → listed.getD e.on false = true
theorem Qjw (hq : Qcn E ops = true) {listed : Array Bool} (hc : Qpt ops listed) : ∀ (k : Nat) (o : Oper), ops[k]? = some o → (∀ e ∈ o.after, Region.binds .any e = true → listed.getD e.on false = true) →
  ∀ i, i < k → ((Region.before ops).getD k 0).testBit i = true → listed.getD i false = true := by
 intro k
 induction k using Nat.strongRecOn with
 | _ k ih =>
  intro o ho hd i hik hb
  have hk : k < ops.size := (Array.getElem?_eq_some_iff.1 ho).1
  unfold Qcn at hq
  simp only [List.all_eq_true, List.mem_range, Zd] at hq
  obtain ⟨h1, h2⟩ := hq k hk
  have h3 := h2 i hik
  have hod : ops.getD k default = o := by simp [Array.getD_eq_getD_getElem?, ho]
  rw [hod] at h1 h3
  simp only [Bool.or_eq_true, Zd, Bool.not_eq_true', hb] at h3
  rcases h3 with ⟨_, h3⟩ | h3
  ·rw [← Array.any_toList] at h3
   obtain ⟨e, he, hb'⟩ := List.any_eq_true.1 h3
   have he : e ∈ o.after := by simpa using he
   simp only [Zd, Bool.or_eq_true, beq_iff_eq, Zq] at hb'
   obtain ⟨hbi, hb'⟩ := hb'
   have hl := hd e he hbi
   rcases hb' with hb' | ⟨hlt, hb'⟩
   ·rw [← hb']; exact hl
   ·have hek : e.on < k := by
     have := Array.all_eq_true_iff_forall_mem.1 h1 e he
     simpa [hbi] using this
    have hes : e.on < ops.size := by omega
    have hoe : ops[e.on]? = some (ops[e.on]'hes) := Array.getElem?_eq_getElem hes
    exact ih e.on hek _ hoe (hc _ _ hoe hl) i hlt hb'
  ·simp at h3
theorem Qoh (hE : EnvOk E) (hP : ∀ (i : Nat) (o : Oper), ops[i]? = some o → ∀ d, o.dst = some d → E.pin d = false) (hq : Qcn E ops = true) (hn : ∀ m' st' a' w', Rel E.F base Mod w0 m' st' a' w' → K st' = some r → Q .normal a' w') :
  ∀ (fuel : Nat) (listed : Array Bool) (m : Emb) (st : St) (a : Act) (w : World), listed.size = ops.size → Qpt ops listed → (left ops.size listed).length ≤ fuel → Rel E.F base Mod w0 m st a w →
   Qbv E ops rid (left ops.size listed) st K = some r → wpAny E.P .any ops Q fuel listed a w := by
 have hready : ∀ (listed : Array Bool) (i : Nat), i ∈ Region.ready .any ops listed → i ∈ left ops.size listed := fun listed i hi => by
  unfold Region.ready at hi
  obtain ⟨h1, h2⟩ := List.mem_filter.1 hi
  simp only [Zd] at h2
  exact List.mem_filter.2 ⟨h1, h2.1⟩
 have hsome : ∀ (listed : Array Bool), listed.size = ops.size → Region.ready .any ops listed = [] → left ops.size listed = [] := fun listed hs hr => by
  cases hl : left ops.size listed with
  | nil => rfl
  | cons i L =>
   exfalso
   have hmem : i ∈ left ops.size listed := by rw [hl]; simp
   obtain ⟨h1, h2⟩ := List.mem_filter.1 hmem
   have hin : i < ops.size := List.mem_range.1 h1
   have hp : (left ops.size listed).Pairwise (· < ·) := List.Pairwise.filter _ List.pairwise_lt_range
   rw [hl] at hp
   have hmin := (List.pairwise_cons.1 hp).1
   have : i ∈ Region.ready .any ops listed := by
    refine mem_ready.2 ⟨by simpa using h2, _, Array.getElem?_eq_getElem hin, fun e he hb => ?_⟩
    unfold Qcn at hq
    simp only [List.all_eq_true, List.mem_range, Zd] at hq
    obtain ⟨h3, _⟩ := hq i hin
    have hod : ops.getD i default = ops[i] := by simp [Array.getD_eq_getD_getElem?, hin]
    rw [hod] at h3
    have := Array.all_eq_true_iff_forall_mem.1 h3 e he
    have hlt : e.on < i := by simpa [hb] using this
    have hes : e.on < listed.size := by omega
    have hnot : e.on ∉ left ops.size listed := fun hc => by
     rw [hl] at hc
     rcases List.mem_cons.1 hc with hc | hc
     ·omega
     ·have := hmin _ hc; omega
    have : listed.getD e.on true = true := by
     cases hv : listed.getD e.on true with
     | true => rfl
     | false => exact absurd (List.mem_filter.2 ⟨List.mem_range.2 (by omega), by simp [hv]⟩) hnot
    simpa [Array.getD_eq_getD_getElem?, hes] using this
   rw [hr] at this; simp at this
 intro fuel
 induction fuel with
 | zero =>
  intro listed m st a w hs hc hf h hK
  have hl : left ops.size listed = [] := List.length_eq_zero_iff.1 (by omega)
  rw [hl] at hK
  refine ⟨?_, hn _ _ _ _ h hK⟩
  cases hr : Region.ready .any ops listed with
  | nil => rfl
  | cons i L => have := hready listed i (by rw [hr]; simp); rw [hl] at this; simp at this
 | succ fuel ih =>
  intro listed m st a w hs hc hf h hK
  refine ⟨fun hr => ?_, fun i hi => ?_⟩
  ·have hl := hsome listed hs hr
   rw [hl] at hK
   exact hn _ _ _ _ h hK
  ·obtain ⟨L1, L2, hl, hlt, hfil⟩ := Qnv (hready listed i hi)
   rw [hl] at hK
   obtain ⟨hun, oi, hoi, hdeps⟩ := mem_ready.1 hi
   have hin : i < ops.size := (Array.getElem?_eq_some_iff.1 hoi).1
   have hK2 := Qpu hoi L1 L2 st (fun j hj => by
    have hji := hlt j hj
    refine ⟨by omega, ?_⟩
    have hjs : j < ops.size := by omega
    have hoj : ops[j]? = some (ops[j]'hjs) := Array.getElem?_eq_getElem hjs
    have hjl : listed.getD j true = false := by
     have : j ∈ left ops.size listed := by rw [hl]; simp [hj]
     simpa using (List.mem_filter.1 this).2
    have hnb : ((Region.before ops).getD i 0).testBit j = false := by
     cases hv : ((Region.before ops).getD i 0).testBit j with
     | false => rfl
     | true =>
      have := Qjw hq hc i oi hoi hdeps j hji hv
      have hjl' : j < listed.size := by omega
      simp [Array.getD_eq_getD_getElem?, hjl'] at this hjl
      rw [this] at hjl; cases hjl
    unfold Qcn at hq
    simp only [List.all_eq_true, List.mem_range, Zd] at hq
    have h3 := (hq i hin).2 j hji
    have hod : ops.getD i default = oi := by simp [Array.getD_eq_getD_getElem?, hoi]
    have hod' : ops.getD j default = ops[j] := by simp [Array.getD_eq_getD_getElem?, hjs]
    rw [hod, hod'] at h3
    simp only [hnb, Bool.false_and, Bool.false_or, Bool.not_false, Bool.true_and, Zd, Bool.not_eq_true', Bool.or_eq_true] at h3
    exact ⟨_, hoj, h3.1.2, h3.2, by unfold Qam; rw [hnb, h3.1.1]; rfl⟩) hK
   simp only [Qbv, stepD] at hK2
   split at hK2
   case isFalse => cases hK2
   split at hK2
   ·cases hK2
   refine Qju hE hP h hK2 fun m' st' a' w' h' hK' => ih _ m' st' a' w' (by simpa using hs) ?_ ?_ h' (by rw [Qnf hs, hfil]; exact hK')
   ·intro k o ho hk e he hb
    refine getD_set_true ?_
    by_cases hki : i = k
    ·subst hki
     rw [hoi] at ho
     simp only [Zj] at ho; subst ho
     exact hdeps e he hb
    ·rw [getD_set_ne false hki] at hk
     exact hc k o ho hk e he hb
   ·rw [Qnf hs, hfil]
    rw [hl] at hf
    simp only [List.length_append, Zl] at hf ⊢
    omega
theorem Qlg (n : Nat) : left n (Array.replicate n false) = List.range n := by
 unfold left
 refine List.filter_eq_self.2 fun i hi => ?_
 have : i < n := List.mem_range.1 hi
 simp [this]
theorem Qlm (hE : EnvOk E) (hm : E.P.follows .mixedOrders = true) (h : Rel E.F base Mod w0 m st a w) {draw : Bool}
  (hK : (if !Qpw E ops then none else if draw then (if Qcn E ops then Qbv E ops rid (List.range ops.size) st K else none) else Qnl E ops rid (List.range ops.size) st K) = some r) (hn : ∀ m' st' a' w', Rel E.F base Mod w0 m' st' a' w' → K st' = some r → Q .normal a' w') :
  (Code.region rid ops draw).wp E.P Q a w := by
 split at hK
 ·cases hK
 rename_i hpins
 have hP : ∀ (i : Nat) (o : Oper), ops[i]? = some o → ∀ d, o.dst = some d → E.pin d = false := fun i o ho d hd => by
  simp only [Bool.not_eq_true', Bool.not_eq_false] at hpins
  have := Array.all_eq_true_iff_forall_mem.1 hpins o (Array.mem_of_getElem? ho)
  simpa [hd] using this
 cases draw with
 | false => exact wp_region (Qhg hE hP hn _ _ _ _ _ h hK)
 | true =>
  simp only [if_true] at hK
  split at hK
  case isFalse => cases hK
  rename_i hd
  refine wp_region_any hm (Qoh hE hP hd hn ops.size _ m st a _ (by simp) ?_ ?_ h.drew (by rw [Qlg]; exact hK))
  ·intro k o ho hk
   have : k < ops.size := (Array.getElem?_eq_some_iff.1 ho).1
   simp [this] at hk
  ·rw [Qlg]; simp
end
end
section
def Qcu (a : Act) (w : World) (bl : Nat → Nat) : List Item → List (List Value) → Prop
 | [], vss => vss = []
 | .slot t agg _ _ :: l, vss => ∃ vs vss', vss = vs :: vss' ∧ (if agg then a.tmps.getD t undef = .agg vs.toArray else vs = [a.tmps.getD t undef]) ∧ Qcu a w bl l vss'
 | .ptr t b :: l, vss => a.tmps.getD t undef = .pointer (some ⟨bl b, 0, none⟩) ∧ Qcu a w bl l vss
 | .fnp t f fst b :: l, vss => a.tmps.getD t undef = .func (.func f) (cond fst #[.pointer (some ⟨bl b, 0, none⟩)] #[]) (cond fst #[] #[.pointer (some ⟨bl b, 0, none⟩)]) ∧ Qcu a w bl l vss
 | .alias t (.slot t') :: l, vss => a.tmps.getD t undef = a.tmps.getD t' undef ∧ Qcu a w bl l vss
 | .alias t (.box b off) :: l, vss => (∃ cs T, w.heap[bl b]? = some (.cells cs T (0, 0)) ∧ cs[off]? = some (a.tmps.getD t undef)) ∧ Qcu a w bl l vss
 | .alias _ .no :: _, _ => False
 | .box b t _ _ _ :: l, vss => ∃ vs vss', vss = vs :: vss' ∧ w.heap[bl b]? = some (.cells vs.toArray t (0, 0)) ∧ Qcu a w bl l vss'
section
variable {E : Env} {base : Nat} {N : Rim} {Mod : Nat → Prop} {w0 : Org} {m : Emb} {st stF : St} {a : Act} {w : World}
theorem Qfd : ∀ (l : List Item) (ms : List (List AC)) (st : St), (lay l ms st).dead = st.dead ∧ (lay l ms st).ice = st.ice
 | [], _, _ => ⟨rfl, rfl⟩
 | .slot t agg _ _ :: l, m :: ms, st => by simp only [lay]; exact Qfd l ms _
 | .slot t agg _ _ :: l, [], st => ⟨rfl, rfl⟩
 | .ptr t b :: l, ms, st => by simp only [lay]; exact Qfd l ms _
 | .fnp t f fst b :: l, ms, st => by simp only [lay]; exact Qfd l ms _
 | .alias t src :: l, ms, st => by simp only [lay]; exact Qfd l ms _
 | .box b t _ _ lk :: l, m :: ms, st => by simp only [lay]; cases lk <;> exact Qfd l ms _
 | .box b t _ _ lk :: l, [], st => ⟨rfl, rfl⟩
theorem Qbo : ∀ (l : List Item) (ms : List (List AC)) (st : St) (k : Nat), (st.used k = true → (lay l ms st).used k = true) ∧ (st.lock k = true → (lay l ms st).lock k = true) ∧ ((st.box k).isSome = true → ((lay l ms st).box k).isSome = true)
 | [], _, _, _ => ⟨id, id, id⟩
 | .slot t agg _ _ :: l, m :: ms, st, k => by simp only [lay]; exact Qbo l ms (st.put t _) k
 | .slot t agg _ _ :: l, [], st, k => ⟨id, id, id⟩
 | .ptr t b :: l, ms, st, k => by simp only [lay]; exact Qbo l ms (st.put t _) k
 | .fnp t f fst b :: l, ms, st, k => by simp only [lay]; exact Qbo l ms (st.put t _) k
 | .alias t src :: l, ms, st, k => by simp only [lay]; exact Qbo l ms (st.put t _) k
 | .box b t _ _ lk :: l, m :: ms, st, k => by
  simp only [lay]
  cases lk with
  | true =>
   obtain ⟨h1, h2, h3⟩ := Qbo l ms (((st.setBox b (t, m)).use b).bar b) k
   refine ⟨fun h => h1 ?_, fun h => h2 ?_, fun h => h3 ?_⟩
   ·show (if k = b then true else st.used k) = true; split <;> simp [h]
   ·show (if k = b then true else st.lock k) = true; split <;> simp [h]
   ·show ((if k = b then some (t, m) else st.box k)).isSome = true; split <;> simp [h]
  | false =>
   obtain ⟨h1, h2, h3⟩ := Qbo l ms ((st.setBox b (t, m)).use b) k
   refine ⟨fun h => h1 ?_, fun h => h2 h, fun h => h3 ?_⟩
   ·show (if k = b then true else st.used k) = true; split <;> simp [h]
   ·show ((if k = b then some (t, m) else st.box k)).isSome = true; split <;> simp [h]
 | .box b t _ _ lk :: l, [], st, k => ⟨id, id, id⟩
theorem Qfe : ∀ (l : List Item) (ms : List (List AC)) (vss : List (List Value)) (st : St), (∀ t, RelAV m stF w (st.slot t) (a.tmps.getD t undef)) → (∀ k T c, st.box k = some (T, c) → ∃ arr, w.heap[m.bl k]? = some (.cells arr T (0, 0)) ∧ All2 (RelAC m stF w) c arr.toList) → All2 (All2 (RelAC m stF w)) ms vss →
  Qcu a w m.bl l vss → (∀ b ∈ Item.ptrs l, (stF.box b).isSome = true) → ∀ t, RelAV m stF w ((lay l ms st).slot t) (a.tmps.getD t undef)
 | [], _, _, st, h, _, _, _, _ => h
 | .slot t agg c own :: l, ms, vss, st, h, hbx, hr, hi, hp => by
  obtain ⟨vs, vss', rfl, h1, h2⟩ := hi
  match ms, hr with
  | x :: ms, hr =>
   simp only [lay]
   refine Qfe l ms vss' _ (fun t' => ?_) hbx hr.2 h2 hp
   show RelAV m stF w (if t' = t then _ else st.slot t') _
   split
   ·rename_i e; subst e
    cases agg with
    | true => simp only [if_true] at h1 ⊢; exact ⟨_, h1, hr.1⟩
    | false =>
     simp only [Bool.false_eq_true, if_false] at h1 ⊢
     subst h1
     match x, hr.1 with
     | [y], hx => exact hx.1
     | [], hx => exact hx.elim
     | _ :: _ :: _, hx => exact hx.2.elim
   ·exact h t'
  | [], hr => exact hr.elim
 | .ptr t b :: l, ms, vss, st, h, hbx, hr, hi, hp => by
  simp only [lay]
  refine Qfe l ms vss _ (fun t' => ?_) hbx hr hi.2 (fun b' hb' => hp b' (by simp [Item.ptrs, hb']))
  show RelAV m stF w (if t' = t then _ else st.slot t') _
  split
  ·rename_i e; subst e
   exact ⟨hp b (by simp [Item.ptrs]), hi.1⟩
  ·exact h t'
 | .fnp t f fst b :: l, ms, vss, st, h, hbx, hr, hi, hp => by
  simp only [lay]
  refine Qfe l ms vss _ (fun t' => ?_) hbx hr hi.2 (fun b' hb' => hp b' (by simp [Item.ptrs, hb']))
  show RelAV m stF w (if t' = t then _ else st.slot t') _
  split
  ·rename_i e; subst e
   refine ⟨fun p hp' => ?_, hi.1.trans (by cases fst <;> rfl)⟩
   obtain rfl : p = (b, 0) := by simpa using hp'
   exact hp b (by simp [Item.ptrs])
  ·exact h t'
 | .box b t c own lk :: l, ms, vss, st, h, hbx, hr, hi, hp => by
  obtain ⟨vs, vss', rfl, h1, h2⟩ := hi
  match ms, hr with
  | x :: ms, hr =>
   simp only [lay]
   refine Qfe l ms vss' _ (fun t' => ?_) (fun k T c' hk => ?_) hr.2 h2 hp
   ·cases lk <;> exact h t'
   ·have hk' : (if k = b then some (t, x) else st.box k) = some (T, c') := by cases lk <;> exact hk
    split at hk'
    ·rename_i e; subst e
     simp only [Zj, Prod.mk.injEq] at hk'
     obtain ⟨rfl, rfl⟩ := hk'
     exact ⟨_, h1, hr.1⟩
    ·exact hbx k T c' hk'
  | [], hr => exact hr.elim
 | .alias t src :: l, ms, vss, st, h, hbx, hr, hi, hp => by
  simp only [lay]
  have key : RelAV m stF w (Qhu st src) (a.tmps.getD t undef) ∧ Qcu a w m.bl l vss := by
   cases src with
   | no => exact hi.elim
   | slot t2 =>
    refine ⟨?_, hi.2⟩
    have := hi.1
    rw [this]; exact h t2
   | box b off =>
    refine ⟨?_, hi.2⟩
    obtain ⟨cs, T, h1, h2⟩ := hi.1
    simp only [Qhu]
    cases hb : st.box b with
    | none => exact RelAV.bad _
    | some q =>
     obtain ⟨T', c⟩ := q
     obtain ⟨arr, h3, h4⟩ := hbx b T' c hb
     rw [h1] at h3
     simp only [Zj, Obj.cells.injEq] at h3
     obtain ⟨rfl, rfl, _⟩ := h3
     simp only
     cases hx : c[off]? with
     | none => exact RelAV.bad _
     | some x =>
      obtain ⟨v, h5, h6⟩ := h4.get hx
      simp only [Array.getElem?_toList] at h5
      rw [h2] at h5
      simp only [Zj] at h5
      rw [h5]; exact h6
  refine Qfe l ms vss _ (fun t' => ?_) hbx hr key.2 (fun b' hb' => hp b' (by cases src <;> simp [Item.ptrs, hb']))
  show RelAV m stF w (if t' = t then _ else st.slot t') _
  split
  ·rename_i e; subst e; exact key.1
  ·exact h t'
theorem Qgq : ∀ (l : List Item) (ms : List (List AC)) (vss : List (List Value)) (st : St), All2 (All2 (RelAC m stF w)) ms vss → Qcu a w m.bl l vss →
  (∀ k T c, (lay l ms st).box k = some (T, c) → st.box k = some (T, c) ∨ (k ∈ Item.boxes l ∧ ∃ arr, w.heap[m.bl k]? = some (.cells arr T (0, 0)) ∧ All2 (RelAC m stF w) c arr.toList)) ∧
  (∀ k ∈ Item.boxes l, ((lay l ms st).box k).isSome = true ∧ (lay l ms st).used k = true)
 | [], _, _, st, _, _ => ⟨fun k T c h => .inl h, fun k hk => by simp [Item.boxes] at hk⟩
 | .slot t agg c own :: l, ms, vss, st, hr, hi => by
  obtain ⟨vs, vss', rfl, h1, h2⟩ := hi
  match ms, hr with
  | x :: ms, hr => simp only [lay]; exact Qgq l ms vss' _ hr.2 h2
  | [], hr => exact hr.elim
 | .ptr t b :: l, ms, vss, st, hr, hi => by simp only [lay]; exact Qgq l ms vss _ hr hi.2
 | .fnp t f fst b :: l, ms, vss, st, hr, hi => by simp only [lay]; exact Qgq l ms vss _ hr hi.2
 | .alias t src :: l, ms, vss, st, hr, hi => by simp only [lay]; exact Qgq l ms vss _ hr (by cases src with | no => exact hi.elim | slot => exact hi.2 | box => exact hi.2)
 | .box b t c own lk :: l, ms, vss, st, hr, hi => by
  obtain ⟨vs, vss', rfl, h1, h2⟩ := hi
  match ms, hr with
  | x :: ms, hr =>
   simp only [lay]
   generalize hst : cond lk (((st.setBox b (t, x)).use b).bar b) ((st.setBox b (t, x)).use b) = st1
   have e1 : st1.box = fun n => if n = b then some (t, x) else st.box n := by subst hst; cases lk <;> rfl
   have e2 : st1.used b = true := by subst hst; cases lk <;> simp [St.use, St.bar, St.setBox]
   obtain ⟨i1, i2⟩ := Qgq l ms vss' st1 hr.2 h2
   refine ⟨fun k T c' hk => ?_, fun k hk => ?_⟩
   ·rcases i1 k T c' hk with h | ⟨h3, h4⟩
    ·rw [e1] at h
     simp only at h
     split at h
     ·rename_i e; subst e
      simp only [Zj, Prod.mk.injEq] at h
      obtain ⟨rfl, rfl⟩ := h
      exact .inr ⟨by simp [Item.boxes], _, h1, hr.1⟩
     ·exact .inl h
    ·exact .inr ⟨by simp [Item.boxes, h3], h4⟩
   ·simp only [Item.boxes, List.mem_cons] at hk
    rcases hk with rfl | hk
    ·obtain ⟨u1, _, u3⟩ := Qbo l ms st1 k
     exact ⟨u3 (by rw [e1]; simp), u1 e2⟩
    ·exact i2 k hk
  | [], hr => exact hr.elim
theorem Qot {l : List Item} {ms : List (List AC)} {vss : List (List Value)} {rows : List Row} (hst : stF = lay l ms .blank) (hrow : m.row = fun id => if id.1 = 0 then (rows[id.2]?).bind (·.1) else none)
  (hparts : All2 (All2 (RelAC m stF w)) ms vss) (hitems : Qcu a w m.bl l vss) (hS : ∀ b, m.S b → b < w.heap.size) (hnd : (Blks rows).Nodup)
  (hrows : ∀ b ∈ Blks rows, ¬ m.S b ∧ b < w.heap.size ∧ (base ≤ b ∨ Mod b) ∧ ∀ k ∈ Item.boxes l, m.bl k ≠ b)
  (hbS : ∀ k ∈ Item.boxes l, ¬ m.S (m.bl k)) (hbI : ∀ k k', k ∈ Item.boxes l → k' ∈ Item.boxes l → m.bl k = m.bl k' → k = k' ∨ (stF.lock k = true ∧ stF.lock k' = true)) (hlk : ∀ k ∈ Item.boxes l, stF.lock k = false → base ≤ m.bl k ∨ Mod (m.bl k))
  (hptr : ∀ b ∈ Item.ptrs l, b ∈ Item.boxes l) (hd : ActOk N w0 a) (hN : a.tmps.size = N.1) (hfrm : Frm base Mod w0.w w) (hfix : Since w0 base Mod m) (hglob : Glob N w0 base Mod) : Rel N base Mod w0 m stF a w := by
 subst hst
 obtain ⟨b1, b2⟩ := Qgq l ms vss .blank hparts hitems
 have hbox : ∀ k, ((lay l ms .blank).box k).isSome = true → k ∈ Item.boxes l := fun k hk => by
  obtain ⟨x, hx⟩ := Option.isSome_iff_exists.1 hk
  rcases b1 k x.1 x.2 hx with h | h
  ·cases h
  ·exact h.1
 obtain ⟨d1, d2⟩ := Qfd l ms .blank
 have hr : ∀ id b, m.row id = some b → id.1 = 0 ∧ (rows[id.2]?).bind (·.1) = some b := fun id b hb => by
  rw [hrow] at hb
  simp only at hb
  split at hb
  ·exact ⟨by assumption, hb⟩
  ·cases hb
 refine ⟨hd, hN, Qfe l ms vss .blank (fun t => RelAV.bad _) (fun k T c h => by cases h) hparts hitems (fun b hb => (b2 b (hptr b hb)).1), ⟨?_, ?_, ?_, ?_, ?_, ?_, ?_, ?_, ?_, ?_, ?_⟩, hfrm, hfix, hglob⟩
 ·intro k T c hk
  rcases b1 k T c hk with h | h
  ·cases h
  ·exact h.2
 ·intro k hk; exact ⟨hbS k (hbox k hk), hlk k (hbox k hk)⟩
 ·intro k k' hk hk'; exact hbI k k' (hbox k hk) (hbox k' hk')
 ·intro k hk; exact (b2 k (hbox k hk)).2
 ·intro id b hb _
  obtain ⟨h1, h2⟩ := hr id b hb
  obtain ⟨_, h3, h4, h5⟩ := hrows b (Qce h2)
  exact ⟨h3, h4, fun k hk => h5 k (hbox k hk)⟩
 ·intro id id' b hb hb' _ _
  obtain ⟨h1, h2⟩ := hr id b hb
  obtain ⟨h3, h4⟩ := hr id' b hb'
  exact Prod.ext (h1.trans h3.symm) (Qkn hnd h2 h4)
 ·intro id b hb _
  obtain ⟨h1, h2⟩ := hr id b hb
  rw [d2]
  exact ⟨fun h => absurd h (hrows b (Qce h2)).1, fun h => by cases h⟩
 ·intro id b hb
  rw [(hr id b hb).1]
  exact (Qbo l ms .blank 0).1 rfl
 ·exact hS
 ·intro id hi; rw [d2] at hi; cases hi
 ·intro id hi; rw [d1] at hi; cases hi
theorem Qby (h : Rel N base Mod w0 m st a w) : ∀ {l : List Item} {ls : List (List AC)}, Qbj st l = some ls →
  ∃ vss, All2 (All2 (RelAC m st w)) ls vss ∧ Qcu a w m.bl l vss ∧ (∀ k ∈ Item.boxes l, (st.box k).isSome = true) ∧
   (∀ ms st0, ms.length = ls.length → ∀ k ∈ Item.boxes l, (lay l ms st0).lock k = false → st.lock k = false)
 | [], ls, hp => by
  simp only [Qbj, Zj] at hp; subst hp
  exact ⟨[], trivial, rfl, by simp [Item.boxes], by simp [Item.boxes]⟩
 | .slot t agg c own :: l, ls, hp => by
  simp only [Qbj] at hp
  split at hp <;> try cases hp
  rename_i x ls' h1 h2
  obtain ⟨vss, i1, i2, i3, i4⟩ := Qby h h2
  have hv := h.slot t
  have hlay : ∀ ms st0, ms.length = (x :: ls').length → ∀ k ∈ Item.boxes l, (lay (.slot t agg c own :: l) ms st0).lock k = false → st.lock k = false := fun ms st0 hl k hk hlk => by
   match ms, hl with
   | y :: ms, hl => simp only [lay] at hlk; exact i4 ms _ (by simpa using hl) k hk hlk
  cases agg with
  | true =>
   cases hs : st.slot t <;> simp only [hs, Qcl] at h1 <;> try (cases h1; done)
   simp only [Zj] at h1; subst h1
   rw [hs] at hv
   obtain ⟨arr, h3, h4⟩ := hv
   exact ⟨arr.toList :: vss, ⟨h4, i1⟩, ⟨_, _, rfl, by simpa using h3, i2⟩, i3, hlay⟩
  | false =>
   cases hs : st.slot t <;> simp only [hs, Qcl] at h1 <;> try (cases h1; done)
   simp only [Zj] at h1; subst h1
   rw [hs] at hv
   exact ⟨[_] :: vss, ⟨⟨hv, trivial⟩, i1⟩, ⟨_, _, rfl, rfl, i2⟩, i3, hlay⟩
 | .ptr t b :: l, ls, hp => by
  simp only [Qbj] at hp
  split at hp <;> try cases hp
  rename_i b' hs
  split at hp
  ·rename_i e; subst e
   obtain ⟨vss, i1, i2, i3, i4⟩ := Qby h hp
   have hv := h.slot t
   rw [hs] at hv
   exact ⟨vss, i1, ⟨hv.2, i2⟩, i3, fun ms st0 hl k hk hlk => i4 ms _ hl k hk (by simpa only [lay] using hlk)⟩
  ·cases hp
 | .fnp t f fst b :: l, ls, hp => by
  simp only [Qbj] at hp
  split at hp <;> try cases hp
  rename_i f' fst' b' hs
  split at hp
  ·rename_i e
   simp only [Zd, Zq] at e
   obtain ⟨⟨rfl, rfl⟩, rfl⟩ := e
   obtain ⟨vss, i1, i2, i3, i4⟩ := Qby h hp
   have hv := h.slot t
   rw [hs] at hv
   exact ⟨vss, i1, ⟨hv.2.trans (by cases fst' <;> rfl), i2⟩, i3, fun ms st0 hl k hk hlk => i4 ms _ hl k hk (by simpa only [lay] using hlk)⟩
  ·cases hp
 | .alias t src :: l, ls, hp => by
  simp only [Qbj] at hp
  split at hp <;> try cases hp
  rename_i id id' hs hs'
  split at hp
  case isFalse => cases hp
  rename_i e
  simp only [Zd, Zq, Bool.not_eq_true'] at e
  obtain ⟨rfl, hd⟩ := e
  obtain ⟨vss, i1, i2, i3, i4⟩ := Qby h hp
  have hval : ∀ (x : AV) (v : Value), x.rowId = some id' → RelAV m st w x v → v = m.val id' := fun x v hx hv => by
   unfold AV.rowId at hx
   split at hx
   ·simp only [Zj] at hx
    subst hx
    obtain ⟨_, _, hv⟩ := hv
    simp only [if_true] at hv
    rcases hv with hv | ⟨a, n, cap, _, _, _, hv⟩
    ·rw [hd] at hv; cases hv
    ·exact hv rfl
   ·cases hx
  have hv := hval _ _ hs (h.slot t)
  refine ⟨vss, i1, ?_, i3, fun ms st0 hl k hk hlk => i4 ms _ hl k hk (by simpa only [lay] using hlk)⟩
  cases src with
  | no => cases hs'
  | slot t2 => exact ⟨hv.trans (hval _ _ hs' (h.slot t2)).symm, i2⟩
  | box b off =>
   refine ⟨?_, i2⟩
   simp only [Qhu] at hs'
   cases hb : st.box b with
   | none => rw [hb] at hs'; cases hs'
   | some q =>
    obtain ⟨T, c⟩ := q
    rw [hb] at hs'
    simp only at hs'
    obtain ⟨arr, h1, h2⟩ := h.mem.box b T c hb
    cases hx : c[off]? with
    | none => rw [hx] at hs'; cases hs'
    | some x =>
     rw [hx] at hs'
     obtain ⟨v, h5, h6⟩ := h2.get hx
     simp only [Array.getElem?_toList] at h5
     refine ⟨arr, T, h1, ?_⟩
     rw [h5, hv, hval (.one x) v hs' h6]
 | .box b t c own lk :: l, ls, hp => by
  simp only [Qbj] at hp
  split at hp <;> try cases hp
  rename_i x ls' h1 h2
  obtain ⟨vss, i1, i2, i3, i4⟩ := Qby h h2
  unfold Qmx at h1
  split at h1
  ·rename_i t' l' hb
   split at h1
   ·rename_i hc
    simp only [Zj] at h1; subst h1
    simp only [Zd, Zq, Bool.or_eq_true, Bool.not_eq_true'] at hc
    obtain ⟨rfl, hlk⟩ := hc
    obtain ⟨arr, h3, h4⟩ := h.mem.box b t' _ hb
    refine ⟨arr.toList :: vss, ⟨h4, i1⟩, ⟨_, _, rfl, by simpa using h3, i2⟩, fun k hk => ?_, fun ms st0 hl k hk hlk' => ?_⟩
    ·simp only [Item.boxes, List.mem_cons] at hk
     rcases hk with rfl | hk
     ·simp [hb]
     ·exact i3 k hk
    ·match ms, hl with
     | y :: ms, hl =>
      simp only [lay] at hlk'
      simp only [Item.boxes, List.mem_cons] at hk
      rcases hk with rfl | hk
      ·rcases hlk with hlk | hlk
       ·subst hlk
        have := (Qbo l ms (((st0.setBox k (t', y)).use k).bar k) k).2.1 (by simp [St.bar])
        simp only [Zy] at hlk'
        rw [this] at hlk'; cases hlk'
       ·exact hlk
      ·exact i4 ms _ (by simpa using hl) k hk hlk'
   ·cases h1
  ·cases h1
theorem Qhq (h : Rel N base Mod w0 m st a w) {l : List Item} {x : Item.T l} (hp : pack l st = some x) : ∃ m', Rel N base Mod w0 m' (Qgi l x) a w := by
 unfold pack at hp
 split at hp
 ·cases hp
 rename_i ls hls
 split at hp
 case isFalse => cases hp
 rename_i hc
 simp only [Zd] at hc
 obtain ⟨⟨hok, hdist⟩, hptr⟩ := hc
 obtain ⟨vss, p1, p2, p3, p4⟩ := Qby h hls
 obtain ⟨rows, b1, b2, b3, b4, b5, b6, b7, b8⟩ := Qjj h.mem hok hp p1
 let m' : Emb := ({ m with row := fun _ => none, S := m.lent (roIds (Item.kinds l) ls) } : Emb).withRows 0 rows
 have hab := Qeb (m := m') (st := Qgi l x) (w := w) (key := 0) ((Qbo l _ .blank 0).1 rfl) 0 b1 (fun j p hj => Qdw (m := { m with row := fun _ => none, S := m.lent (roIds (Item.kinds l) ls) }) j p hj)
 refine ⟨m', Qot (rows := rows) rfl rfl hab p2 b4 b2 (fun b hb => ?_) (fun k hk => b6 k (p3 k hk)) (fun k k' hk hk' he => (h.mem.boxI k k' (p3 k hk) (p3 k' hk') he).imp id fun hl => by
  have hlk : ∀ k ∈ Item.boxes l, st.lock k = true → (Qgi l x).lock k = true := fun k hk hl => by
   cases hc : (Qgi l x).lock k with
   | true => rfl
   | false => have := p4 _ _ (by rw [hab.length, ← p1.length]) k hk hc; rw [hl] at this; cases this
  exact ⟨hlk k hk hl.1, hlk k' hk' hl.2⟩) (fun k hk hlk => ?_) (fun b hb => ?_) h.defers h.size h.frm ⟨h.fix.1, fun b hb => .inl (h.fix.2.1 b hb), fun b hb => ?_⟩ h.glob⟩
 ·obtain ⟨q1, q2, q3, q4⟩ := b5 b hb
  exact ⟨q1, q2, q3, fun k hk => q4 k (p3 k hk)⟩
 ·exact (h.mem.boxS k (p3 k hk)).2 (p4 _ _ (by rw [hab.length, ← p1.length]) k hk hlk)
 ·exact List.contains_iff_mem.1 (List.all_eq_true.1 hptr b hb)
 ·rcases hb with hb | ⟨id, hi, hb⟩
  ·exact h.fix.2.2 b hb
  ·exact .inr (h.mem.row id b hb (b7 id hi).1).2.1
end
end
section
theorem Qlw {P : Program} {Q : Exit → Act → World → Prop} {c : Code} (J : Nat → Act → World → Prop)
  (round : ∀ k a w, J k a w → c.wp P (Exit.then (fun a' w' => ∃ k', k' < k ∧ J k' a' w') Q) a w) {n : Nat} {a : Act} {w : World} (h₀ : J n a w) : (Code.loop c).wp P Q a w := by
 intro b k cs
 have key : ∀ n a w, J n a w → ∃ e a' w', Q e a' w' ∧ Arrives P (lone (b.at a (.code c :: .inLoop c :: k)) cs w) b k cs e a' w' := by
  intro n
  induction n using Nat.strongRecOn with
  | _ n ih =>
   intro a w hI
   obtain ⟨e, a₁, w₁, hq, harr⟩ := round n a w hI b (.inLoop c :: k) cs
   cases e with
   | normal =>
    obtain ⟨n', hlt, hI₁⟩ := hq
    obtain ⟨e₂, a₂, w₂, hq₂, harr₂⟩ := ih n' hlt a₁ w₁ hI₁
    exact ⟨e₂, a₂, w₂, hq₂, .of_steps (Steps.trans harr (.one step_inLoop)) harr₂⟩
   | exit id => exact ⟨_, a₁, w₁, hq, .pass (x := .inLoop c) rfl (fun _ _ => .inl (by simp)) harr⟩
   | goto l => exact ⟨_, a₁, w₁, hq, .pass (x := .inLoop c) rfl (fun _ _ => .inl (by simp)) harr⟩
   | ret => exact ⟨_, a₁, w₁, hq, .pass (x := .inLoop c) rfl (fun _ _ => .inl (by simp)) harr⟩
   | panic ch => exact ⟨_, a₁, w₁, hq, .pass (x := .inLoop c) rfl (fun _ _ => .inl (by simp)) harr⟩
   | outgrown => exact ⟨_, a₁, w₁, hq, .pass (x := .inLoop c) rfl (fun _ _ => .inl (by simp)) harr⟩
 obtain ⟨e, a', w', hq, harr⟩ := key n a w h₀
 exact ⟨e, a', w', hq, .of_steps (.one step_loop) harr⟩
section
variable {E : Env} {base : Nat} {Mod : Nat → Prop} {w0 : Org} {O : Type} {ret : St → Option O}
theorem Qlc (hE : EnvOk E) (hmix : E.P.follows .mixedOrders = true) :
  ∀ (ann : Ann) (c : Code) {R : Type} (K : Kont O R) (st : St) (r : R) (m : Emb) (a : Act) (w : World) (Q : Exit → Act → World → Prop),
   Qch E ret ann c K st = some r → Rel E.F base Mod w0 m st a w →
   (∀ m' st' a' w', Rel E.F base Mod w0 m' st' a' w' → K.nor st' = some r → Q .normal a' w') →
   (∀ id m' st' a' w', Rel E.F base Mod w0 m' st' a' w' → K.ex id st' = some r → Q (.exit id) a' w') →
   (∀ o m' st' a' w', Rel E.F base Mod w0 m' st' a' w' → ret st' = some o → K.ret o = some r → Q .ret a' w') → c.wp E.P Q a w := by
 intro ann
 induction ann with
 | leaf =>
  intro c R K st r m a w Q hK h hn hx hr
  cases c <;> simp only [Qch] at hK <;> try (cases hK; done)
  ·exact wp_skip (hn _ _ _ _ h hK)
  ·exact Qlm hE hmix h hK hn
  ·exact wp_exit (hx _ _ _ _ _ h hK)
  ·obtain ⟨o, ho, hK⟩ := Option.bind_eq_some_iff.1 hK
   exact wp_ret (hr o _ _ _ _ h ho hK)
 | seq x y ihx ihy =>
  intro c R K st r m a w Q hK h hn hx hr
  cases c <;> simp only [Qch] at hK <;> try (cases hK; done)
  refine wp_seq (ihx _ _ st r m a w _ hK h ?_ ?_ ?_)
  ·intro m' st' a' w' h' hK'
   exact ihy _ K st' r m' a' w' Q hK' h' hn hx hr
  ·intro id m' st' a' w' h' hK'; exact hx id m' st' a' w' h' hK'
  ·intro o m' st' a' w' h' ho hK'; exact hr o m' st' a' w' h' ho hK'
 | cond x y ihx ihy =>
  intro c R K st r m a w Q hK h hn hx hr
  cases c with
  | cond cc p q =>
   cases cc with
   | tmp t =>
    simp only [Qch] at hK
    obtain ⟨b, hb, hK⟩ := Qfk hK
    have hv := h.slot t
    rw [hb] at hv
    refine wp_cond (t := b) (show a.eval (.tmp t) = .bool b from hv) ?_
    cases b with
    | true => exact ihx _ K st r m a w Q hK h hn hx hr
    | false => exact ihy _ K st r m a w Q hK h hn hx hr
   | _ => simp [Qch] at hK
  | _ => simp [Qch] at hK
 | blk x ih =>
  intro c R K st r m a w Q hK h hn hx hr
  cases c <;> simp only [Qch] at hK <;> try (cases hK; done)
  rename_i id c
  refine wp_block (ih _ _ st r m a w _ hK h ?_ ?_ ?_)
  ·exact hn
  ·intro i m' st' a' w' h' hK'
   show if i = id then Q .normal a' w' else Q (.exit i) a' w'
   simp only at hK'
   split at hK'
   ·rename_i e; rw [if_pos e]; exact hn _ _ _ _ h' hK'
   ·rename_i e; rw [if_neg e]; exact hx _ _ _ _ _ h' hK'
  ·exact hr
 | loop v x body ih =>
  intro c R K st r m a w Q hK h hn hx hr
  cases c with
  | block id c =>
   cases c with
   | loop c =>
    simp only [Qch] at hK
    split at hK
    ·cases hK
    rename_i s hs
    obtain ⟨y, hy, hK⟩ := Option.bind_eq_some_iff.1 hK
    obtain ⟨m1, h1⟩ := Qhq h hs
    refine wp_block (Qlw (fun k a w => ∃ s m, Rel E.F base Mod w0 m (Qgi v s) a w ∧ iter (X := Item.T x ⊕ O) (fun s => Qch E ret body c
     { nor := fun st' => (pack v st').map .inl, ex := fun i st' => if i = id then (pack x st').map (fun y => .inr (.inl y)) else none, ret := fun o => some (.inr (.inr o)) } (Qgi v s)) k s = some y) ?_ (n := E.k) ⟨s, m1, h1, hy⟩)
    rintro k a1 w1 ⟨s1, m2, h2, hit⟩
    cases k with
    | zero => simp [iter] at hit
    | succ k =>
     simp only [iter] at hit
     obtain ⟨res, hres, hit⟩ := Option.bind_eq_some_iff.1 hit
     refine ih c _ _ res m2 a1 w1 _ hres h2 ?_ ?_ ?_
     ·intro m' st' a' w' h' hK'
      obtain ⟨s2, hs2, rfl⟩ := Option.map_eq_some_iff.1 hK'
      obtain ⟨m3, h3⟩ := Qhq h' hs2
      exact ⟨k, Nat.lt_succ_self k, s2, m3, h3, hit⟩
     ·intro i m' st' a' w' h' hK'
      simp only at hK'
      split at hK'
      ·rename_i e
       obtain ⟨y2, hy2, rfl⟩ := Option.map_eq_some_iff.1 hK'
       simp only [Zj] at hit; subst hit
       obtain ⟨m3, h3⟩ := Qhq h' hy2
       show if i = id then Q .normal a' w' else Q (.exit i) a' w'
       rw [if_pos e]
       exact hn _ _ _ _ h3 hK
      ·cases hK'
     ·intro o m' st' a' w' h' ho hK'
      simp only [Zj] at hK'; subst hK'
      simp only [Zj] at hit; subst hit
      exact hr o _ _ _ _ h' ho hK
   | _ => simp [Qch] at hK
  | _ => simp [Qch] at hK
 | cut x body ih =>
  intro c R K st r m a w Q hK h hn hx hr
  rw [Qch] at hK
  obtain ⟨y, hy, hK⟩ := Option.bind_eq_some_iff.1 hK
  refine ih c _ st y m a w _ hy h ?_ ?_ ?_
  ·intro m' st' a' w' h' hK'
   obtain ⟨s2, hs2, rfl⟩ := Option.map_eq_some_iff.1 hK'
   obtain ⟨m3, h3⟩ := Qhq h' hs2
   exact hn _ _ _ _ h3 hK
  ·intro id m' st' a' w' h' hK'; cases hK'
  ·intro o m' st' a' w' h' ho hK'
   simp only [Zj] at hK'; subst hK'
   exact hr o _ _ _ _ h' ho hK
end
end
section
section
variable {E : Env} {base : Nat} {N : Rim} {Mod : Nat → Prop} {w0 : Org} {m : Emb} {st : St} {a : Act} {w : World}
def Qil (tmps : Array Value) : ResultVar → Sem Value
 | .tmp t => pure (tmps.getD t undef)
 | .cell a t => do loadVar t (← asAddr (tmps.getD a undef))
theorem Qex (h : Rel N base Mod w0 m st a w) : ∀ {rs : List ResultVar} {ks : List RK} {ls : List (List AC)}, Qcr E st rs ks = some ls →
  ∃ us vss, (rs.mapM (Qil a.tmps)).run E.P w = .ok us w ∧ ResL ks us vss ∧ All2 (All2 (RelAC m st w)) ls vss
 | [], [], ls, hp => by
  simp only [Qcr, Zj] at hp; subst hp
  exact ⟨[], [], by simp, trivial, trivial⟩
 | .tmp t :: rs, r :: ks, ls, hp => by
  simp only [Qcr] at hp
  split at hp <;> try cases hp
  rename_i x l h1 h2
  obtain ⟨us, vss, i1, i2, i3⟩ := Qex h h2
  have hv := h.slot t
  have hrun : ((ResultVar.tmp t :: rs).mapM (Qil a.tmps)).run E.P w = .ok (a.tmps.getD t undef :: us) w := by
   simp only [List.mapM_cons, Sem.run_bind, Qil, Sem.run_pure, Result.andThen_ok, i1]
  obtain ⟨agg, c, own⟩ := r
  cases agg with
  | true =>
   cases hs : st.slot t <;> simp only [hs, Qcl] at h1 <;> try (cases h1; done)
   simp only [Zj] at h1; subst h1
   rw [hs] at hv
   obtain ⟨arr, h3, h4⟩ := hv
   exact ⟨_, arr.toList :: vss, hrun, ⟨by simpa using h3, i2⟩, ⟨h4, i3⟩⟩
  | false =>
   cases hs : st.slot t <;> simp only [hs, Qcl] at h1 <;> try (cases h1; done)
   simp only [Zj] at h1; subst h1
   rw [hs] at hv
   exact ⟨_, [a.tmps.getD t undef] :: vss, hrun, ⟨by simp, i2⟩, ⟨⟨hv, trivial⟩, i3⟩⟩
 | .cell t T :: rs, r :: ks, ls, hp => by
  simp only [Qcr] at hp
  split at hp <;> try cases hp
  rename_i b hs
  split at hp <;> try cases hp
  rename_i T' c l hb h2
  split at hp
  case isFalse => cases hp
  rename_i hc
  simp only [Zj] at hp; subst hp
  simp only [Zd, Zq, beq_iff_eq] at hc
  obtain ⟨⟨rfl, hagg⟩, hlen⟩ := hc
  obtain ⟨us, vss, i1, i2, i3⟩ := Qex h h2
  have hv := h.slot t
  rw [hs] at hv
  obtain ⟨_, hv⟩ := hv
  obtain ⟨arr, hh, hr⟩ := h.mem.box b T' c hb
  have hcell : ∀ j, w.cell? ⟨m.bl b, j, none⟩ = arr[j]? := fun j => cell_of_row w _ _ _ _ _ hh
  have hal : arr.toList.length = c.length := hr.length.symm
  obtain ⟨agg, ck, own⟩ := r
  cases agg with
  | true =>
   simp only [Zy] at hlen
   have hl := Qcy (E := E) (w := w) (t := T') (b := m.bl b) (off := 0) (vs := arr.toList) (fun j v hv => by
    rw [hcell]; simpa using hv) hagg (by omega)
   refine ⟨.agg arr :: us, arr.toList :: vss, ?_, ⟨by simp, i2⟩, ⟨hr, i3⟩⟩
   simp only [List.mapM_cons, Sem.run_bind, Qil, hv, asAddr, Sem.run_pure, Result.andThen_ok, i1]
   simp only [hl, Result.andThen_ok, i1]
  | false =>
   simp only [Zz] at hlen
   match c, hlen with
   | [x], _ =>
    match hal' : arr.toList, hr with
    | [v], hr =>
     have hl := Qck (E := E) (w := w) (t := T') (b := m.bl b) (off := 0) (v := v) (by rw [hcell, ← Array.getElem?_toList, hal']; rfl) hagg
     refine ⟨v :: us, [v] :: vss, ?_, ⟨by simp, i2⟩, ⟨hr, i3⟩⟩
     simp only [List.mapM_cons, Sem.run_bind, Qil, hv, asAddr, Sem.run_pure, Result.andThen_ok, i1]
     simp only [hl, Result.andThen_ok, i1]
    | [], hr => exact hr.elim
    | _ :: _ :: _, hr => exact hr.2.elim
 | [], _ :: _, _, hp => by simp [Qcr] at hp
 | .tmp _ :: _, [], _, hp => by simp [Qcr] at hp
 | .cell _ _ :: _, [], _, hp => by simp [Qcr] at hp
theorem Qmq {P : Program} {fn : Func} {tmps : Array Value} {us : List Value} (h : (fn.results.toList.mapM (Qil tmps)).run P w = .ok us w) :
  (results fn tmps).run P w = .ok (if h : us.toArray.size = 1 then us.toArray[0] else .tuple us.toArray) w := by
 have e : results fn tmps = (do
  let vs ← fn.results.mapM (Qil tmps)
  pure (if h : vs.size = 1 then vs[0] else .tuple vs)) := by
  unfold results
  congr 2
 rw [e, Array.mapM_eq_mapM_toList]
 simp only [Sem.run_bind, Sem.run_map, h, Result.andThen_ok, Sem.run_pure]
theorem Qpq : ∀ {ks : List RK} {us : List Value} {vss : List (List Value)}, ResL ks us vss → ResAt ks (if h : us.toArray.size = 1 then us.toArray[0] else .tuple us.toArray) vss
 | [], [], vss, h => ⟨#[], by simp, h⟩
 | [r], [u], vss, h => by simpa [ResAt] using h
 | r :: q :: ks, [], vss, h => by cases vss <;> exact h.elim
 | r :: q :: ks, [u], vss, h => by
  match vss, h with
  | [], h => exact h.elim
  | [_], h => exact h.2.elim
  | _ :: _ :: _, h => exact h.2.elim
 | r :: q :: ks, u :: v :: us, vss, h => ⟨(u :: v :: us).toArray, by simp, by simpa using h⟩
 | [], _ :: _, vss, h => by cases vss <;> exact h.elim
 | [_], [], vss, h => by cases vss <;> exact h.elim
 | [_], _ :: _ :: _, vss, h => by
  match vss, h with
  | [], h => exact h.elim
  | [_], h => exact h.2.elim
  | _ :: _ :: _, h => exact h.2.elim
theorem Qbr (h : Rel N base Mod w0 m st a w) : ∀ {ps : List PK} {n : Nat} {vs : List Value} {vss0 : List (List Value)} {wa : World} {ls : List (List AC)}, Qaw st ps n = some ls → Qcc wa ps vs vss0 → n + ps.length < 1000 →
  (∀ i v b, vs[i]? = some v → blkOf v = [b] → w0.bl (n + i + 1) = b) → (∀ i v agg c, ps[i]? = some (.lent agg c) → vs[i]? = some v → w0.pin (n + i) = some v) → ∃ vo, Qbb w ps vs vo ∧ All2 (All2 (RelAC m st w)) ls vo
 | [], n, vs, vss0, wa, ls, hp, ha, _, _, _ => by
  simp only [Qaw, Zj] at hp; subst hp
  match vs, vss0, ha with
  | [], [], _ => exact ⟨[], rfl, trivial⟩
  | [], _ :: _, ha => exact ha.elim
  | _ :: _, [], ha => exact ha.elim
  | _ :: _, _ :: _, ha => exact ha.elim
 | .lent agg c :: ps, n, vs, vss0, wa, ls, hp, ha, hn, hb, hpn => by
  match vs, vss0, ha with
  | v :: vs, l :: vss0, ha =>
   simp only [Qaw] at hp
   split at hp <;> try cases hp
   rename_i l1 ls1 h1 h2
   simp only [Zl] at hn
   obtain ⟨vo, i1, i2⟩ := Qbr h h2 ha.2 (by omega) (fun i v b hi hv => by have := hb (i + 1) v b (by simpa using hi) hv; rw [← this]; congr 1; omega)
    (fun i v agg c h1 h2 => by have := hpn (i + 1) v agg c (by simpa using h1) (by simpa using h2); rw [← this]; congr 1; omega)
   have hv := h.slot n
   rw [(h.defers.2 n v (hpn 0 v agg c rfl rfl)).2] at hv
   cases agg with
   | true =>
    cases hs : st.slot n <;> simp only [hs, Qcl] at h1 <;> try (cases h1; done)
    simp only [Zj] at h1; subst h1
    rw [hs] at hv
    obtain ⟨arr, h3, h4⟩ := hv
    exact ⟨arr.toList :: vo, ⟨_, _, rfl, by simpa using h3, i1⟩, ⟨h4, i2⟩⟩
   | false =>
    cases hs : st.slot n <;> simp only [hs, Qcl] at h1 <;> try (cases h1; done)
    simp only [Zj] at h1; subst h1
    rw [hs] at hv
    exact ⟨[v] :: vo, ⟨_, _, rfl, by simp, i1⟩, ⟨⟨hv, trivial⟩, i2⟩⟩
  | [], [], ha => exact ha.elim
  | [], _ :: _, ha => exact ha.elim
  | _ :: _, [], ha => exact ha.elim
 | .val agg c :: ps, n, vs, vss0, wa, ls, hp, ha, hn, hb, hpn => by
  match vs, vss0, ha with
  | v :: vs, l :: vss0, ha =>
   simp only [Qaw] at hp
   simp only [Zl] at hn
   obtain ⟨vo, i1, i2⟩ := Qbr h hp ha.2 (by omega) (fun i v b hi hv => by have := hb (i + 1) v b (by simpa using hi) hv; rw [← this]; congr 1; omega)
    (fun i v agg c h1 h2 => by have := hpn (i + 1) v agg c (by simpa using h1) (by simpa using h2); rw [← this]; congr 1; omega)
   exact ⟨vo, i1, i2⟩
  | [], [], ha => exact ha.elim
  | [], _ :: _, ha => exact ha.elim
  | _ :: _, [], ha => exact ha.elim
 | .give agg c :: ps, n, vs, vss0, wa, ls, hp, ha, hn, hb, hpn => by
  match vs, vss0, ha with
  | v :: vs, l :: vss0, ha =>
   simp only [Qaw] at hp
   simp only [Zl] at hn
   obtain ⟨vo, i1, i2⟩ := Qbr h hp ha.2 (by omega) (fun i v b hi hv => by have := hb (i + 1) v b (by simpa using hi) hv; rw [← this]; congr 1; omega)
    (fun i v agg c h1 h2 => by have := hpn (i + 1) v agg c (by simpa using h1) (by simpa using h2); rw [← this]; congr 1; omega)
   exact ⟨vo, i1, i2⟩
  | [], [], ha => exact ha.elim
  | [], _ :: _, ha => exact ha.elim
  | _ :: _, [], ha => exact ha.elim
 | .clo f fst t c :: ps, n, vs, vss0, wa, ls, hp, ha, hn, hb, hpn => by
  match vs, vss0, ha with
  | v :: vs, l :: vss0, ha =>
   simp only [Qaw] at hp
   simp only [Zl] at hn
   obtain ⟨vo, i1, i2⟩ := Qbr h hp ha.2 (by omega) (fun i v b hi hv => by have := hb (i + 1) v b (by simpa using hi) hv; rw [← this]; congr 1; omega)
    (fun i v agg c h1 h2 => by have := hpn (i + 1) v agg c (by simpa using h1) (by simpa using h2); rw [← this]; congr 1; omega)
   exact ⟨vo, i1, i2⟩
  | [], [], ha => exact ha.elim
  | [], _ :: _, ha => exact ha.elim
  | _ :: _, [], ha => exact ha.elim
 | .box t c own rw :: ps, n, vs, vss0, wa, ls, hp, ha, hn, hb, hpn => by
  match vs, vss0, ha with
  | v :: vs, l :: vss0, ha =>
   simp only [Qaw] at hp
   simp only [Zl] at hn
   have hb' : ∀ i v b, vs[i]? = some v → blkOf v = [b] → w0.bl (n + 1 + i + 1) = b := fun i v b hi hv => by
    have := hb (i + 1) v b (by simpa using hi) hv; rw [← this]; congr 1; omega
   have hpn' : ∀ i v agg c, ps[i]? = some (.lent agg c) → vs[i]? = some v → w0.pin (n + 1 + i) = some v :=
    fun i v agg c h1 h2 => by have := hpn (i + 1) v agg c (by simpa using h1) (by simpa using h2); rw [← this]; congr 1; omega
   obtain ⟨⟨b, rfl, _⟩, ha2⟩ := ha
   cases rw with
   | false =>
    simp only [Zz] at hp
    obtain ⟨vo, i1, i2⟩ := Qbr h hp ha2 (by omega) hb' hpn'
    exact ⟨vo, by simpa [Qbb] using i1, i2⟩
   | true =>
    simp only [Zy] at hp
    split at hp <;> try cases hp
    rename_i t' l' ls' h1 h2
    split at hp
    case isFalse => cases hp
    rename_i e; subst e
    simp only [Zj] at hp; subst hp
    obtain ⟨vo, i1, i2⟩ := Qbr h h2 ha2 (by omega) hb' hpn'
    obtain ⟨arr, hh, hr⟩ := h.mem.box (n + 1) t' l' h1
    rw [h.fix.1 (n + 1) (by omega), show w0.bl (n + 1) = b from hb 0 _ b rfl rfl] at hh
    exact ⟨arr.toList :: vo, by simp only [Qbb, if_true]; exact ⟨_, _, rfl, ⟨b, rfl, by simpa using hh⟩, i1⟩, ⟨hr, i2⟩⟩
  | [], [], ha => exact ha.elim
  | [], _ :: _, ha => exact ha.elim
  | _ :: _, [], ha => exact ha.elim
theorem Qbk : ∀ (ps : List PK) (n : Nat), Item.ptrs (Qaa ps n) = Item.boxes (Qaa ps n)
 | [], _ => rfl
 | .val _ _ :: ps, n => by simp only [Qaa, Item.ptrs, Item.boxes]; exact Qbk ps _
 | .lent _ _ :: ps, n => by simp only [Qaa, Item.ptrs, Item.boxes]; exact Qbk ps _
 | .box _ _ _ _ :: ps, n => by simp only [Qaa, Item.ptrs, Item.boxes]; rw [Qbk ps _]
 | .give _ _ :: ps, n => by simp only [Qaa, Item.ptrs, Item.boxes]; exact Qbk ps _
 | .clo _ _ _ _ :: ps, n => by simp only [Qaa, Item.ptrs, Item.boxes]; rw [Qbk ps _]
theorem Qbz {bl : Nat → Nat} : ∀ {ps : List PK} {vs : List Value} {vss : List (List Value)} {n : Nat}, Qcc w ps vs vss → (∀ i v, vs[i]? = some v → a.tmps.getD (n + i) undef = v) →
  (∀ i v b, vs[i]? = some v → blkOf v = [b] → bl (n + i + 1) = b) →
  Qcu a w bl (Qaa ps n) vss ∧ (Item.boxes (Qaa ps n)).map bl = Qae ps vs ∧ (∀ k ∈ Item.boxes (Qaa ps n), k < n + ps.length + 1) ∧
  (∀ ms st0, ms.length = vss.length → ∀ k ∈ Item.boxes (Qaa ps n), (lay (Qaa ps n) ms st0).lock k = false → bl k ∈ Qab ps vs)
 | [], [], [], n, _, _, _ => ⟨rfl, rfl, by simp [Qaa, Item.boxes], by simp [Qaa, Item.boxes]⟩
 | .val agg c :: ps, v :: vs, l :: vss, n, h, ht, hb => by
  obtain ⟨i1, i2, i3, i4⟩ := Qbz (n := n + 1) h.2 (fun i v hi => by have := ht (i + 1) v (by simpa using hi); rw [← this]; congr 1; omega) (fun i v b hi hv => by have := hb (i + 1) v b (by simpa using hi) hv; rw [← this]; congr 1; omega)
  have h0 := ht 0 v rfl
  refine ⟨⟨l, vss, rfl, ?_, i1⟩, by simpa [Qaa, Item.boxes, Qae] using i2, fun k hk => ?_, fun ms st0 hl k hk hlk => ?_⟩
  ·have h1 := h.1
   cases agg with
   | true => simp only [if_true] at h1 ⊢; rw [show a.tmps.getD n undef = v from h0]; exact h1
   | false => simp only [Bool.false_eq_true, if_false] at h1 ⊢; rw [show a.tmps.getD n undef = v from h0]; exact h1
  ·have := i3 k (by simpa [Qaa, Item.boxes] using hk); simp only [Zl]; omega
  ·match ms, hl with
   | y :: ms, hl =>
    simp only [Qaa, lay] at hlk
    simpa [Qab] using i4 ms _ (by simpa using hl) k (by simpa [Qaa, Item.boxes] using hk) hlk
 | .lent agg c :: ps, v :: vs, l :: vss, n, h, ht, hb => by
  obtain ⟨i1, i2, i3, i4⟩ := Qbz (n := n + 1) h.2 (fun i v hi => by have := ht (i + 1) v (by simpa using hi); rw [← this]; congr 1; omega) (fun i v b hi hv => by have := hb (i + 1) v b (by simpa using hi) hv; rw [← this]; congr 1; omega)
  have h0 := ht 0 v rfl
  refine ⟨⟨l, vss, rfl, ?_, i1⟩, by simpa [Qaa, Item.boxes, Qae] using i2, fun k hk => ?_, fun ms st0 hl k hk hlk => ?_⟩
  ·have h1 := h.1
   cases agg with
   | true => simp only [if_true] at h1 ⊢; rw [show a.tmps.getD n undef = v from h0]; exact h1
   | false => simp only [Bool.false_eq_true, if_false] at h1 ⊢; rw [show a.tmps.getD n undef = v from h0]; exact h1
  ·have := i3 k (by simpa [Qaa, Item.boxes] using hk); simp only [Zl]; omega
  ·match ms, hl with
   | y :: ms, hl =>
    simp only [Qaa, lay] at hlk
    simpa [Qab] using i4 ms _ (by simpa using hl) k (by simpa [Qaa, Item.boxes] using hk) hlk
 | .give agg c :: ps, v :: vs, l :: vss, n, h, ht, hb => by
  obtain ⟨i1, i2, i3, i4⟩ := Qbz (n := n + 1) h.2 (fun i v hi => by have := ht (i + 1) v (by simpa using hi); rw [← this]; congr 1; omega) (fun i v b hi hv => by have := hb (i + 1) v b (by simpa using hi) hv; rw [← this]; congr 1; omega)
  have h0 := ht 0 v rfl
  refine ⟨⟨l, vss, rfl, ?_, i1⟩, by simpa [Qaa, Item.boxes, Qae] using i2, fun k hk => ?_, fun ms st0 hl k hk hlk => ?_⟩
  ·have h1 := h.1
   cases agg with
   | true => simp only [if_true] at h1 ⊢; rw [show a.tmps.getD n undef = v from h0]; exact h1
   | false => simp only [Bool.false_eq_true, if_false] at h1 ⊢; rw [show a.tmps.getD n undef = v from h0]; exact h1
  ·have := i3 k (by simpa [Qaa, Item.boxes] using hk); simp only [Zl]; omega
  ·match ms, hl with
   | y :: ms, hl =>
    simp only [Qaa, lay] at hlk
    simpa [Qab] using i4 ms _ (by simpa using hl) k (by simpa [Qaa, Item.boxes] using hk) hlk
 | .box t c own rw :: ps, v :: vs, l :: vss, n, h, ht, hb => by
  obtain ⟨i1, i2, i3, i4⟩ := Qbz (n := n + 1) h.2 (fun i v hi => by have := ht (i + 1) v (by simpa using hi); rw [← this]; congr 1; omega) (fun i v b hi hv => by have := hb (i + 1) v b (by simpa using hi) hv; rw [← this]; congr 1; omega)
  have h0 := ht 0 v rfl
  obtain ⟨⟨b, rfl, hc⟩, _⟩ := h
  have hbl : bl (n + 1) = b := hb 0 _ b rfl rfl
  refine ⟨⟨by rw [show a.tmps.getD n undef = _ from h0, hbl], l, vss, rfl, by rw [hbl]; exact hc, i1⟩, by simpa [Qaa, Item.boxes, Qae, blkOf, hbl] using i2, fun k hk => ?_, fun ms st0 hl k hk hlk => ?_⟩
  ·simp only [Qaa, Item.boxes, List.mem_cons] at hk
   simp only [Zl]
   rcases hk with rfl | hk
   ·omega
   ·have := i3 k hk; omega
  ·match ms, hl with
   | y :: ms, hl =>
    simp only [Qaa, lay] at hlk
    simp only [Qaa, Item.boxes, List.mem_cons] at hk
    rcases hk with rfl | hk
    ·cases rw with
     | true => simp [Qab, blkOf, hbl]
     | false =>
      simp only [Bool.not_false, Zy] at hlk
      have := (Qbo (Qaa ps (n + 1)) ms ((((st0.put n (.one (.ptr (n + 1) 0))).setBox (n + 1) (t, y)).use (n + 1)).bar (n + 1)) (n + 1)).2.1 (by simp [St.bar])
      rw [this] at hlk; cases hlk
    ·simp only [Qab, List.mem_append]
     exact .inr (i4 ms _ (by simpa using hl) k hk hlk)
 | .clo f fst t c :: ps, v :: vs, l :: vss, n, h, ht, hb => by
  obtain ⟨i1, i2, i3, i4⟩ := Qbz (n := n + 1) h.2 (fun i v hi => by have := ht (i + 1) v (by simpa using hi); rw [← this]; congr 1; omega) (fun i v b hi hv => by have := hb (i + 1) v b (by simpa using hi) hv; rw [← this]; congr 1; omega)
  have h0 := ht 0 v rfl
  obtain ⟨⟨b, rfl, hc⟩, _⟩ := h
  have hbo : blkOf (.func (.func f) (cond fst #[.pointer (some ⟨b, 0, none⟩)] #[]) (cond fst #[] #[.pointer (some ⟨b, 0, none⟩)])) = [b] := by cases fst <;> rfl
  have hbl : bl (n + 1) = b := hb 0 _ b rfl hbo
  refine ⟨⟨by rw [show a.tmps.getD n undef = _ from h0, hbl], l, vss, rfl, by rw [hbl]; exact hc, i1⟩, by simp only [Qaa, Item.boxes, Qae, hbo, List.map_cons, hbl, i2]; rfl, fun k hk => ?_, fun ms st0 hl k hk hlk => ?_⟩
  ·simp only [Qaa, Item.boxes, List.mem_cons] at hk
   simp only [Zl]
   rcases hk with rfl | hk
   ·omega
   ·have := i3 k hk; omega
  ·match ms, hl with
   | y :: ms, hl =>
    simp only [Qaa, lay] at hlk
    simp only [Qaa, Item.boxes, List.mem_cons] at hk
    rcases hk with rfl | hk
    ·have := (Qbo (Qaa ps (n + 1)) ms ((((st0.put n (.one (.fn f fst [(n + 1, 0)]))).setBox (n + 1) (t, y)).use (n + 1)).bar (n + 1)) (n + 1)).2.1 (by simp [St.bar])
     simp only [Zy] at hlk
     rw [this] at hlk; cases hlk
    ·simp only [Qab]
     exact i4 ms _ (by simpa using hl) k hk hlk
 | [], [], _ :: _, _, h, _, _ => h.elim
 | [], _ :: _, [], _, h, _, _ => h.elim
 | [], _ :: _, _ :: _, _, h, _, _ => h.elim
 | .lent _ _ :: _, [], [], _, h, _, _ => h.elim
 | .lent _ _ :: _, [], _ :: _, _, h, _, _ => h.elim
 | .lent _ _ :: _, _ :: _, [], _, h, _, _ => h.elim
 | .give _ _ :: _, [], [], _, h, _, _ => h.elim
 | .give _ _ :: _, [], _ :: _, _, h, _, _ => h.elim
 | .give _ _ :: _, _ :: _, [], _, h, _, _ => h.elim
 | .clo _ _ _ _ :: _, [], [], _, h, _, _ => h.elim
 | .clo _ _ _ _ :: _, [], _ :: _, _, h, _, _ => h.elim
 | .clo _ _ _ _ :: _, _ :: _, [], _, h, _, _ => h.elim
 | .val _ _ :: _, [], [], _, h, _, _ => h.elim
 | .val _ _ :: _, [], _ :: _, _, h, _, _ => h.elim
 | .val _ _ :: _, _ :: _, [], _, h, _, _ => h.elim
 | .box _ _ _ _ :: _, [], [], _, h, _, _ => h.elim
 | .box _ _ _ _ :: _, [], _ :: _, _, h, _, _ => h.elim
 | .box _ _ _ _ :: _, _ :: _, [], _, h, _, _ => h.elim
theorem Qcc.length : ∀ {ps : List PK} {vs : List Value} {vss : List (List Value)}, Qcc w ps vs vss → vs.length = ps.length ∧ vss.length = ps.length
 | [], [], [], _ => ⟨rfl, rfl⟩
 | .val _ _ :: ps, _ :: vs, _ :: vss, h => by have := Qcc.length h.2; simp [this.1, this.2]
 | .lent _ _ :: ps, _ :: vs, _ :: vss, h => by have := Qcc.length h.2; simp [this.1, this.2]
 | .lent _ _ :: _, [], [], h => h.elim
 | .lent _ _ :: _, [], _ :: _, h => h.elim
 | .lent _ _ :: _, _ :: _, [], h => h.elim
 | .give _ _ :: ps, _ :: vs, _ :: vss, h => by have := Qcc.length h.2; simp [this.1, this.2]
 | .give _ _ :: _, [], [], h => h.elim
 | .give _ _ :: _, [], _ :: _, h => h.elim
 | .give _ _ :: _, _ :: _, [], h => h.elim
 | .clo _ _ _ _ :: ps, _ :: vs, _ :: vss, h => by have := Qcc.length h.2; simp [this.1, this.2]
 | .clo _ _ _ _ :: _, [], [], h => h.elim
 | .clo _ _ _ _ :: _, [], _ :: _, h => h.elim
 | .clo _ _ _ _ :: _, _ :: _, [], h => h.elim
 | .box _ _ _ _ :: ps, _ :: vs, _ :: vss, h => by have := Qcc.length h.2; simp [this.1, this.2]
 | [], [], _ :: _, h => h.elim
 | [], _ :: _, [], h => h.elim
 | [], _ :: _, _ :: _, h => h.elim
 | .val _ _ :: _, [], [], h => h.elim
 | .val _ _ :: _, [], _ :: _, h => h.elim
 | .val _ _ :: _, _ :: _, [], h => h.elim
 | .box _ _ _ _ :: _, [], [], h => h.elim
 | .box _ _ _ _ :: _, [], _ :: _, h => h.elim
 | .box _ _ _ _ :: _, _ :: _, [], h => h.elim
theorem Qeq {α β : Type} {f : α → β} : ∀ {l : List α}, (l.map f).Nodup → ∀ x y, x ∈ l → y ∈ l → f x = f y → x = y
 | [], _, x, _, hx, _, _ => by simp at hx
 | z :: l, h, x, y, hx, hy, he => by
  simp only [List.map_cons, List.nodup_cons] at h
  rcases List.mem_cons.1 hx with hx' | hx' <;> rcases List.mem_cons.1 hy with hy' | hy'
  ·rw [hx', hy']
  ·exact (h.1 (List.mem_map.2 ⟨y, hy', by rw [← he, hx']⟩)).elim
  ·exact (h.1 (List.mem_map.2 ⟨x, hx', by rw [he, hy']⟩)).elim
  ·exact Qeq h.2 x y hx' hy' he
theorem Qjd : ∀ {ps : List PK} {vs : List Value} {vss : List (List Value)}, Qcc w ps vs vss → ∀ b ∈ Qae ps vs, b < w.heap.size
 | [], _, _, _, b, hb => by simp [Qae] at hb
 | .val _ _ :: ps, v :: vs, l :: vss, h, b, hb => Qjd h.2 b (by simpa [Qae] using hb)
 | .lent _ _ :: ps, v :: vs, l :: vss, h, b, hb => Qjd h.2 b (by simpa [Qae] using hb)
 | .lent _ _ :: _, [], _, _, b, hb => by simp [Qae] at hb
 | .lent _ _ :: _, _ :: _, [], h, _, _ => h.elim
 | .give _ _ :: ps, v :: vs, l :: vss, h, b, hb => Qjd h.2 b (by simpa [Qae] using hb)
 | .give _ _ :: _, [], _, _, b, hb => by simp [Qae] at hb
 | .give _ _ :: _, _ :: _, [], h, _, _ => h.elim
 | .clo f fst t c :: ps, v :: vs, l :: vss, h, b, hb => by
  obtain ⟨⟨b', rfl, hc⟩, h⟩ := h
  have hbo : blkOf (.func (.func f) (cond fst #[.pointer (some ⟨b', 0, none⟩)] #[]) (cond fst #[] #[.pointer (some ⟨b', 0, none⟩)])) = [b'] := by cases fst <;> rfl
  simp only [Qae, hbo, List.mem_append, List.mem_singleton] at hb
  rcases hb with rfl | hb
  ·exact (Array.getElem?_eq_some_iff.1 hc).1
  ·exact Qjd h b hb
 | .clo _ _ _ _ :: _, [], _, _, b, hb => by simp [Qae] at hb
 | .clo _ _ _ _ :: _, _ :: _, [], h, _, _ => h.elim
 | .box t c own rw :: ps, v :: vs, l :: vss, h, b, hb => by
  obtain ⟨⟨b', rfl, hc⟩, h⟩ := h
  simp only [Qae, blkOf, List.mem_append, List.mem_singleton] at hb
  rcases hb with rfl | hb
  ·exact (Array.getElem?_eq_some_iff.1 hc).1
  ·exact Qjd h b hb
 | .val _ _ :: _, [], _, _, b, hb => by simp [Qae] at hb
 | .box _ _ _ _ :: _, [], _, _, b, hb => by simp [Qae] at hb
 | .val _ _ :: _, _ :: _, [], h, _, _ => h.elim
 | .box _ _ _ _ :: _, _ :: _, [], h, _, _ => h.elim
theorem Qbm : ∀ {ps : List PK} {n : Nat} {vs : List Value} {vss : List (List Value)} {wa : World} {ls : List (List AC)}, Qaw st ps n = some ls → Qcc wa ps vs vss →
  (∀ i v b, vs[i]? = some v → blkOf v = [b] → m.bl (n + i + 1) = b) → ∀ b ∈ Qab ps vs, ∃ k, (st.box k).isSome = true ∧ m.bl k = b
 | [], _, _, _, _, _, _, _, _, b, hb => by simp [Qab] at hb
 | .val _ _ :: ps, n, v :: vs, l :: vss, wa, ls, hp, ha, hbl, b, hb =>
  Qbm (n := n + 1) (by simpa only [Qaw] using hp) ha.2 (fun i v b hi hv => by have := hbl (i + 1) v b (by simpa using hi) hv; rw [← this]; congr 1; omega) b (by simpa [Qab] using hb)
 | .give _ _ :: ps, n, v :: vs, l :: vss, wa, ls, hp, ha, hbl, b, hb =>
  Qbm (n := n + 1) (by simpa only [Qaw] using hp) ha.2 (fun i v b hi hv => by have := hbl (i + 1) v b (by simpa using hi) hv; rw [← this]; congr 1; omega) b (by simpa [Qab] using hb)
 | .clo _ _ _ _ :: ps, n, v :: vs, l :: vss, wa, ls, hp, ha, hbl, b, hb =>
  Qbm (n := n + 1) (by simpa only [Qaw] using hp) ha.2 (fun i v b hi hv => by have := hbl (i + 1) v b (by simpa using hi) hv; rw [← this]; congr 1; omega) b (by simpa [Qab] using hb)
 | .box t c own rw :: ps, n, v :: vs, l :: vss, wa, ls, hp, ha, hbl, b, hb => by
  have hbl' : ∀ i v b, vs[i]? = some v → blkOf v = [b] → m.bl (n + 1 + i + 1) = b := fun i v b hi hv => by have := hbl (i + 1) v b (by simpa using hi) hv; rw [← this]; congr 1; omega
  obtain ⟨⟨b', rfl, hc⟩, ha⟩ := ha
  simp only [Qaw] at hp
  cases rw with
  | false =>
   simp only [Zz] at hp
   exact Qbm hp ha hbl' b (by simpa [Qab] using hb)
  | true =>
   simp only [Zy] at hp
   split at hp <;> try cases hp
   rename_i t' l' ls' h1 h2
   simp only [Qab, if_true, blkOf, List.mem_append, List.mem_singleton] at hb
   rcases hb with rfl | hb
   ·exact ⟨n + 1, by simp [h1], hbl 0 _ b rfl rfl⟩
   ·exact Qbm h2 ha hbl' b hb
 | .lent agg c :: ps, n, v :: vs, l :: vss, wa, ls, hp, ha, hbl, b, hb => by
  simp only [Qaw] at hp
  split at hp <;> try cases hp
  rename_i l1 ls1 h1 h2
  exact Qbm (n := n + 1) h2 ha.2 (fun i v b hi hv => by have := hbl (i + 1) v b (by simpa using hi) hv; rw [← this]; congr 1; omega) b (by simpa [Qab] using hb)
 | .lent _ _ :: _, _, [], _, _, _, _, _, _, b, hb => by simp [Qab] at hb
 | .lent _ _ :: _, _, _ :: _, [], _, _, _, h, _, _, _ => h.elim
 | .give _ _ :: _, _, [], _, _, _, _, _, _, b, hb => by simp [Qab] at hb
 | .give _ _ :: _, _, _ :: _, [], _, _, _, h, _, _, _ => h.elim
 | .clo _ _ _ _ :: _, _, [], _, _, _, _, _, _, b, hb => by simp [Qab] at hb
 | .clo _ _ _ _ :: _, _, _ :: _, [], _, _, _, h, _, _, _ => h.elim
 | .val _ _ :: _, _, [], _, _, _, _, _, _, b, hb => by simp [Qab] at hb
 | .box _ _ _ _ :: _, _, [], _, _, _, _, _, _, b, hb => by simp [Qab] at hb
 | .val _ _ :: _, _, _ :: _, [], _, _, _, h, _, _, _ => h.elim
 | .box _ _ _ _ :: _, _, _ :: _, [], _, _, _, h, _, _, _ => h.elim
theorem Qcg {bl : Nat → Nat} {p : PK} {ps : List PK} {v : Value} {vs : List Value} {l : List Value} {vss : List (List Value)} {n : Nat} (h1 : Item.free (Qaa (p :: ps) n) = Item.free (Qaa ps (n + 1))) (h2 : Item.fast (Qaa (p :: ps) n) = Item.fast (Qaa ps (n + 1)))
  (h3 : Item.boxes (Qaa (p :: ps) n) = Item.boxes (Qaa ps (n + 1))) (h4 : Qab (p :: ps) (v :: vs) = Qab ps vs) (h5 : Qbp (p :: ps) (v :: vs) = Qbp ps vs)
  (h6 : ∀ y ms st, ∃ st', lay (Qaa (p :: ps) n) (y :: ms) st = lay (Qaa ps (n + 1)) ms st')
  (ih : (Item.free (Qaa ps (n + 1))).map bl = Qab ps vs ∧ (Item.fast (Qaa ps (n + 1))).map bl = Qbp ps vs ∧ (∀ k ∈ Item.boxes (Qaa ps (n + 1)), k ∈ Item.free (Qaa ps (n + 1)) ∨ k ∈ Item.fast (Qaa ps (n + 1))) ∧
   (∀ ms st0, ms.length = vss.length → ∀ k ∈ Item.fast (Qaa ps (n + 1)), (lay (Qaa ps (n + 1)) ms st0).lock k = true)) :
  (Item.free (Qaa (p :: ps) n)).map bl = Qab (p :: ps) (v :: vs) ∧ (Item.fast (Qaa (p :: ps) n)).map bl = Qbp (p :: ps) (v :: vs) ∧ (∀ k ∈ Item.boxes (Qaa (p :: ps) n), k ∈ Item.free (Qaa (p :: ps) n) ∨ k ∈ Item.fast (Qaa (p :: ps) n)) ∧
  (∀ ms st0, ms.length = (l :: vss).length → ∀ k ∈ Item.fast (Qaa (p :: ps) n), (lay (Qaa (p :: ps) n) ms st0).lock k = true) := by
 obtain ⟨i1, i2, i3, i4⟩ := ih
 rw [h1, h2, h3, h4, h5]
 refine ⟨i1, i2, i3, fun ms st0 hl k hk => ?_⟩
 match ms, hl with
 | y :: ms, hl =>
  obtain ⟨st', he⟩ := h6 y ms st0
  rw [he]
  exact i4 ms st' (by simpa using hl) k hk
theorem Qbq {bl : Nat → Nat} : ∀ {ps : List PK} {vs : List Value} {vss : List (List Value)} {n : Nat}, Qcc w ps vs vss → (∀ i v b, vs[i]? = some v → blkOf v = [b] → bl (n + i + 1) = b) →
  (Item.free (Qaa ps n)).map bl = Qab ps vs ∧ (Item.fast (Qaa ps n)).map bl = Qbp ps vs ∧ (∀ k ∈ Item.boxes (Qaa ps n), k ∈ Item.free (Qaa ps n) ∨ k ∈ Item.fast (Qaa ps n)) ∧
  (∀ ms st0, ms.length = vss.length → ∀ k ∈ Item.fast (Qaa ps n), (lay (Qaa ps n) ms st0).lock k = true)
 | [], [], [], n, _, _ => ⟨rfl, rfl, by simp [Qaa, Item.boxes], by simp [Qaa, Item.fast]⟩
 | .val agg c :: ps, v :: vs, l :: vss, n, h, hb => Qcg (p := .val agg c) (v := v) (l := l) rfl rfl rfl rfl rfl (fun y ms st => ⟨_, rfl⟩) (Qbq (n := n + 1) h.2 (fun i v b hi hv => by have := hb (i + 1) v b (by simpa using hi) hv; rw [← this]; congr 1; omega))
 | .lent agg c :: ps, v :: vs, l :: vss, n, h, hb => Qcg (p := .lent agg c) (v := v) (l := l) rfl rfl rfl rfl rfl (fun y ms st => ⟨_, rfl⟩) (Qbq (n := n + 1) h.2 (fun i v b hi hv => by have := hb (i + 1) v b (by simpa using hi) hv; rw [← this]; congr 1; omega))
 | .give agg c :: ps, v :: vs, l :: vss, n, h, hb => Qcg (p := .give agg c) (v := v) (l := l) rfl rfl rfl rfl rfl (fun y ms st => ⟨_, rfl⟩) (Qbq (n := n + 1) h.2 (fun i v b hi hv => by have := hb (i + 1) v b (by simpa using hi) hv; rw [← this]; congr 1; omega))
 | .box t c own rw :: ps, v :: vs, l :: vss, n, h, hb => by
  obtain ⟨i1, i2, i3, i4⟩ := Qbq (n := n + 1) h.2 (fun i v b hi hv => by have := hb (i + 1) v b (by simpa using hi) hv; rw [← this]; congr 1; omega)
  obtain ⟨⟨b, rfl, hc⟩, _⟩ := h
  have hbl : bl (n + 1) = b := hb 0 _ b rfl rfl
  cases rw with
  | true =>
   refine ⟨by simp [Qaa, Item.free, Qab, blkOf, hbl, i1], by simpa [Qaa, Item.fast, Qbp] using i2, fun k hk => ?_, fun ms st0 hl k hk => ?_⟩
   ·simp only [Qaa, Item.boxes, List.mem_cons] at hk
    rcases hk with rfl | hk
    ·exact .inl (by simp [Qaa, Item.free])
    ·exact (i3 k hk).imp (fun h => by simp [Qaa, Item.free, h]) (fun h => by simpa [Qaa, Item.fast] using h)
   ·match ms, hl with
    | y :: ms, hl => exact i4 ms _ (by simpa using hl) k (by simpa [Qaa, Item.fast] using hk)
  | false =>
   refine ⟨by simpa [Qaa, Item.free, Qab] using i1, by simp [Qaa, Item.fast, Qbp, blkOf, hbl, i2], fun k hk => ?_, fun ms st0 hl k hk => ?_⟩
   ·simp only [Qaa, Item.boxes, List.mem_cons] at hk
    rcases hk with rfl | hk
    ·exact .inr (by simp [Qaa, Item.fast])
    ·exact (i3 k hk).imp (fun h => by simpa [Qaa, Item.free] using h) (fun h => by simp [Qaa, Item.fast, h])
   ·match ms, hl with
    | y :: ms, hl =>
     simp only [Qaa, Bool.not_false, Item.fast, List.mem_cons] at hk
     rcases hk with rfl | hk
     ·exact (Qbo (Qaa ps (n + 1)) ms ((((st0.put n (.one (.ptr (n + 1) 0))).setBox (n + 1) (t, y)).use (n + 1)).bar (n + 1)) (n + 1)).2.1 (by simp [St.bar])
     ·exact i4 ms _ (by simpa using hl) k hk
 | .clo f fst t c :: ps, v :: vs, l :: vss, n, h, hb => by
  obtain ⟨i1, i2, i3, i4⟩ := Qbq (n := n + 1) h.2 (fun i v b hi hv => by have := hb (i + 1) v b (by simpa using hi) hv; rw [← this]; congr 1; omega)
  obtain ⟨⟨b, rfl, hc⟩, _⟩ := h
  have hbo : blkOf (.func (.func f) (cond fst #[.pointer (some ⟨b, 0, none⟩)] #[]) (cond fst #[] #[.pointer (some ⟨b, 0, none⟩)])) = [b] := by cases fst <;> rfl
  have hbl : bl (n + 1) = b := hb 0 _ b rfl hbo
  refine ⟨by simpa [Qaa, Item.free, Qab] using i1, by simp only [Qaa, Item.fast, Qbp, hbo, List.map_cons, hbl, i2]; rfl, fun k hk => ?_, fun ms st0 hl k hk => ?_⟩
  ·simp only [Qaa, Item.boxes, List.mem_cons] at hk
   rcases hk with rfl | hk
   ·exact .inr (by simp [Qaa, Item.fast])
   ·exact (i3 k hk).imp (fun h => by simpa [Qaa, Item.free] using h) (fun h => by simp [Qaa, Item.fast, h])
  ·match ms, hl with
   | y :: ms, hl =>
    simp only [Qaa, Item.fast, List.mem_cons] at hk
    rcases hk with rfl | hk
    ·exact (Qbo (Qaa ps (n + 1)) ms ((((st0.put n (.one (.fn f fst [(n + 1, 0)]))).setBox (n + 1) (t, y)).use (n + 1)).bar (n + 1)) (n + 1)).2.1 (by simp [St.bar])
    ·exact i4 ms _ (by simpa using hl) k hk
 | p :: ps, [], vss, n, h, _ => by cases p <;> cases vss <;> exact h.elim
 | p :: ps, _ :: _, [], n, h, _ => by cases p <;> exact h.elim
 | [], _ :: _, vss, n, h, _ => by cases vss <;> exact h.elim
 | [], [], _ :: _, n, h, _ => h.elim
theorem Qqc {E : Env} (hE : EnvOk E) (hmix : E.P.follows .mixedOrders = true) {g : FuncId} {f : Fn} {fn : Func} {ann : Ann} (hfn : E.P.funcs[g]? = some fn)
  (hname : (fn.name == "runtime.NumGoroutine") = false) (hsome : fn.body.isSome = true) (hN : fn.ntmps = E.N) (hps : f.sig.params.length ≤ E.N) (hps2 : f.sig.params.length < 999) (hpin : ∀ d, f.sig.pin d = true → E.pin d = true)
  (hrun : ∀ x, runFn E fn f.sig ann x = f.sem E.k x) : FnOk E.P E.k g f := by
 obtain ⟨cd, hbody⟩ := Option.isSome_iff_exists.1 hsome
 refine ⟨⟨fn, cd, hfn, hname, hbody⟩, ?_⟩
 intro w S vs vss rows x r hsem hargs hparts hS hbn hbn2 hbS hnd hrows hgl
 have hx := hrun x
 rw [hsem] at hx
 unfold runFn at hx
 simp only [hbody] at hx
 obtain ⟨hl1, hl2⟩ := hargs.length
 refine calls_of_wp hfn hbody ?_
 -- the blocks of the boxes
 let bl : Nat → Nat := fun k => match (vs[k - 1]?).map blkOf with | some [b] => b | _ => 0
 have hbl : ∀ i v b, vs[i]? = some v → blkOf v = [b] → bl (0 + i + 1) = b := fun i v b hi hv => by
  show (match (vs[0 + i + 1 - 1]?).map blkOf with | some [b] => b | _ => 0) = b
  rw [show 0 + i + 1 - 1 = i by omega, hi]
  simp [hv]
 let pin : Nat → Option Value := fun t => match f.sig.params[t]? with | some (.lent _ _) => vs[t]? | _ => none
 have hpin0 : ∀ t v, pin t = some v → E.pin t = true ∧ vs[t]? = some v := fun t v ht => by
  simp only [pin] at ht
  split at ht
  ·rename_i he
   exact ⟨hpin t (by unfold Sig.pin; rw [he]), ht⟩
  ·cases ht
 let a0 : Act := { tmps := vs.toArray ++ Array.replicate (fn.ntmps - vs.toArray.size) undef, defers := [] }
 have ha0 : ∀ i v, vs[i]? = some v → a0.tmps.getD (0 + i) undef = v := fun i v hi => by
  have hlt : i < vs.length := (List.getElem?_eq_some_iff.1 hi).1
  have : a0.tmps[0 + i]? = some v := by
   show (vs.toArray ++ Array.replicate (fn.ntmps - vs.toArray.size) undef)[0 + i]? = some v
   rw [Nat.zero_add, Array.getElem?_append_left (by simpa using hlt)]
   simpa using hi
  rw [Array.getD_eq_getD_getElem?, this]; rfl
 obtain ⟨p1, p2, p3, p4⟩ := Qbz (a := a0) (bl := bl) (n := 0) hargs ha0 hbl
 let m0 : Emb := ({ bl := bl, row := fun _ => none, val := fun _ => undef, S := S } : Emb).withRows 0 rows
 have hab := Qeb (m := m0) (st := lay (Qaa f.sig.params 0) (Qat f.sig.ins x (0, 0)) .blank) (w := w) (key := 0) ((Qbo _ _ .blank 0).1 rfl) 0 hparts
  (fun j p hj => Qdw (m := { bl := bl, row := fun _ => none, val := fun _ => undef, S := S }) j p hj)
 have hmemb : ∀ k ∈ Item.boxes (Qaa f.sig.params 0), bl k ∈ Qae f.sig.params vs := fun k hk => by rw [← p2]; exact List.mem_map.2 ⟨k, hk, rfl⟩
 have hrel : Rel E.F w.heap.size (fun b => b ∈ Qab f.sig.params vs ∨ b ∈ Blks rows) ⟨w, bl, S, pin⟩ m0 (lay (Qaa f.sig.params 0) (Qat f.sig.ins x (0, 0)) .blank) a0 w := by
  refine Qot (rows := rows) rfl rfl hab p1 hS hnd (fun b hb => ?_) (fun k hk => hbS _ (hmemb k hk)) ?_ (fun k hk hlk => ?_) (fun b hb => by rw [← Qbk]; exact hb) ⟨rfl, fun t v ht => ⟨(hpin0 t v ht).1, by have := ha0 t v (hpin0 t v ht).2; rwa [Nat.zero_add] at this⟩⟩ ?_ ⟨rfl, rfl, rfl, rfl, Nat.le_refl _, fun _ _ _ => rfl⟩ ⟨fun _ _ => rfl, fun _ h => h, fun _ h => .inl h⟩ ⟨hgl, fun g hg => ⟨hS _ (hgl g hg).1, fun hm => hm.elim (fun h1 => hbS _ (Qdj h1) (hgl g hg).1) fun h1 => (hrows _ h1).1 (hgl g hg).1⟩⟩
  ·obtain ⟨h1, h2, h3⟩ := hrows b hb
   exact ⟨h1, h2, .inr (.inr hb), fun k hk he => h3 (he ▸ hmemb k hk)⟩
  ·obtain ⟨s1, s2, s3, s4⟩ := Qbq (bl := bl) (n := 0) hargs hbl
   intro k k' hk hk' he
   rcases s3 k hk with h1 | h1 <;> rcases s3 k' hk' with h2 | h2
   ·exact .inl (Qeq (f := bl) (by rw [s1]; exact hbn) k k' h1 h2 he)
   ·exact absurd (s2 ▸ List.mem_map.2 ⟨k', h2, he.symm⟩) (hbn2 (bl k) (s1 ▸ List.mem_map.2 ⟨k, h1, rfl⟩))
   ·exact absurd (s2 ▸ List.mem_map.2 ⟨k, h1, he⟩) (hbn2 (bl k') (s1 ▸ List.mem_map.2 ⟨k', h2, rfl⟩))
   ·exact .inr ⟨s4 _ _ (by rw [hab.length]) k h1, s4 _ _ (by rw [hab.length]) k' h2⟩
  ·exact .inr (.inl (p4 _ _ (by rw [hab.length]) k hk hlk))
  ·show (vs.toArray ++ Array.replicate (fn.ntmps - vs.toArray.size) undef).size = E.N
   simp only [Array.size_append, List.size_toArray, Array.size_replicate]
   omega
 -- the end
 have hend : ∀ m' st' a' w', Rel E.F w.heap.size (fun b => b ∈ Qab f.sig.params vs ∨ b ∈ Blks rows) ⟨w, bl, S, pin⟩ m' st' a' w' → retO E fn f.sig st' = some r →
   a'.defers = [] ∧ ∃ v, (results fn a'.tmps).run E.P w' = .ok v w' ∧ ∃ rv S' vr vo rows', Ending.returned v = .returned rv ∧ Frm w.heap.size (fun b => b ∈ Qab f.sig.params vs ∨ b ∈ Blks rows) w w' ∧
   (∀ b, S b → S' b) ∧ (∀ b, S' b → S b ∨ b ∈ Blks rows ∨ w.heap.size ≤ b) ∧ (∀ b, S' b → b < w'.heap.size) ∧
   Qaz w' S' f.sig.outs r (vr ++ vo) rows' ∧ ResAt f.sig.res rv vr ∧ Qbb w' f.sig.params vs vo ∧
   (Blks rows').Nodup ∧ ∀ b ∈ Blks rows', ¬ S' b ∧ b < w'.heap.size ∧ b ∉ Qae f.sig.params vs ∧ (b ∈ Blks rows ∨ w.heap.size ≤ b) := by
  intro m' st' a' w' h' hret
  unfold retO at hret
  split at hret
  case h_2 => cases hret
  rename_i pa pb hpa hpb
  have hok : Qbs st' f.sig.outs (pa ++ pb) = true := by
   cases hb : Qbs st' f.sig.outs (pa ++ pb) with
   | true => rfl
   | false => rw [hb] at hret; cases hret
  rw [hok] at hret
  simp only [Zy] at hret
  obtain ⟨us, vr, q1, q2, q3⟩ := Qex h' hpa
  obtain ⟨vo, q4, q5⟩ := Qbr h' hpb hargs (by omega) hbl (fun i v agg c h1 h2 => by show pin (0 + i) = some v; simp only [pin, Nat.zero_add, h1]; exact h2)
  obtain ⟨rows', b1, b2, b3, b4, b5, b6, b7, b8⟩ := Qjj h'.mem hok hret (All2.append q3 q5)
  have hrwS := Qbm hpb hargs (fun i v b hi hv => (h'.fix.1 (0 + i + 1) (by have := (List.getElem?_eq_some_iff.1 hi).1; omega)).trans (hbl i v b hi hv))
  have hboxlt := Qjd hargs
  have hmod : ∀ b, (w.heap.size ≤ b ∨ b ∈ Qab f.sig.params vs ∨ b ∈ Blks rows) → (∀ k, (st'.box k).isSome = true → m'.bl k ≠ b) → b ∉ Qae f.sig.params vs ∧ (b ∈ Blks rows ∨ w.heap.size ≤ b) := fun b hb hne => by
   have hnrw : b ∉ Qab f.sig.params vs := fun hc => by
    obtain ⟨k, hk, he⟩ := hrwS b hc
    exact hne k hk he
   have h2 : b ∈ Blks rows ∨ w.heap.size ≤ b := by
    rcases hb with hb | hb | hb
    ·exact .inr hb
    ·exact absurd hb hnrw
    ·exact .inl hb
   refine ⟨fun hc => ?_, h2⟩
   rcases h2 with h2 | h2
   ·exact (hrows b h2).2.2 hc
   ·have := hboxlt b hc; omega
  refine ⟨h'.defers.1, _, Qmq q1, _, m'.lent (roIds f.sig.outs (pa ++ pb)), vr, vo, rows', rfl, h'.frm, fun b hb => .inl (h'.fix.2.1 b hb), fun b hb => ?_, b4, b1, Qpq q2, q4, b2, fun b hb => ?_⟩
  ·have hnbox : ∀ k, (st'.box k).isSome = true → m'.bl k ≠ b := fun k hk he => by rw [← he] at hb; exact b6 k hk hb
   have hb' : S b ∨ w.heap.size ≤ b ∨ b ∈ Qab f.sig.params vs ∨ b ∈ Blks rows := by
    rcases hb with hb | ⟨id, hi, hb⟩
    ·exact h'.fix.2.2 b hb
    ·exact .inr (h'.mem.row id b hb (b7 id hi).1).2.1
   rcases hb' with hb' | hb'
   ·exact .inl hb'
   ·exact .inr (hmod b hb' hnbox).2
  ·obtain ⟨c1, c2, c3, c4⟩ := b5 b hb
   obtain ⟨d1, d2⟩ := hmod b c3 c4
   exact ⟨c1, c2, d1, d2⟩
 refine Qlc hE hmix ann cd _ _ r m0 a0 w _ hx hrel ?_ ?_ ?_
 ·intro m' st' a' w' h' hK'
  exact hend m' st' a' w' h' hK'
 ·intro id m' st' a' w' h' hK'; cases hK'
 ·intro o m' st' a' w' h' ho hK'
  simp only [Zj] at hK'; subst hK'
  exact hend m' st' a' w' h' ho
end
def look : List (FuncId × Fn) → FuncId → Option Fn
 | [], _ => none
 | (g, f) :: l, h => bif Nat.beq h g then some f else look l h
theorem Qrj {P : Program} {k : Nat} : ∀ g f, look [] g = some f → FnOk P k g f := fun _ _ h => by cases h
theorem Qra {P : Program} {k : Nat} {g : FuncId} {f : Fn} {l : List (FuncId × Fn)} (hf : FnOk P k g f) (hl : ∀ g f, look l g = some f → FnOk P k g f) : ∀ g' f', look ((g, f) :: l) g' = some f' → FnOk P k g' f' := by
 intro g' f' h
 unfold look at h
 cases hb : Nat.beq g' g with
 | true =>
  rw [hb] at h
  simp only [Zy, Zj] at h
  subst h
  rw [Nat.eq_of_beq_eq_true hb]
  exact hf
 | false =>
  rw [hb] at h
  exact hl g' f' h
end
def lookM : List (FuncId × Mk) → FuncId → Option Mk
 | [], _ => none
 | (g, f) :: l, h => bif Nat.beq h g then some f else lookM l h
theorem Qou {P : Program} {k : Nat} : ∀ g f, lookM [] g = some f → MkOk P k g f := fun _ _ h => by cases h
abbrev envQ (P : Program) (N : Nat) (kinds : TypeId → Option CK) (l : List (FuncId × Fn)) (k : Nat) (s : Sig) : Env := ⟨P, N, kinds, look l, k, s.pin, lookM []⟩
def okQ (fn : Func) (N : Nat) (s : Sig) : Bool := !(fn.name == "runtime.NumGoroutine") && fn.body.isSome && decide (fn.ntmps = N) && decide (s.params.length ≤ N) && decide (s.params.length < 999)
theorem fnOk_q {P : Program} {k : Nat} {g : FuncId} {f : Fn} {l : List (FuncId × Fn)} (N : Nat) (kinds : TypeId → Option CK) (ann : Ann) {fn : Func} (hfn : P.funcs[g]? = some fn) (hl : ∀ g f, look l g = some f → FnOk P k g f)
  (hmix : P.follows .mixedOrders = true) (hq : okQ fn N f.sig = true) (hrun : ∀ x, runFn (envQ P N kinds l k f.sig) fn f.sig ann x = f.sem k x) : FnOk P k g f := by
 unfold okQ at hq
 simp only [Zd, Bool.not_eq_true', Zq] at hq
 obtain ⟨⟨⟨⟨h1, h2⟩, h3⟩, h4⟩, h5⟩ := hq
 exact Qqc (E := envQ P N kinds l k f.sig) (ann := ann) ⟨hl, Qou⟩ hmix hfn h1 h2 h3 h4 h5 (fun _ h => h) hrun
def Ann.n (a : Ann) : Ann := .seq .leaf a
section
open Go.ChangeShapes Go.WideShapes Go.ChangeAt Go.RowKit
def Qle (P : Program) (g : TypeId → Option CK) : List Field → Nat → Option (List CK)
 | [], _ => some []
 | f :: fs, n => match g f.type with
  | some c => if f.offset = n ∧ P.cellsOf f.type = c.size then (Qle P g fs (n + c.size)).map (c :: ·) else none
  | none => none
def kindT (P : Program) : Nat → TypeId → Option CK
 | 0, _ => none
 | n + 1, t => match P.underlying t with
  | some (.int k) => some (.int k)
  | some .bool => some .bool
  | some .string => some .str
  | some (.slice e) => match kindT P n e with | some c => if P.cellsOf e = c.size ∧ 0 < c.size then some (.sl e c) else none | none => none
  | some (.struct fs) => match Qle P (kindT P n) fs.toList 0 with
   | some cs => if P.cellsOf t = (CK.pairs cs).size then some (CK.pairs cs) else none
   | none => none
  | _ => none
def WfT : (c : CK) → c.T → Prop
 | .unit, _ => True
 | .any, _ => False
 | .arr _ _, _ => False
 | .int k, (n : Int) => k.min ≤ n ∧ n ≤ k.max
 | .bool, _ => True
 | .str, (s : ByteArray) => s.size ≤ 9223372036854775807
 | .sl _ c, (xs : List c.T) => xs.length ≤ 9223372036854775807 ∧ ∀ x ∈ xs, WfT c x
 | .pair a b, x => WfT a x.1 ∧ WfT b x.2
section
variable {H : Type} {enc : TypeId × Value → H} {P : Program} {w : World} {base : Nat} {spare : Nat → Bool} {held : Bool}
theorem Qoz {g : TypeId → Option CK} {fuel : Nat} {S : Nat → Prop} {cs : List Value}
  (hg : ∀ t c cells y, g t = some c → DataW.trod enc P w base spare held fuel t cells = some y → ∃ x : c.T, RdT w S c x cells ∧ WfT c x) :
  ∀ (fs : List Field) (n : Nat) (ks : List CK), Qle P g fs n = some ks → cs.length = n + (CK.pairs ks).size →
   (∀ f ∈ fs, ∃ y, DataW.trod enc P w base spare held fuel f.type ((cs.drop f.offset).take (P.cellsOf f.type)) = some y) → ∃ x : (CK.pairs ks).T, RdT w S (CK.pairs ks) x (cs.drop n) ∧ WfT (CK.pairs ks) x
 | [], n, ks, hk, hl, _ => by
  simp only [Qle, Zj] at hk; subst hk
  refine ⟨(), ?_, trivial⟩
  simp only [CK.pairs, CK.size, Nat.add_zero] at hl
  simp only [CK.pairs, RdT]
  exact List.drop_eq_nil_of_le (by omega)
 | f :: fs, n, ks, hk, hl, hf => by
  simp only [Qle] at hk
  split at hk <;> try cases hk
  rename_i c hc
  split at hk
  case isFalse => cases hk
  rename_i hcc
  obtain ⟨ks', hk', rfl⟩ := Option.map_eq_some_iff.1 hk
  obtain ⟨y, hy⟩ := hf f (by simp)
  rw [hcc.1, hcc.2] at hy
  obtain ⟨x, hx, hw⟩ := hg _ _ _ _ hc hy
  cases ks' with
  | nil =>
   refine ⟨x, ?_, hw⟩
   simp only [CK.pairs] at hl ⊢
   rwa [List.take_of_length_le (by simp; omega)] at hx
  | cons d ks' =>
   obtain ⟨x', hx', hw'⟩ := Qoz (cs := cs) hg fs (n + c.size) (d :: ks') hk' (by simp only [CK.pairs, CK.size] at hl ⊢; omega) (fun f hm => hf f (List.mem_cons_of_mem _ hm))
   refine ⟨(x, x'), ⟨(cs.drop n).take c.size, cs.drop (n + c.size), ?_, hx, hx'⟩, hw, hw'⟩
   rw [← List.drop_drop, List.take_append_drop]
theorem Qqi {α : Type} {n : Nat} {p : Nat → α → Prop} (h : ∀ i, i < n → ∃ x, p i x) : ∃ xs : List α, xs.length = n ∧ ∀ i x, xs[i]? = some x → p i x := by
 induction n with
 | zero => exact ⟨[], rfl, by simp⟩
 | succ n ih =>
  obtain ⟨xs, h1, h2⟩ := ih fun i hi => h i (by omega)
  obtain ⟨x, hx⟩ := h n (by omega)
  refine ⟨xs ++ [x], by simp [h1], fun i y hy => ?_⟩
  by_cases hi : i < n
  ·rw [List.getElem?_append_left (by omega)] at hy; exact h2 i y hy
  ·rw [List.getElem?_append_right (by omega)] at hy
   have : i - xs.length = 0 := by
    have := (List.getElem?_eq_some_iff.1 hy).1; simp at this; omega
   rw [this] at hy
   simp only [List.getElem?_cons_zero, Zj] at hy
   subst hy
   rwa [show i = n by omega]
theorem Qmp : ∀ (n : Nat) (t : TypeId) (c : CK) (fuel : Nat) (cs : List Value) (y : DataW H × List MemPlace), kindT P n t = some c → DataW.trod enc P w base (fun _ => true) held fuel t cs = some y →
  ∃ x : c.T, RdT w (fun b => b < w.heap.size) c x cs ∧ WfT c x
 | 0, _, _, _, _, _, h, _ => by simp [kindT] at h
 | n + 1, t, c, fuel, cs, y, h, hy => by
  simp only [kindT] at h
  split at h
  ·rename_i k hu
   simp only [Zj] at h; subst h
   obtain ⟨z, rfl, _, hw⟩ := DataW.trod_int hu hy
   simp only [Lit.wf, Zd, Zq] at hw
   exact ⟨z, rfl, hw⟩
  ·rename_i hu
   simp only [Zj] at h; subst h
   obtain ⟨z, rfl, _⟩ := DataW.trod_bool hu hy
   exact ⟨z, rfl, trivial⟩
  ·rename_i hu
   simp only [Zj] at h; subst h
   obtain ⟨z, rfl, _, hw⟩ := DataW.trod_string hu hy
   exact ⟨z, rfl, hw⟩
  ·rename_i e hu
   split at h <;> try cases h
   rename_i ce hce
   split at h
   case isFalse => cases h
   rename_i hcc
   simp only [Zj] at h; subst h
   rcases Go.Deep.open_slice hu hy with ⟨rfl, _⟩ | ⟨a, len, cap, m, nn, D, Pl, rfl, hb, hl, hm, hmm, _, hx⟩
   ·exact ⟨([] : List ce.T), ⟨none, 0, 0, rfl, rfl, Nat.le_refl _, rfl⟩, Nat.zero_le _, by simp⟩
   ·simp only [if_true] at hmm
    subst hmm
    have hspot0 : 0 < m → a.spot = none := fun hm0 => by
     obtain ⟨cs', hcs, _⟩ := hx 0 hm0
     rw [hcc.1] at hcs
     unfold World.cells? at hcs
     split at hcs
     case isFalse => cases hcs
     have hlen := mapM_some_length hcs
     simp only [List.length_range] at hlen
     have h0 := mapM_some_get hcs 0 0 (by simp [hcc.2])
     rw [Nat.zero_mul, show ((a.add 0).add 0) = a by simp [Addr.add], Zg (by omega)] at h0
     cases hs : a.spot with
     | none => rfl
     | some q =>
      exfalso
      unfold World.cell? at h0
      split at h0
      ·rw [if_pos (by simp [hs])] at h0; cases h0
      ·cases h0
    have key : ∀ i, i < m → a.spot = none ∧ ∃ x : ce.T, a.block < w.heap.size ∧ (∃ l, l.length = ce.size ∧ RdT w (fun b => b < w.heap.size) ce x l ∧ ∀ j v, l[j]? = some v → w.cell? ⟨a.block, a.off + i * ce.size + j, none⟩ = some v) ∧ WfT ce x := by
     intro i hi
     obtain ⟨cs', hcs, htr⟩ := hx i hi
     rw [hcc.1] at hcs
     unfold World.cells? at hcs
     split at hcs
     case isFalse => cases hcs
     have hlen := mapM_some_length hcs
     have hget := mapM_some_get hcs
     simp only [List.length_range] at hlen
     have hspot : a.spot = none := hspot0 (by omega)
     have had : a = ⟨a.block, a.off, none⟩ := by cases a; simp at hspot; simp [hspot]
     have hcell : ∀ j v, cs'[j]? = some v → w.cell? ⟨a.block, a.off + i * ce.size + j, none⟩ = some v := fun j v hv => by
      have hj := (List.getElem?_eq_some_iff.1 hv).1
      have := hget j j (by rw [List.getElem?_range (by omega)])
      rw [hv, had, Qbw, Qbw] at this
      exact this
     obtain ⟨x, hx1, hx2⟩ := Qmp n e ce nn cs' _ hce htr
     refine ⟨hspot, x, ?_, ⟨cs', hlen, hx1, hcell⟩, hx2⟩
     have := hcell 0 _ (Zg (by omega))
     unfold World.cell? at this
     rcases Nat.lt_or_ge a.block w.heap.size with h | h
     ·exact h
     ·rw [Array.getElem?_eq_none h] at this; cases this
    obtain ⟨xs, hx1, hx2⟩ := Qqi (n := len) fun i hi => (key i (by omega)).2
    refine ⟨xs, ⟨some a, len, m, rfl, hx1.symm, hl, fun hlt => (key 0 hlt).1, fun i x hx => ⟨(hx2 i x hx).1, (hx2 i x hx).2.1⟩⟩, by unfold maxLen at hm; omega, fun x hx => ?_⟩
    obtain ⟨i, hi, rfl⟩ := List.getElem_of_mem hx
    exact (hx2 i _ (Zg hi)).2.2
  ·rename_i fs hu
   split at h <;> try cases h
   rename_i ks hks
   split at h
   case isFalse => cases h
   rename_i hcc
   simp only [Zj] at h; subst h
   obtain ⟨xs, nn, rfl, _, hlen, hxl, hf⟩ := DataW.trod_struct hu hy
   have := Qoz (cs := cs) (S := fun b => b < w.heap.size) (fun t c cells y h1 h2 => Qmp n t c nn cells y h1 h2) fs.toList 0 ks hks (by rw [hlen, hcc, Nat.zero_add]) (fun f hm => by
    obtain ⟨i, hi, rfl⟩ := List.getElem_of_mem hm
    have hi' : i < fs.size := by simpa using hi
    refine ⟨xs[i]'(by omega), ?_⟩
    rw [← Zg (by omega)]
    exact hf i _ (by rw [Array.getElem?_eq_getElem hi', Array.getElem_toList]))
   simpa using this
  ·cases h
theorem Qrs {n : Nat} {t : TypeId} {c : CK} {v : Value} {d : DataW H} {p : List MemPlace} {agg : Bool} {r : Reach} {b0 : Nat} (hk : kindT P n t = some c) (hagg : Qar P t = agg) (hval : Value.okWide P w r b0 t v) (h : DataW.Trod enc P w base (fun _ => true) held t v d p) :
  ∃ (l : List Value) (x : c.T), (if agg then v = .agg l.toArray else l = [v]) ∧ RdT w (fun b => b < w.heap.size) c x l ∧ WfT c x := by
 obtain ⟨fuel, h⟩ := h
 obtain ⟨x, h1, h2⟩ := Qmp n t c fuel _ _ hk h
 refine ⟨v.cells.toList, x, ?_, h1, h2⟩
 cases n with
 | zero => simp [kindT] at hk
 | succ n =>
  simp only [kindT] at hk
  unfold Qar at hagg
  split at hk
  ·rename_i k hu; rw [hu] at hagg; subst hagg; obtain ⟨z, rfl⟩ := okWide_int hu hval; rfl
  ·rename_i hu; rw [hu] at hagg; subst hagg; obtain ⟨z, rfl⟩ := okWide_bool hu hval; rfl
  ·rename_i hu; rw [hu] at hagg; subst hagg; obtain ⟨z, rfl⟩ := okWide_string hu hval; rfl
  ·rename_i e hu; rw [hu] at hagg; subst hagg; obtain ⟨a, l, cp, rfl⟩ := okWide_slice hu hval; rfl
  ·rename_i fs hu; rw [hu] at hagg; subst hagg; obtain ⟨cs, rfl, _⟩ := okWide_struct hu hval; rfl
  ·cases hk
end
theorem Qes.none {P : Program} (h : (List.range P.globals.size).all (fun g => !tabOf P g) = true) (w : World) (S : Nat → Prop) : Qes P w S := fun g hg => by
 have hlt : g < P.globals.size := by
  rcases Nat.lt_or_ge g P.globals.size with h1 | h1
  ·exact h1
  ·unfold tabOf at hg; rw [Array.getElem?_eq_none h1] at hg; cases hg
 have := List.all_eq_true.1 h g (List.mem_range.2 hlt)
 rw [hg] at this; cases this
theorem Qqz {P : Program} {k : Nat} {g : FuncId} {f : Fn} (hf : FnOk P k g f) (hq : (f.sig.params.all fun | .val _ _ => true | _ => false) = true) {own : Bool} (hres : f.sig.res = [⟨false, .bool, own⟩])
  {w : World} {vs : List Value} {vss : List (List Value)} {x : f.sig.inK.T} {r : f.sig.outK.T} (hsem : f.sem k x = some r) (hargs : Qcc w f.sig.params vs vss) (hparts : Qaz w (fun b => b < w.heap.size) f.sig.ins x vss [])
  (hr : ∀ w S' v rows', Qaz w S' f.sig.outs r [[v]] rows' → v = .bool true) (hgl : Qes P w (fun b => b < w.heap.size)) :
  Calls P g vs.toArray w fun e w' => e = .returned (.bool true) ∧ Below w.heap.size w w' := by
 have hno : ∀ (ps : List PK) (vs : List Value), (ps.all fun | .val _ _ => true | _ => false) = true → Qae ps vs = [] ∧ Qab ps vs = [] := by
  intro ps
  induction ps with
  | nil => intro vs _; exact ⟨by cases vs <;> rfl, by cases vs <;> rfl⟩
  | cons p ps ih =>
   intro vs h
   simp only [List.all_cons, Zd] at h
   cases p with
   | box => simp at h
   | lent => simp at h
   | give => simp at h
   | clo => simp at h
   | val agg c => cases vs with
    | nil => exact ⟨rfl, rfl⟩
    | cons v vs => simpa [Qae, Qab] using ih vs h.2
 have hno2 : ∀ (ps : List PK) (vs : List Value) (w : World) (vo : List (List Value)), (ps.all fun | .val _ _ => true | _ => false) = true → Qbb w ps vs vo → vo = [] := by
  intro ps
  induction ps with
  | nil => intro vs w vo _ h; cases vs with
   | nil => exact h
   | cons => exact h.elim
  | cons p ps ih =>
   intro vs w vo h ho
   simp only [List.all_cons, Zd] at h
   cases p with
   | box => simp at h
   | lent => simp at h
   | give => simp at h
   | clo => simp at h
   | val agg c => cases vs with
    | nil => exact ho.elim
    | cons v vs => exact ih vs w vo h.2 ho
 obtain ⟨e1, e2⟩ := hno f.sig.params vs hq
 refine (hf.run w _ vs vss [] x r hsem hargs hparts (fun b h => h) (by rw [e2]; exact List.nodup_nil) (by rw [e2]; simp) (by rw [e1]; simp) List.nodup_nil (by simp [Blks]) hgl).mono ?_
 rintro e w' ⟨rv, S', vr, vo, rows', rfl, hfrm, _, _, _, hp, hra, ho, _⟩
 obtain rfl := hno2 _ _ _ _ hq ho
 rw [hres] at hra
 match vr, hra with
 | [l], hra =>
  have h1 := hra.1
  simp only [Bool.false_eq_true, if_false] at h1
  subst h1
  have := hr w' S' rv rows' (by simpa using hp)
  subst this
  exact ⟨rfl, hfrm.os, hfrm.tape, hfrm.output, hfrm.size, fun b hb => hfrm.block b hb (by rw [e2]; simp [Blks])⟩
 | [], hra => exact hra.elim
 | _ :: _ :: _, hra => exact hra.2.elim
end
theorem Qoq {S X : Type} {B B' : S → Option (S ⊕ X)} (I : S → Prop) (h : ∀ s, I s → B s = B' s ∧ ∀ s', B s = some (.inl s') → I s') : ∀ (k : Nat) (s : S), I s → iter B k s = iter B' k s
 | 0, _, _ => rfl
 | k + 1, s, hs => by
  obtain ⟨h1, h2⟩ := h s hs
  simp only [iter]
  rw [← h1]
  cases hb : B s with
  | none => rfl
  | some r =>
   cases r with
   | inl s' => simp only [Zo]; exact Qoq I h k s' (h2 s' hb)
   | inr x => rfl
theorem Qor {S X : Type} {B : S → Option (S ⊕ X)} (I : S → Prop) (μ : S → Nat) (Q : X → Prop)
  (h : ∀ s, I s → (∃ s', B s = some (.inl s') ∧ I s' ∧ μ s' < μ s) ∨ ∃ x, B s = some (.inr x) ∧ Q x) : ∀ (k : Nat) (s : S), I s → μ s < k → ∃ x, iter B k s = some x ∧ Q x
 | 0, _, _, hk => by omega
 | k + 1, s, hs, hk => by
  simp only [iter]
  rcases h s hs with ⟨s', h1, h2, h3⟩ | ⟨x, h1, h2⟩
  ·rw [h1]; simp only [Zo]
   exact Qor I μ Q h k s' h2 (by omega)
  ·rw [h1]; exact ⟨x, rfl, h2⟩
theorem Qgj {n : Int} (h1 : -9223372036854775808 ≤ n) (h2 : n ≤ 9223372036854775807) : IntKind.wrap .i64 n = n := by
 unfold IntKind.wrap
 simp [IntKind.signed, IntKind.bits]
 omega
theorem Qrq {n : Int} (h1 : 0 ≤ n) (h2 : n ≤ 255) : IntKind.wrap .u8 n = n := by
 unfold IntKind.wrap
 simp [IntKind.signed, IntKind.bits]
 omega
theorem Qca {a : Int} (h1 : 0 ≤ a) (h2 : a ≤ 9223372036854775807) : (BitVec.ofInt 64 a).toNat = a.toNat := by
 rw [BitVec.toNat_ofInt]
 have : a % (2 ^ 64 : Nat) = a := Int.emod_eq_of_lt h1 (by omega)
 rw [this]
theorem Qpg {a b : Int} (h1 : 0 ≤ a) (h2 : a ≤ 9223372036854775807) (h3 : 0 ≤ b) (h4 : b ≤ 9223372036854775807) : bits .and .i64 a b = ((a.toNat &&& b.toNat : Nat) : Int) := by
 unfold bits
 simp only
 show IntKind.wrap .i64 ((BitVec.ofInt 64 a &&& BitVec.ofInt 64 b).toNat : Int) = _
 rw [BitVec.toNat_and, Qca h1 h2, Qca h3 h4]
 have : a.toNat &&& b.toNat ≤ a.toNat := Nat.and_le_left
 exact Qgj (by omega) (by omega)
theorem Qpy {a b : Int} (h1 : 0 ≤ a) (h2 : a ≤ 9223372036854775807) (h3 : 0 ≤ b) (h4 : b ≤ 9223372036854775807) : bits .or .i64 a b = ((a.toNat ||| b.toNat : Nat) : Int) := by
 unfold bits
 simp only
 show IntKind.wrap .i64 ((BitVec.ofInt 64 a ||| BitVec.ofInt 64 b).toNat : Int) = _
 rw [BitVec.toNat_or, Qca h1 h2, Qca h3 h4]
 have : a.toNat ||| b.toNat < 2 ^ 63 := Nat.or_lt_two_pow (by omega) (by omega)
 exact Qgj (by omega) (by omega)
theorem Qrf {a b : Int} (h1 : 0 ≤ a) (h2 : a ≤ 9223372036854775807) (h3 : 0 ≤ b) (h4 : b ≤ 9223372036854775807) : bits .xor .i64 a b = ((a.toNat ^^^ b.toNat : Nat) : Int) := by
 unfold bits
 simp only
 show IntKind.wrap .i64 ((BitVec.ofInt 64 a ^^^ BitVec.ofInt 64 b).toNat : Int) = _
 rw [BitVec.toNat_xor, Qca h1 h2, Qca h3 h4]
 have : a.toNat ^^^ b.toNat < 2 ^ 63 := Nat.xor_lt_two_pow (by omega) (by omega)
 exact Qgj (by omega) (by omega)
theorem low7 {n : Int} (h1 : 0 ≤ n) (h2 : n ≤ 9223372036854775807) : bits .or .i64 (bits .and .i64 n 127) 128 = 128 + n % 128 := by
 rw [Qpg h1 h2 (by omega) (by omega)]
 have e : n.toNat &&& (127 : Int).toNat = n.toNat % 128 := Nat.and_two_pow_sub_one_eq_mod n.toNat 7
 rw [e, Qpy (by omega) (by omega) (by omega) (by omega)]
 have e2 : ((n.toNat % 128 : Nat) : Int).toNat ||| (128 : Int).toNat = n.toNat % 128 + 128 := by
  have := Nat.two_pow_add_eq_or_of_lt (i := 7) (b := n.toNat % 128) (by omega) 1
  rw [Nat.or_comm] at this
  simp only [Zn]
  show n.toNat % 128 ||| 128 = _
  have h : (2 ^ 7 * 1 : Nat) = 128 := rfl
  rw [h] at this
  rw [← this, Nat.add_comm]
 rw [e2]
 omega
theorem Qrr {α : Type} {lim : Nat} {a b : List α} (h : a.length + b.length ≤ lim) : app? lim a b = some (a ++ b) := by unfold app?; rw [if_pos h]
theorem Qqv {a b : ByteArray} (h : a.size + b.size ≤ 9223372036854775807) : cat? a b = some (a ++ b) := by unfold cat?; rw [if_pos h]
theorem Qqx {n : Nat} {i : Int} (h0 : 0 ≤ i) (h1 : i < n) : inb? n i = some i.toNat := by unfold inb?; rw [if_pos ⟨h0, h1⟩]
theorem Qqw {n : Nat} {lo hi : Int} (h0 : 0 ≤ lo) (h1 : lo ≤ hi) (h2 : hi ≤ n) : cut? n lo hi = some (lo.toNat, hi.toNat) := by unfold cut?; rw [if_pos ⟨h0, h1, h2⟩]
theorem mk_ok {α : Type} {lim : Nat} {n : Int} {z : α} (h0 : 0 ≤ n) (h1 : n ≤ lim) : mk? lim n z = some (List.replicate n.toNat z) := by unfold mk?; rw [if_pos ⟨h0, h1⟩]
theorem Zw {n : Int} (h0 : -9223372036854775808 ≤ n := by omega) (h1 : n ≤ 9223372036854775807 := by omega) : Zr n = n := Qgj h0 h1
theorem Zv {n : Int} (h0 : -9223372036854775808 ≤ n) (h1 : n ≤ 9223372036854775807) : Zr n = n := Qgj h0 h1
theorem Zi {n : Nat} {i : Int} (h0 : 0 ≤ i := by omega) (h1 : i < n := by omega) : inb? n i = some i.toNat := Qqx h0 h1
theorem Zc {n : Nat} {lo hi : Int} (h0 : 0 ≤ lo := by omega) (h1 : lo ≤ hi := by omega) (h2 : hi ≤ n := by omega) : cut? n lo hi = some (lo.toNat, hi.toNat) := Qqw h0 h1 h2
theorem Za {a b : ByteArray} (h : a.size + b.size ≤ 9223372036854775807 := by omega) : cat? a b = some (a ++ b) := Qqv h
theorem Qos {S X : Type} {B : S → Option (S ⊕ X)} (n : Nat) (st : Nat → S) (x : X) (h : ∀ i, i < n → B (st i) = some (.inl (st (i + 1)))) (hx : B (st n) = some (.inr x)) : ∀ k, n < k → iter B k (st 0) = some x := by
 have key : ∀ d i k, i + d = n → d < k → iter B k (st i) = some x := by
  intro d
  induction d with
  | zero =>
   intro i k hi hk
   obtain ⟨k, rfl⟩ : ∃ m, k = m + 1 := ⟨k - 1, by omega⟩
   have : i = n := by omega
   subst this
   simp [iter, hx]
  | succ d ih =>
   intro i k hi hk
   obtain ⟨k, rfl⟩ : ∃ m, k = m + 1 := ⟨k - 1, by omega⟩
   simp only [iter, h i (by omega), Zo]
   exact ih (i + 1) k (by omega) (by omega)
 intro k hk
 exact key n 0 k (by omega) hk
def Fit : (c : CK) → c.T → Prop
 | .unit, _ | .int _, _ | .bool, _ | .any, _ | .arr _ _, _ => True
 | .str, (s : ByteArray) => s.size ≤ 9223372036854775807
 | .sl _ c, (xs : List c.T) => xs.length ≤ 9223372036854775807 ∧ ∀ x ∈ xs, Fit c x
 | .pair a b, x => Fit a x.1 ∧ Fit b x.2
theorem Fit.of : ∀ {c : CK} {x : c.T}, WfT c x → Fit c x
 | .unit, _, _ | .int _, _, _ | .bool, _, _ | .any, _, _ | .arr _ _, _, _ => trivial
 | .str, _, h => h
 | .sl _ c, _, h => ⟨h.1, fun x hx => Fit.of (h.2 x hx)⟩
 | .pair _ _, _, h => ⟨Fit.of h.1, Fit.of h.2⟩
def mkU {α : Type} (M : α → Int → α) (c n : Int) (l : List α) : Nat → List α
 | 0 => l
 | i + 1 => match (mkU M c n l i)[i]? with
  | some x => (mkU M c n l i).set i (M x (n + c * i))
  | none => mkU M c n l i
theorem Qjn {α : Type} (M : α → Int → α) (c n : Int) (l : List α) : ∀ i, (mkU M c n l i).length = l.length
 | 0 => rfl
 | i + 1 => by
  unfold mkU
  split
  ·rw [List.length_set]; exact Qjn M c n l i
  ·exact Qjn M c n l i
theorem Qmj {α : Type} (M : α → Int → α) (c n : Int) (l : List α) : ∀ i j, (mkU M c n l i)[j]? = if j < i then (l[j]?).map (fun x => M x (n + c * j)) else l[j]?
 | 0, j => by simp [mkU]
 | i + 1, j => by
  have ih := Qmj M c n l i
  unfold mkU
  have hi := ih i
  rw [if_neg (by omega)] at hi
  cases hx : (mkU M c n l i)[i]? with
  | some x =>
   simp only
   have hlt : i < (mkU M c n l i).length := (List.getElem?_eq_some_iff.1 hx).1
   by_cases e : j = i
   ·subst e
    rw [List.getElem?_set_self hlt, if_pos (by omega), ← hi, hx]; rfl
   ·rw [List.getElem?_set_ne (by omega), ih j]
    by_cases h : j < i
    ·rw [if_pos h, if_pos (by omega)]
    ·rw [if_neg h, if_neg (by omega)]
  | none =>
   simp only
   rw [ih j]
   by_cases h : j < i
   ·rw [if_pos h, if_pos (by omega)]
   ·rw [if_neg h]
    by_cases e : j = i
    ·subst e; rw [if_pos (by omega), ← hi, hx]; rfl
    ·rw [if_neg (by omega)]
theorem Qrb {α : Type} (M : α → Int → α) (c n : Int) (l : List α) {i : Nat} (h : i < l.length) : (mkU M c n l i)[i]? = some l[i] := by
 rw [Qmj, if_neg (by omega), Zg h]
theorem Qrk {α : Type} (M : α → Int → α) (c n : Int) (l : List α) {i : Nat} (h : i < l.length) : mkU M c n l (i + 1) = (mkU M c n l i).set i (M l[i] (n + c * i)) := by
 rw [mkU, Qrb M c n l h]
theorem Qro {α : Type} (M : α → Int → α) (c n : Int) (l : List α) {i : Nat} (h : i < l.length) : (mkU M c n l l.length)[i]? = some (M l[i] (n + c * i)) := by
 rw [Qmj, if_pos h, Zg h]; rfl
def Sz (f : Option Int) (l : Int) (n : Nat) : Prop := ∃ v, f = some v ∧ (v = -1 ∨ (0 ≤ v ∧ v + n ≤ l))
theorem Sz.cast {f : Option Int} {l : Int} {n m : Nat} (h : Sz f l n) (e : m ≤ n) : Sz f l m := by
 obtain ⟨v, h1, h2⟩ := h
 exact ⟨v, h1, by omega⟩
theorem Sz.ret {l : Int} (h : 0 ≤ l) : Sz (some l) l 0 := ⟨l, rfl, .inr ⟨h, by omega⟩⟩
theorem Sz.bind {f : Option Int} {F : Int → Option Int} {l : Int} {n m : Nat} (h : Sz f l n) (hF : ∀ v, 0 ≤ v → v ≤ l → Sz (F v) v m) : Sz (f.bind fun r => bif decide (r < 0) then some (-1) else F r) l (n + m) := by
 obtain ⟨v, rfl, h2⟩ := h
 simp only [Zo]
 rcases h2 with rfl | ⟨h2, h3⟩
 ·exact ⟨-1, rfl, .inl rfl⟩
 ·have e : decide (v < 0) = false := by simp; omega
  rw [e, Zz]
  obtain ⟨v', h4, h5⟩ := hF v h2 (by omega)
  exact ⟨v', h4, by omega⟩
theorem Sz.sub {F : Int → Option Int} {l : Int} {n m : Nat} (h0 : 0 ≤ l) (h1 : l ≤ 1048576) (hn : n ≤ 9223372036854775807) (hF : ∀ v, 0 ≤ v → v ≤ l → Sz (F v) v m) : Sz (bif decide (Zr (l - (n : Int)) < 0) then some (-1) else F (Zr (l - (n : Int)))) l (n + m) := by
 rw [Zw]
 by_cases h : l - (n : Int) < 0
 ·rw [Zt h]
  exact ⟨-1, rfl, .inl rfl⟩
 ·rw [Zf h, Zz]
  obtain ⟨v', h4, h5⟩ := hF (l - n) (by omega) (by omega)
  exact ⟨v', h4, by omega⟩
theorem Qqn {α : Type} {xs : List α} {A : α → Nat} {z : Int} {B : List α × Int × Int × Int → Option ((List α × Int × Int × Int) ⊕ (Int × Int) ⊕ Int)}
  (hstep : ∀ (i : Nat) (hi : i < xs.length) (v : Int), 0 ≤ v → v ≤ 1048576 → B (xs, v, z, (i : Int)) = some (.inr (.inr (-1))) ∨ ∃ v', 0 ≤ v' ∧ v' + A xs[i] ≤ v ∧ B (xs, v, z, (i : Int)) = some (.inl (xs, v', z, ((i + 1 : Nat) : Int))))
  (hend : ∀ v, B (xs, v, z, (xs.length : Int)) = some (.inr (.inl (v, z)))) :
  ∀ (d i kk : Nat) (v : Int), i + d = xs.length → d < kk → 0 ≤ v → v ≤ 1048576 → iter B kk (xs, v, z, (i : Int)) = some (.inr (-1)) ∨ ∃ v', 0 ≤ v' ∧ v' + ((xs.drop i).map A).sum ≤ v ∧ iter B kk (xs, v, z, (i : Int)) = some (.inl (v', z))
 | 0, i, kk, v, hi, hk, h0, h1 => by
  obtain ⟨kk, rfl⟩ : ∃ m, kk = m + 1 := ⟨kk - 1, by omega⟩
  have : i = xs.length := by omega
  subst this
  refine .inr ⟨v, h0, by simp, ?_⟩
  simp [iter, hend]
 | d + 1, i, kk, v, hi, hk, h0, h1 => by
  obtain ⟨kk, rfl⟩ : ∃ m, kk = m + 1 := ⟨kk - 1, by omega⟩
  have hlt : i < xs.length := by omega
  rcases hstep i hlt v h0 h1 with h | ⟨v', h2, h3, h4⟩
  ·left; simp [iter, h]
  ·simp only [iter, h4, Zo]
   rcases Qqn hstep hend d (i + 1) kk v' (by omega) (by omega) h2 (by omega) with h | ⟨v'', h5, h6, h7⟩
   ·exact .inl h
   ·refine .inr ⟨v'', h5, ?_, h7⟩
    rw [List.drop_eq_getElem_cons hlt, List.map_cons, List.sum_cons]
    omega
def cpU {α : Type} (a l : List α) : Nat → List α
 | 0 => l
 | i + 1 => match a[i]? with
  | some x => (cpU a l i).set i x
  | none => cpU a l i
theorem Qgn {α : Type} (a l : List α) : ∀ i, (cpU a l i).length = l.length
 | 0 => rfl
 | i + 1 => by
  unfold cpU
  split
  ·rw [List.length_set]; exact Qgn a l i
  ·exact Qgn a l i
theorem Qpj {α : Type} (a l : List α) {i : Nat} (h : i < a.length) : cpU a l (i + 1) = (cpU a l i).set i a[i] := by
 rw [cpU, Zg h]
theorem Qom {α : Type} (a l : List α) (hl : l.length = a.length) : ∀ i j, i ≤ a.length → (cpU a l i)[j]? = if j < i then a[j]? else l[j]?
 | 0, j, _ => by simp [cpU]
 | i + 1, j, h => by
  rw [Qpj a l (by omega)]
  have ih := Qom a l hl i j (by omega)
  by_cases e : j = i
  ·subst e
   rw [List.getElem?_set_self (by rw [Qgn]; omega), if_pos (by omega), Zg (by omega)]
  ·rw [List.getElem?_set_ne (by omega), ih]
   by_cases h2 : j < i
   ·rw [if_pos h2, if_pos (by omega)]
   ·rw [if_neg h2, if_neg (by omega)]
theorem Qrn {α : Type} (a l : List α) (hl : l.length = a.length) : cpU a l a.length = a := by
 apply List.ext_getElem?
 intro j
 rw [Qom a l hl _ _ (Nat.le_refl _)]
 by_cases h : j < a.length
 ·rw [if_pos h]
 ·rw [if_neg h, List.getElem?_eq_none (by omega), List.getElem?_eq_none (by omega)]
def szL.b {α : Type} (e : α → Int → Option Int) (s : List α × Int × Int × Int) : Option ((List α × Int × Int × Int) ⊕ (Int × Int) ⊕ Int) :=
 bif (decide (s.2.2.2 < (s.1.length : Int))) then (inb? s.1.length s.2.2.2).bind fun j1 => (s.1[j1]?).bind fun y2 => (e y2 s.2.1).bind fun r3 => bif (decide (r3 < 0)) then some (.inr (.inr (-1))) else some (.inl (s.1, r3, s.2.2.1, Zr (s.2.2.2 + 1))) else some (.inr (.inl (s.2.1, s.2.2.1)))
def szL {α : Type} (e : α → Int → Option Int) (k : Nat) (a0 : List α) (a1 : Int) : Option Int :=
 bif (decide (Zr (a1 - (a0.length : Int)) < 0)) then some (-1) else (iter (X := (Int × Int) ⊕ Int) (szL.b e) k (a0, Zr (a1 - (a0.length : Int)), 0, 0)).bind fun r => match r with | .inl y => some y.1 | .inr o => some o
def toL.b {α : Type} (e : α → Option α) (s : List α × List α × List α × Int) : Option ((List α × List α × List α × Int) ⊕ (List α × List α) ⊕ (List α)) :=
 bif (decide (s.2.2.2 < (s.1.length : Int))) then (inb? s.1.length s.2.2.2).bind fun j1 => (s.1[j1]?).bind fun y2 => (e y2).bind fun r3 => (inb? s.2.2.1.length s.2.2.2).bind fun j4 => (s.2.2.1[j4]?).bind fun y5 => some (.inl (s.1, s.2.1, s.2.2.1.set j4 r3, Zr (s.2.2.2 + 1))) else some (.inr (.inl (s.2.1, s.2.2.1)))
def toL {α : Type} (e : α → Option α) (lim : Nat) (z : α) (k : Nat) (a0 : List α) : Option (List α) :=
 (mk? lim (a0.length : Int) z).bind fun l1 => (iter (X := (List α × List α) ⊕ (List α)) (toL.b e) k (a0, [], l1, 0)).bind fun r => match r with | .inl y => some y.2 | .inr o => some o
def eqL.b {α : Type} (e : α → α → Option Bool) (s : List α × List α × Bool × Int) : Option ((List α × List α × Bool × Int) ⊕ Bool ⊕ Bool) :=
 bif (decide (s.2.2.2 < (s.1.length : Int))) then (inb? s.1.length s.2.2.2).bind fun j1 => (s.1[j1]?).bind fun y2 => (inb? s.2.1.length s.2.2.2).bind fun j3 => (s.2.1[j3]?).bind fun y4 => (e y2 y4).bind fun r5 => bif (!r5) then some (.inr (.inr false)) else some (.inl (s.1, s.2.1, s.2.2.1, Zr (s.2.2.2 + 1))) else some (.inr (.inl s.2.2.1))
def eqL {α : Type} (e : α → α → Option Bool) (k : Nat) (a0 : List α) (a1 : List α) : Option Bool :=
 bif (!decide ((a0.length : Int) = (a1.length : Int))) then some false else (iter (X := Bool ⊕ Bool) (eqL.b e) k (a0, a1, false, 0)).bind fun r => match r with | .inl y => some true | .inr o => some o
theorem Qqt {S X : Type} {B : S → Option (S ⊕ X)} (n : Nat) (st : Nat → S) (p : Nat → Bool) (xt : X) (xf : X) (h : ∀ i, i < n → (∀ j, j < i → p j = true) → B (st i) = if p i then some (.inl (st (i + 1))) else some (.inr xf))
  (hx : (∀ j, j < n → p j = true) → B (st n) = some (.inr xt)) : ∀ k, n < k → iter B k (st 0) = some (if (List.range n).all p then xt else xf) := by
 have key : ∀ d i k, i + d = n → d < k → (∀ j, j < i → p j = true) → iter B k (st i) = some (if (List.range n).all p then xt else xf) := by
  intro d
  induction d with
  | zero =>
   intro i k hi hk hp
   obtain ⟨k, rfl⟩ : ∃ m, k = m + 1 := ⟨k - 1, by omega⟩
   have : i = n := by omega
   subst this
   have ha : (List.range i).all p = true := List.all_eq_true.2 fun j hj => hp j (List.mem_range.1 hj)
   simp [iter, hx hp, ha]
  | succ d ih =>
   intro i k hi hk hp
   obtain ⟨k, rfl⟩ : ∃ m, k = m + 1 := ⟨k - 1, by omega⟩
   have hin : i < n := by omega
   simp only [iter, h i hin hp]
   cases hpi : p i with
   | true =>
    simp only [if_true, Zo]
    exact ih (i + 1) k (by omega) (by omega) fun j hj => by
     rcases Nat.lt_succ_iff_lt_or_eq.1 hj with h | h
     ·exact hp j h
     ·exact h ▸ hpi
   | false =>
    have ha : (List.range n).all p = false := by
     cases hc : (List.range n).all p with
     | false => rfl
     | true => have := List.all_eq_true.1 hc i (List.mem_range.2 hin); rw [hpi] at this; cases this
    simp [ha]
 intro k hk
 exact key n 0 k (by omega) hk fun j hj => by omega
theorem Qqy {α S X : Type} {B : S → Option (S ⊕ X)} (l : List α) (st : Nat → S) (p : α → Bool) (xf : Nat → X) (xn : X)
  (h : ∀ i (hi : i < l.length), B (st i) = bif p l[i] then some (.inr (xf i)) else some (.inl (st (i + 1)))) (hx : B (st l.length) = some (.inr xn)) :
  ∀ k, l.length < k → iter B k (st 0) = some (match l.findIdx? p with | some i => xf i | none => xn) := by
 have key : ∀ d i k, i + d = l.length → d < k → iter B k (st i) = some (match (l.drop i).findIdx? p with | some j => xf (i + j) | none => xn) := by
  intro d
  induction d with
  | zero =>
   intro i k hi hk
   obtain ⟨k, rfl⟩ : ∃ m, k = m + 1 := ⟨k - 1, by omega⟩
   have : i = l.length := by omega
   subst this
   simp [iter, hx]
  | succ d ih =>
   intro i k hi hk
   obtain ⟨k, rfl⟩ : ∃ m, k = m + 1 := ⟨k - 1, by omega⟩
   have hlt : i < l.length := by omega
   rw [List.drop_eq_getElem_cons hlt, List.findIdx?_cons]
   simp only [iter, h i hlt]
   cases hp : p l[i] with
   | true => simp
   | false =>
    simp only [Zz, Zo]
    rw [ih (i + 1) k (by omega) (by omega)]
    cases (l.drop (i + 1)).findIdx? p with
    | none => simp
    | some j =>
     have : i + 1 + j = i + (j + 1) := by omega
     simp [this]
 intro k hk
 have := key l.length 0 k (by omega) hk
 simpa using this
theorem Qqp {α A S X : Type} {B : S → Option (S ⊕ X)} (l : List α) (st : Nat → A → S) (g : A → α → A) (fin : A → X) (a0 : A)
  (h : ∀ i (hi : i < l.length), B (st i ((l.take i).foldl g a0)) = some (.inl (st (i + 1) (g ((l.take i).foldl g a0) l[i])))) (hx : B (st l.length (l.foldl g a0)) = some (.inr (fin (l.foldl g a0)))) :
  ∀ k, l.length < k → iter B k (st 0 a0) = some (fin (l.foldl g a0)) := by
 have := Qos (B := B) l.length (fun i => st i ((l.take i).foldl g a0)) (fin (l.foldl g a0)) (fun i hi => by
  rw [h i hi, List.take_add_one, Zg hi, Option.toList_some, List.foldl_append]; rfl) (by
  rw [List.take_length]; exact hx)
 simpa using this
def idxOf {α : Type} (p : α → Bool) (l : List α) : Int := match l.findIdx? p with | some i => i | none => -1
theorem Qlb {α : Type} {p : α → Bool} {l : List α} : idxOf p l < 0 ↔ ∀ x ∈ l, p x = false := by
 unfold idxOf
 cases h : l.findIdx? p with
 | none => simp only [Int.reduceNeg, Int.reduceLT, true_iff]; exact List.findIdx?_eq_none_iff.1 h
 | some i =>
  obtain ⟨h1, h2, _⟩ := List.findIdx?_eq_some_iff_getElem.1 h
  constructor
  ·intro hc; simp only at hc; omega
  ·intro hc; rw [hc _ (List.getElem_mem h1)] at h2; cases h2
theorem Qrg {α : Type} {p : α → Bool} {l : List α} (h : ¬ idxOf p l < 0) : ∃ i, ∃ hi : i < l.length, idxOf p l = i ∧ p l[i] = true ∧ ∀ j, ∀ hj : j < i, p (l[j]'(by omega)) = false := by
 unfold idxOf at h ⊢
 cases h' : l.findIdx? p with
 | none => rw [h'] at h; simp at h
 | some i =>
  obtain ⟨h1, h2, h3⟩ := List.findIdx?_eq_some_iff_getElem.1 h'
  exact ⟨i, h1, rfl, h2, fun j hj => by simpa using h3 j hj⟩
theorem Qrh {α : Type} (p : α → Bool) (l : List α) : -1 ≤ idxOf p l ∧ idxOf p l < l.length := by
 unfold idxOf
 cases h' : l.findIdx? p with
 | none => simp; omega
 | some i =>
  obtain ⟨h1, _⟩ := List.findIdx?_eq_some_iff_getElem.1 h'
  simp only; omega
theorem Qrm {α : Type} (p : α → Bool) (l : List α) : l.any p = !decide (idxOf p l < 0) := by
 cases h : l.any p with
 | false =>
  have : idxOf p l < 0 := Qlb.2 fun x hx => by
   cases hp : p x with
   | false => rfl
   | true => rw [List.any_eq_true.2 ⟨x, hx, hp⟩] at h; cases h
  simp [this]
 | true =>
  obtain ⟨x, hx, hp⟩ := List.any_eq_true.1 h
  have : ¬ idxOf p l < 0 := fun hc => by rw [Qlb.1 hc x hx] at hp; cases hp
  simp [this]
def insF {α : Type} (bytes : Nat) (l : List α) (i : Int) (v : List α) : Option (List α) :=
 if v.length = 1 ∧ 0 ≤ i ∧ i ≤ l.length ∧ (l.length + 1) * bytes ≤ 140737488355328 then some (l.take i.toNat ++ v ++ l.drop i.toNat) else none
def delR {α : Type} (l : List α) (i j : Int) : Option (List α) :=
 if 0 ≤ i ∧ i ≤ j ∧ j ≤ l.length then some (l.take i.toNat ++ l.drop j.toNat) else none
def delF {α : Type} (p : α → Option Bool) : List α → Option (List α)
 | [] => some []
 | x :: l => (p x).bind fun b => (delF p l).bind fun r => some (bif b then r else x :: r)
def delG {α : Type} (idx : Option Int) (p : α → Option Bool) (l : List α) : Option (List α) :=
 idx.bind fun i => if i = -1 then some l else if 0 ≤ i ∧ i < l.length ∧ l.length ≤ 9223372036854775806 then (delF p (l.drop (i.toNat + 1))).map (l.take i.toNat ++ ·) else none
theorem Qpz {α : Type} {p : α → Option Bool} : ∀ {l r : List α}, delF p l = some r → (∀ x ∈ l, ∃ b, p x = some b) ∧ r = l.filter fun x => !(p x).getD false
 | [], r, h => by simp only [delF, Zj] at h; subst h; simp
 | x :: l, r, h => by
  simp only [delF] at h
  obtain ⟨b, hb, h⟩ := Option.bind_eq_some_iff.1 h
  obtain ⟨s, hs, h⟩ := Option.bind_eq_some_iff.1 h
  obtain ⟨h1, h2⟩ := Qpz hs
  simp only [Zj] at h
  subst h
  refine ⟨fun y hy => ?_, ?_⟩
  ·rcases List.mem_cons.1 hy with rfl | hy
   ·exact ⟨b, hb⟩
   ·exact h1 y hy
  ·cases b <;> simp [hb, h2]
theorem Qqa {α : Type} {p : α → Option Bool} {q : α → Bool} : ∀ {l : List α}, (∀ x ∈ l, p x = some (q x)) → delF p l = some (l.filter fun x => !q x)
 | [], _ => rfl
 | x :: l, h => by
  rw [delF, h x (by simp), Zo, Qqa fun y hy => h y (by simp [hy])]
  cases hq : q x <;> simp [hq]
section
def FlatR {α : Type} (rd : α → List Value → Prop) (size : Nat) (xs : List α) (L : List Value) : Prop :=
 L.length = xs.length * size ∧ ∀ (i : Nat) (x : α), xs[i]? = some x → ∃ l, l.length = size ∧ rd x l ∧ ∀ (j : Nat) (v : Value), l[j]? = some v → L[i * size + j]? = some v
section
variable {α : Type} {rd rd' : α → List Value → Prop} {size : Nat} {xs ys : List α} {X Y : List Value}
theorem FlatR.nil : FlatR rd size [] [] := ⟨by simp, fun i x h => by simp at h⟩
theorem FlatR.append (h1 : FlatR rd size xs X) (h2 : FlatR rd size ys Y) : FlatR rd size (xs ++ ys) (X ++ Y) :=
 ⟨by rw [List.length_append, List.length_append, h1.1, h2.1, Nat.add_mul], fun i x hx => Qcw rd h1.1 h1.2 h2.2 hx⟩
theorem FlatR.mono (h : FlatR rd size xs X) (hm : ∀ x l, rd x l → rd' x l) : FlatR rd' size xs X :=
 ⟨h.1, fun i x hx => by obtain ⟨l, h1, h2, h3⟩ := h.2 i x hx; exact ⟨l, h1, hm _ _ h2, h3⟩⟩
theorem FlatR.take (h : FlatR rd size xs X) (n : Nat) : FlatR rd size (xs.take n) (X.take (n * size)) := by
 refine ⟨?_, fun i x hx => ?_⟩
 ·rw [List.length_take, List.length_take, h.1]
  rcases Nat.le_total n xs.length with hl | hl
  ·have := Nat.mul_le_mul_right size hl; rw [Nat.min_eq_left hl, Nat.min_eq_left this]
  ·have := Nat.mul_le_mul_right size hl; rw [Nat.min_eq_right hl, Nat.min_eq_right this]
 ·rw [List.getElem?_take] at hx
  split at hx
  ·rename_i hi
   obtain ⟨l, h1, h2, h3⟩ := h.2 i x hx
   refine ⟨l, h1, h2, fun j v hv => ?_⟩
   have hj : j < size := by rw [← h1]; exact (List.getElem?_eq_some_iff.1 hv).1
   have : (i + 1) * size ≤ n * size := Nat.mul_le_mul_right _ hi
   rw [Nat.add_mul] at this
   rw [List.getElem?_take, if_pos (by omega)]
   exact h3 j v hv
  ·cases hx
theorem FlatR.drop (h : FlatR rd size xs X) (n : Nat) (hn : n ≤ xs.length) : FlatR rd size (xs.drop n) (X.drop (n * size)) := by
 refine ⟨?_, fun i x hx => ?_⟩
 ·rw [List.length_drop, List.length_drop, h.1, Nat.sub_mul]
 ·rw [List.getElem?_drop] at hx
  obtain ⟨l, h1, h2, h3⟩ := h.2 _ x hx
  refine ⟨l, h1, h2, fun j v hv => ?_⟩
  rw [List.getElem?_drop]
  have := h3 j v hv
  rw [Nat.add_mul] at this
  rw [show n * size + (i * size + j) = n * size + i * size + j by omega]; exact this
theorem RdRow.flatR {top : Nat → Prop} {w : World} {ad : Addr} {n cap : Nat} (h : RdRow w top rd size xs (some ad) n cap) (hpos : 0 < size) :
  ∃ L : List Value, L.length = n * size ∧ (∀ (j : Nat) (v : Value), L[j]? = some v → w.cell? ⟨ad.block, ad.off + j, none⟩ = some v) ∧ FlatR rd size xs L := by
 obtain ⟨L, h1, h2, h3⟩ := h.flat hpos
 exact ⟨L, h1, h2, by rw [h1, h.1], h3⟩
theorem FlatR.row (h : FlatR rd size xs X) {top : Nat → Prop} {w : World} {b off n cap : Nat} (hn : n = xs.length) (hc : n ≤ cap) (ht : top b) (hX : ∀ (j : Nat) (v : Value), X[j]? = some v → w.cell? ⟨b, off + j, none⟩ = some v) :
  RdRow w top rd size xs (some ⟨b, off, none⟩) n cap := by
 refine ⟨hn, hc, fun _ => rfl, fun i x hx => ⟨ht, ?_⟩⟩
 obtain ⟨l, h1, h2, h3⟩ := h.2 i x hx
 refine ⟨l, h1, h2, fun j v hv => ?_⟩
 have := hX _ _ (h3 j v hv)
 rw [show off + i * size + j = off + (i * size + j) by omega]; exact this
end
theorem FlatR.one {w : World} {S : Nat → Prop} {c : CK} {xs : List c.T} {X : List Value} (h : FlatR (RdT w S c) c.size xs X) (hpos : 0 < c.size) (hw : c.whole = true) : ∀ v ∈ X, v.oneCell' = true := by
 intro v hv
 obtain ⟨j, hj, rfl⟩ := List.getElem_of_mem hv
 rw [h.1] at hj
 have hi : j / c.size < xs.length := Nat.div_lt_of_lt_mul (by rwa [Nat.mul_comm])
 obtain ⟨l, hl, hrd, hcl⟩ := h.2 _ _ (Zg hi)
 have hr : j % c.size < l.length := by rw [hl]; exact Nat.mod_lt _ hpos
 have := hcl (j % c.size) _ (Zg hr)
 have e : j / c.size * c.size + j % c.size = j := by
  have := Nat.div_add_mod j c.size
  rw [Nat.mul_comm] at this; exact this
 rw [e, Zg (by rw [h.1]; omega)] at this
 simp only [Zj] at this
 rw [this]
 exact hrd.one hw _ (List.getElem_mem hr)
section
variable {P : Program}
theorem Qqs (w : World) (dT sT ty elem : TypeId) (g o dLen dCap : Nat) (a : Addr) (sLen sCap : Nat) (cur : Array Value) (t : TypeId) (cs : List Value) (size : Nat)
  (hu : P.underlying dT = some (.slice elem)) (hs : (P.info? elem).map (·.size) = some size)
  (hg : w.heap[g]? = some (.cells cur t (0, 0))) (m : Nat) (hm : m = Nat.min sLen dLen) (hn : cs.length = m * size)
  (hsrc : ∀ j v, cs[j]? = some v → w.cell? (a.add j) = some v) (hfit : o + cs.length ≤ cur.size) (h1 : ∀ v ∈ cs, v.oneCell' = true) :
  (Builtin.copy_ #[dT, sT] ty #[.slice (some ⟨g, o, none⟩) dLen dCap, .slice (some a) sLen sCap]).run P w =
   .ok (goInt m) (w.setRow g (cur.toList.take o ++ cs ++ cur.toList.drop (o + cs.length)).toArray) := by
 have hl := run_loadCells_list (P := P) w a cs hsrc
 have hst := run_storeCells_at P g o t cs 0 cur w hg (by simpa using hfit) h1
 cases hq : P.info? elem with
 | none => simp [hq] at hs
 | some i =>
  have hi : i.size = size := by simpa [hq] using hs
  simp [Builtin.copy_, run_underlying hu, Builtin.lenOf, Builtin.firstCells, sizeOf, typeInfo, hq, hi, ← hm, ← hn, hl, hst]
theorem Qqm (w : World) (t e ty : TypeId) (z : Value) (ht : P.underlying t = some (.slice e)) (hv : ∀ w, (zeroValue e).run P w = .ok z w) (g o n c : Nat) (cur : Array Value) (T : TypeId) (hg : w.heap[g]? = some (.cells cur T (0, 0)))
  (hfit : o + (Builtin.zeroCells z.cells n).toList.length ≤ cur.size) (h1 : ∀ v ∈ (Builtin.zeroCells z.cells n).toList, v.oneCell' = true) (hn : 0 < n) :
  (Builtin.clear_ #[t] ty #[.slice (some ⟨g, o, none⟩) n c]).run P w = .ok (.tuple #[]) (w.setRow g (cur.toList.take o ++ (Builtin.zeroCells z.cells n).toList ++ cur.toList.drop (o + (Builtin.zeroCells z.cells n).toList.length)).toArray) := by
 have hst := run_storeCells_at P g o T (Builtin.zeroCells z.cells n).toList 0 cur w hg (by simpa using hfit) h1
 obtain ⟨m, rfl⟩ : ∃ m, n = m + 1 := ⟨n - 1, by omega⟩
 simp only [Nat.add_zero] at hst
 simp [Builtin.clear_, run_underlying ht, hv, hst]
theorem Qql (w : World) (t e ty : TypeId) (ht : P.underlying t = some (.slice e)) (a : Option Addr) (c : Nat) : (Builtin.clear_ #[t] ty #[.slice a 0 c]).run P w = .ok (.tuple #[]) w := by
 cases a <;> simp [Builtin.clear_, run_underlying ht]
end
end
section
open Go.Proofs Go.Shelf Go.RowKit Go.Lib
def Qhs (e : TypeId) (size : Nat) (w : World) (b : Option Nat) (Z : List Value) (n : Nat) (en : Ending) (w' : World) : Prop :=
 ∃ b' off' cap' cur', en = .returned (.slice (some ⟨b', off', none⟩) n cap') ∧ n ≤ cap' ∧ w'.heap[b']? = some (.cells cur' e (0, 0)) ∧ off' + cap' * size ≤ cur'.size ∧
  (∀ (j : Nat) (v : Value), Z[j]? = some v → cur'[off' + j]? = some v) ∧ Frm w.heap.size (fun x => some x = b) w w' ∧ (b = some b' ∨ w.heap.size ≤ b')
theorem Qhs.new {w w1 : World} {b : Option Nat} {Z pad : List Value} {n cap size : Nat} {e : TypeId} (h1 : w1 = w.drew.alloc (.cells (Z ++ pad).toArray e)) (hn : n ≤ cap) (hs : cap * size ≤ Z.length + pad.length) :
  Qhs e size w b Z n (.returned (.slice (some ⟨w.heap.size, 0, none⟩) n cap)) w1 := by
 subst h1
 refine ⟨w.heap.size, 0, cap, (Z ++ pad).toArray, rfl, hn, (by show (w.heap.push _)[w.heap.size]? = _; simp), by simpa using hs, fun j v hj => ?_, ⟨rfl, rfl, rfl, rfl, (by show w.heap.size ≤ (w.heap.push _).size; simp), fun k hk _ => ?_⟩, .inr (Nat.le_refl _)⟩
 ·simp only [Nat.zero_add, List.getElem?_toArray]
  rw [List.getElem?_append_left (List.getElem?_eq_some_iff.1 hj).1]; exact hj
 ·show (w.heap.push _)[k]? = _
  simp [Array.getElem?_push, Nat.ne_of_lt hk]
theorem Qrc {w : World} {S : Nat → Prop} {e : TypeId} {c : CK} {xs : List c.T} {l : List Value} {rows : List Row} (h : OwnT w S (.sl e c) xs l rows) (hpos : 0 < c.size) :
  ∃ a cap X, l = [.slice a xs.length cap] ∧ rows = [(a.map (·.block), .slice a xs.length cap)] ∧ xs.length ≤ cap ∧ (a = none → xs = [] ∧ cap = 0) ∧ X.length = xs.length * c.size ∧ FlatR (RdT w S c) c.size xs X ∧
   ∀ ad, a = some ad → ad.spot = none ∧ ∃ cur, w.heap[ad.block]? = some (.cells cur e (0, 0)) ∧ ad.off + cap * c.size ≤ cur.size ∧ ∀ (j : Nat) (v : Value), X[j]? = some v → cur[ad.off + j]? = some v := by
 obtain ⟨a, n, cap, rfl, rfl, hrd, ho⟩ := h
 obtain rfl := hrd.1
 cases a with
 | none =>
  obtain ⟨h1, h2⟩ := ho
  obtain rfl : xs = [] := List.eq_nil_of_length_eq_zero h1
  exact ⟨none, cap, [], rfl, rfl, hrd.2.1, fun _ => ⟨rfl, h2⟩, by simp, FlatR.nil, fun ad h => by cases h⟩
 | some ad =>
  obtain ⟨cur, hcur, hfit, hsp⟩ := ho
  obtain ⟨X, h1, h2, h3⟩ := hrd.flatR hpos
  refine ⟨some ad, cap, X, rfl, rfl, hrd.2.1, (fun h => nomatch h), h1, h3, fun ad' h => ?_⟩
  cases h
  refine ⟨hsp, cur, hcur, hfit, fun j v hj => ?_⟩
  have := h2 j v hj
  rwa [cell_of_row w ad.block _ cur e (0, 0) hcur] at this
theorem Qri {w w' : World} {S : Nat → Prop} {e : TypeId} {c : CK} {ys : List c.T} {Z : List Value} {b : Option Nat} {n : Nat} {en : Ending} {rows : List Row} (hp : Qhs e c.size w b Z n en w') (hz : FlatR (RdT w S c) c.size ys Z) (hn : n = ys.length)
  (hS : ∀ x, S x → x < w.heap.size) (hb : ∀ x, b = some x → x ∈ Blks rows) (hrows : ∀ x ∈ Blks rows, ¬ S x ∧ x < w.heap.size) {rs : List (CK × Bool)} (hrs : rs = [(.sl e c, true)]) :
  ∃ rv rows', en = .returned rv ∧ Frm w.heap.size (fun x => x ∈ ([] : List Nat) ∨ x ∈ Blks rows) w w' ∧ (∀ x, S x → x < w'.heap.size) ∧ Qaz w' S [((.sl e c : CK), true)] ys ([[rv]] ++ []) rows' ∧
   (Blks rows').Nodup ∧ ∀ x ∈ Blks rows', ¬ S x ∧ x < w'.heap.size ∧ x ∉ ([] : List Nat) ∧ (x ∈ Blks rows ∨ w.heap.size ≤ x) := by
 obtain ⟨b', off', cap', cur', rfl, hc, hcur, hfit, hcells, hfrm, hwhere⟩ := hp
 have hkeep : ∀ x, S x → w'.heap[x]? = w.heap[x]? := fun x hx => hfrm.block x (hS x hx) fun he => (hrows x (hb x he.symm)).1 hx
 have hlt : b' < w'.heap.size := (Array.getElem?_eq_some_iff.1 hcur).1
 have hnS : ¬ S b' ∧ (b' ∈ Blks rows ∨ w.heap.size ≤ b') := by
  rcases hwhere with h | h
  ·exact ⟨(hrows b' (hb b' h)).1, .inl (hb b' h)⟩
  ·exact ⟨fun hs => by have := hS b' hs; omega, .inr h⟩
 refine ⟨_, [(some b', .slice (some ⟨b', off', none⟩) n cap')], rfl, ⟨hfrm.os, hfrm.tape, hfrm.output, hfrm.at0, hfrm.size, fun k hk hm => hfrm.block k hk fun he => hm (.inr (hb k he.symm))⟩, fun x hx => Nat.lt_of_lt_of_le (hS x hx) hfrm.size, ?_, by simp [Blks], ?_⟩
 ·refine ⟨_, rfl, ?_⟩
  show OwnT w' S (.sl e c) ys _ _
  refine ⟨some ⟨b', off', none⟩, n, cap', rfl, rfl, (hz.mono fun x l => RdT.mono (fun _ h => h) hkeep).row hn hc rfl (fun j v hj => ?_), ⟨cur', hcur, hfit, rfl⟩⟩
  rw [cell_of_row w' b' _ cur' e (0, 0) hcur]
  exact hcells j v hj
 ·intro x hx
  simp only [Blks, List.filterMap_cons, List.filterMap_nil, List.mem_singleton] at hx
  subst hx
  exact ⟨hnS.1, hlt, by simp, hnS.2⟩
theorem Qqo {P : Program} {g : FuncId} {fn : Func} (h1 : P.funcs[g]? = some fn) (h2 : (fn.name == "runtime.NumGoroutine") = false) (h3 : fn.body.isSome = true) : ∃ fn c, P.funcs[g]? = some fn ∧ (fn.name == "runtime.NumGoroutine") = false ∧ fn.body = some c := by
 obtain ⟨c, hc⟩ := Option.isSome_iff_exists.1 h3
 exact ⟨fn, c, h1, h2, hc⟩
theorem list3 {α : Type} : ∀ {l : List α}, l.length = 3 → ∃ a b c, l = [a, b, c]
 | [a, b, c], _ => ⟨a, b, c, rfl⟩
theorem Qof {P : Program} {ops : Array Oper} {o : Oper} {a : Act} {w : World} {K : Act → World → Prop} {Q : Exit → Act → World → Prop} {E : Prop}
  (hg : o.guard = none) (d x : Operand) (dT sT : TypeId) (hop : o.op = Op.call { callee := Callee.builtin Builtin.append, args := #[d, x], argTypes := #[dT, sT] })
  (v u : Value) (hd : a.eval d = v) (hx : a.eval x = u) {v' : Value} {w' : World} (hr : (Builtin.append_ #[dT, sT] o.type #[v, u]).run P w = .ok v' w') (hK : K (a.put o.dst v') w') :
  if Region.wanted o (yielded ops a.tmps) = true then Oper.wp P o a w K Q else E := by
 have hw : Region.wanted o (yielded ops a.tmps) = true := by simp [Region.wanted, hg]
 rw [if_pos hw]
 unfold Oper.wp
 simp [execOp, hop, resolve, invoke, builtin, hd, hx, hr, Result.andThen]
 exact hK
theorem Qhs.same {w : World} {e : TypeId} {size n cap : Nat} {ad : Addr} {cur : Array Value} {X : List Value} (hsp : ad.spot = none) (hn : n ≤ cap) (hcur : w.heap[ad.block]? = some (.cells cur e (0, 0))) (hfit : ad.off + cap * size ≤ cur.size)
  (hX : ∀ (j : Nat) (v : Value), X[j]? = some v → cur[ad.off + j]? = some v) : Qhs e size w (some ad.block) X n (.returned (.slice (some ad) n cap)) w := by
 obtain ⟨b, off, sp⟩ := ad
 simp only at hsp
 subst hsp
 exact ⟨b, off, cap, cur, rfl, hn, hcur, hfit, hX, ⟨rfl, rfl, rfl, rfl, Nat.le_refl _, fun _ _ _ => rfl⟩, .inl rfl⟩
theorem Qrl {w : World} {S : Nat → Prop} {e : TypeId} {c : CK} {n cap : Nat} (hn : n = 0) (hc : cap = 0) (hS : ∀ x, S x → x < w.heap.size) (Mod : Nat → Prop) :
  ∃ rv rows', (.returned (.slice none n cap) : Ending) = .returned rv ∧ Frm w.heap.size Mod w w ∧ (∀ x, S x → x < w.heap.size) ∧ Qaz w S [((.sl e c : CK), true)] ([] : List c.T) ([[rv]] ++ []) rows' ∧
   (Blks rows').Nodup ∧ ∀ x ∈ Blks rows', ¬ S x ∧ x < w.heap.size ∧ x ∉ ([] : List Nat) ∧ (False ∨ w.heap.size ≤ x) := by
 subst hn; subst hc
 refine ⟨_, [(none, .slice none 0 0)], rfl, ⟨rfl, rfl, rfl, rfl, Nat.le_refl _, fun _ _ _ => rfl⟩, hS, ?_, by simp [Blks], by simp [Blks]⟩
 refine ⟨_, rfl, ?_⟩
 show OwnT w S (.sl e c) ([] : List c.T) _ _
 exact ⟨none, 0, 0, rfl, rfl, ⟨rfl, Nat.le_refl _, rfl⟩, ⟨rfl, rfl⟩⟩
theorem Frm.cell0 {W w' : World} (h : Frm W.heap.size (fun _ => False) W w') {a : Addr} {v : Value} (hv : W.cell? a = some v) : w'.cell? a = some v := by
 have hlt : a.block < W.heap.size := by
  rcases Nat.lt_or_ge a.block W.heap.size with h' | h'
  ·exact h'
  ·simp [World.cell?, Array.getElem?_eq_none h'] at hv
 rw [World.cell?_of_block (w := W) (a := a) (h.block _ hlt id)]
 exact hv
theorem list2 {α : Type} : ∀ {l : List α}, l.length = 2 → ∃ a b, l = [a, b]
 | [a, b], _ => ⟨a, b, rfl⟩
section
variable {α : Type} {rd : α → List Value → Prop} {size : Nat} {cv : α → List Value}
theorem FlatR.of_flat (hl : ∀ x, (cv x).length = size) : ∀ {xs : List α}, (∀ x ∈ xs, rd x (cv x)) → FlatR rd size xs (xs.flatMap cv)
 | [], _ => FlatR.nil
 | x :: xs, h => by
  have h1 : FlatR rd size [x] (cv x) := ⟨by simp [hl], fun i y hy => by
   cases i with
   | zero => simp only [List.getElem?_cons_zero, Zj] at hy; subst hy; exact ⟨cv x, hl x, h x (by simp), fun j v hj => by simpa using hj⟩
   | succ i => simp at hy⟩
  simpa using h1.append (FlatR.of_flat hl fun y hy => h y (by simp [hy]))
theorem FlatR.flat (hl : ∀ x, (cv x).length = size) (hd : ∀ x l, rd x l → l = cv x) : ∀ {xs : List α} {X : List Value}, FlatR rd size xs X → X = xs.flatMap cv
 | [], X, h => by
  have := h.1
  simp only [List.length_nil, Nat.zero_mul] at this
  simpa using List.eq_nil_of_length_eq_zero this
 | x :: xs, X, h => by
  have h1 := h.drop 1 (by simp)
  simp only [List.drop_one, List.tail_cons, Nat.one_mul] at h1
  obtain ⟨l, e1, e2, e3⟩ := h.2 0 x rfl
  have hXl : X.length = (xs.length + 1) * size := by simpa using h.1
  obtain rfl := hd x l e2
  have e : X.take size = cv x := by
   apply List.ext_getElem?
   intro j
   rw [List.getElem?_take]
   by_cases hj : j < size
   ·have hj' : j < (cv x).length := by rw [e1]; exact hj
    have := e3 j _ (Zg hj')
    rw [if_pos hj, Zg hj']
    simpa using this
   ·rw [if_neg hj, List.getElem?_eq_none (by rw [e1]; omega)]
  rw [← List.take_append_drop size X, e, FlatR.flat hl hd h1]
  simp
theorem Qnb (hl : ∀ x, (cv x).length = size) : ∀ (xs : List α), (xs.flatMap cv).length = xs.length * size
 | [] => by simp
 | x :: xs => by rw [List.flatMap_cons, List.length_append, hl, Qnb hl xs, Zl, Nat.add_mul]; omega
theorem Qpl (hl : ∀ x, (cv x).length = size) {xs : List α} {i j : Nat} {x : α} {v : Value} (hx : xs[i]? = some x) (hj : (cv x)[j]? = some v) : (xs.flatMap cv)[i * size + j]? = some v := by
 obtain ⟨l, e1, e2, e3⟩ := (FlatR.of_flat (rd := fun x l => l = cv x) hl (xs := xs) (fun _ _ => rfl)).2 i x hx
 subst e2
 exact e3 j v hj
end
def Qip (cur : Array Value) : Nat → List Value → Array Value
 | _, [] => cur
 | o, v :: l => Qip (cur.setIfInBounds o v) (o + 1) l
theorem Qiq : ∀ (l : List Value) (o : Nat) (cur : Array Value), (Qip cur o l).size = cur.size
 | [], _, _ => rfl
 | v :: l, o, cur => by rw [Qip, Qiq l]; simp
theorem Qgw : ∀ (l : List Value) (o : Nat) (cur : Array Value) (q : Nat), o + l.length ≤ cur.size → (Qip cur o l)[q]? = if o ≤ q ∧ q < o + l.length then l[q - o]? else cur[q]?
 | [], o, cur, q, _ => by rw [if_neg (by simp only [List.length_nil]; omega)]; rfl
 | v :: l, o, cur, q, h => by
  simp only [Zl] at h ⊢
  rw [Qip, Qgw l (o + 1) _ q (by simp; omega)]
  by_cases h1 : o + 1 ≤ q ∧ q < o + 1 + l.length
  ·rw [if_pos h1, if_pos (by omega), show q - o = q - (o + 1) + 1 by omega, List.getElem?_cons_succ]
  ·rw [if_neg h1, Array.getElem?_setIfInBounds]
   by_cases h2 : o = q
   ·subst h2
    rw [if_pos rfl, if_pos (by omega), if_pos (by omega), Nat.sub_self]; rfl
   ·rw [if_neg h2, if_neg (by omega)]
theorem Qhi {b : Nat} {e : TypeId} {z : Nat × Nat} : ∀ (l : List Value) (o : Nat) (w : World) (cur : Array Value), w.heap[b]? = some (.cells cur e z) → (w.setCells b o l).heap[b]? = some (.cells (Qip cur o l) e z)
 | [], _, _, _, h => h
 | v :: l, o, w, cur, h => by
  rw [World.setCells, Qip]
  exact Qhi l (o + 1) _ _ (by simp [World.setCell, Array.getElem?_modify, h])
theorem Qhh {b : Nat} : ∀ (l : List Value) (o : Nat) (w : World), Frm w.heap.size (fun x => x = b) w (w.setCells b o l)
 | [], _, w => ⟨rfl, rfl, rfl, rfl, Nat.le_refl _, fun _ _ _ => rfl⟩
 | v :: l, o, w => by
  have h := Qhh (b := b) l (o + 1) (w.setCell ⟨b, o, none⟩ v)
  have hs : (w.setCell ⟨b, o, none⟩ v).heap.size = w.heap.size := by simp [World.setCell]
  refine ⟨h.os, h.tape, h.output, rfl, by have := h.size; rw [World.setCells]; omega, fun k hk hm => ?_⟩
  rw [World.setCells, h.block k (by omega) hm]
  simp only [World.setCell, Array.getElem?_modify]
  rw [if_neg (fun e => hm e.symm)]
section
variable {α : Type} {cv : α → List Value} {size : Nat} {e : TypeId}
structure DInv (e : TypeId) (size : Nat) (cv : α → List Value) (w : World) (b off sz : Nat) (xs ks : List α) (j : Nat) (W : World) : Prop where
 frm : Frm w.heap.size (fun x => x = b) w W
 row : ∃ cur', W.heap[b]? = some (.cells cur' e (0, 0)) ∧ cur'.size = sz ∧ (∀ q v, (ks.flatMap cv)[q]? = some v → cur'[off + q]? = some v) ∧ (∀ q v, j * size ≤ q → (xs.flatMap cv)[q]? = some v → cur'[off + q]? = some v)
variable {w W W' : World} {b off sz j : Nat} {xs ks : List α}
theorem DInv.lt (h : DInv e size cv w b off sz xs ks j W) : b < W.heap.size := by
 obtain ⟨cur', h1, _⟩ := h.row
 exact (Array.getElem?_eq_some_iff.1 h1).1
theorem DInv.call (h : DInv e size cv w b off sz xs ks j W) {o : Obj} (hf : Frm (W.alloc o).heap.size (fun _ => False) (W.alloc o) W') : DInv e size cv w b off sz xs ks j W' := by
 have hs : (W.alloc o).heap.size = W.heap.size + 1 := by show (W.heap.push o).size = _; simp
 have hold : ∀ k, k < W.heap.size → W'.heap[k]? = W.heap[k]? := fun k hk => by
  rw [hf.block k (by omega) id]
  show (W.heap.push o)[k]? = _
  rw [Array.getElem?_push, if_neg (by omega)]
 have hsz := h.frm.size
 refine ⟨⟨hf.os.trans h.frm.os, hf.tape.trans h.frm.tape, hf.output.trans h.frm.output, rfl, by have := hf.size; omega, fun k hk hm => (hold k (by omega)).trans (h.frm.block k hk hm)⟩, ?_⟩
 obtain ⟨cur', h1, h2⟩ := h.row
 exact ⟨cur', (hold b h.lt).trans h1, h2⟩
theorem DInv.skip (h : DInv e size cv w b off sz xs ks j W) : DInv e size cv w b off sz xs ks (j + 1) W := by
 obtain ⟨cur', h1, h2, h3, h4⟩ := h.row
 exact ⟨h.frm, cur', h1, h2, h3, fun q v hq => h4 q v (by rw [Nat.add_mul] at hq; omega)⟩
theorem DInv.keep (h : DInv e size cv w b off sz xs ks j W) (hcv : ∀ x, (cv x).length = size) {c : Nat} (x : α) (hij : ks.length < j) (hj : j < c) (hfit : off + c * size ≤ sz) :
  DInv e size cv w b off sz xs (ks ++ [x]) (j + 1) (W.setCells b (off + ks.length * size) (cv x)) := by
 obtain ⟨cur', h1, h2, h3, h4⟩ := h.row
 have m1 : (ks.length + 1) * size ≤ j * size := Nat.mul_le_mul_right _ (by omega)
 have m2 : (j + 1) * size ≤ c * size := Nat.mul_le_mul_right _ (by omega)
 rw [Nat.add_mul] at m1 m2
 have hf := Qhh (b := b) (cv x) (off + ks.length * size) W
 have hsz := h.frm.size
 refine ⟨⟨hf.os.trans h.frm.os, hf.tape.trans h.frm.tape, hf.output.trans h.frm.output, rfl, by have := hf.size; omega, fun k hk hm => (hf.block k (by omega) hm).trans (h.frm.block k hk hm)⟩, ?_⟩
 refine ⟨_, Qhi _ _ _ _ h1, by rw [Qiq, h2], fun q v hq => ?_, fun q v hq hv => ?_⟩
 ·have hkl := Qnb hcv ks
  rw [Qgw _ _ _ _ (by rw [hcv, h2]; omega), hcv]
  rw [List.flatMap_append, List.flatMap_cons, List.flatMap_nil, List.append_nil] at hq
  by_cases hlt : q < ks.length * size
  ·rw [if_neg (by omega)]
   rw [List.getElem?_append_left (by omega)] at hq
   exact h3 q v hq
  ·rw [List.getElem?_append_right (by omega), hkl] at hq
   have := (List.getElem?_eq_some_iff.1 hq).1
   rw [hcv] at this
   rw [if_pos (by omega), show off + q - (off + ks.length * size) = q - ks.length * size by omega]; exact hq
 ·rw [Nat.add_mul] at hq
  rw [Qgw _ _ _ _ (by rw [hcv, h2]; omega), hcv, if_neg (by omega)]
  exact h4 q v (by omega) hv
theorem DInv.read (h : DInv e size cv w b off sz xs ks j W) (hcv : ∀ x, (cv x).length = size) {x : α} (hx : xs[j]? = some x) {t : Nat} {v : Value} (ht : (cv x)[t]? = some v) : W.cell? ⟨b, off + j * size + t, none⟩ = some v := by
 obtain ⟨cur', h1, h2, h3, h4⟩ := h.row
 rw [cell_of_row W b _ cur' e (0, 0) h1, Nat.add_assoc]
 exact h4 _ v (by omega) (Qpl hcv hx ht)
def Qjk (q : α → Bool) (xs : List α) (i0 d : Nat) : List α := xs.take i0 ++ ((xs.drop (i0 + 1)).take d).filter fun x => !q x
theorem Qqe {q : α → Bool} {i0 d : Nat} {x : α} (hx : xs[i0 + 1 + d]? = some x) : Qjk q xs i0 (d + 1) = bif q x then Qjk q xs i0 d else Qjk q xs i0 d ++ [x] := by
 unfold Qjk
 rw [List.take_add_one, List.getElem?_drop, hx, List.filter_append, ← List.append_assoc]
 cases hq : q x <;> simp [hq]
theorem Qqq {q : α → Bool} {i0 d : Nat} : (Qjk q xs i0 d).length ≤ i0 + d := by
 unfold Qjk
 rw [List.length_append, List.length_take]
 have := List.length_filter_le (fun x => !q x) ((xs.drop (i0 + 1)).take d)
 rw [List.length_take] at this
 omega
end
theorem Qrp {w : World} {S : Nat → Prop} {c : CK} {own : Bool} {x : c.T} {v : Value} {rows : List Row} (hc : c = .bool ∨ ∃ k, c = .int k) (h : Qaz w S [(c, own)] x [[v]] rows) : RdT w S c x [v] := by
 obtain ⟨vs, h1, h2⟩ := h
 simp only [List.cons.injEq, and_true] at h1
 subst h1
 unfold Qcz at h2
 cases own with
 | false => exact h2.1
 | true => rcases hc with rfl | ⟨k, rfl⟩ <;> exact h2.1
end
section
open Go.ChangeShapes
theorem Qmi {H : Type} {enc : TypeId × Value → H} {P : Program} {w : World} {base : Nat} {sp : Nat → Bool} {held : Bool} {fuel : Nat} {t : TypeId} {k : IntKind} {c : Value} {y : DataW H × List MemPlace}
  (ht : P.underlying t = some (.int k)) (h : DataW.trod enc P w base sp held fuel t [c] = some y) : ∃ n, c = .int k n ∧ y = (.lit (.int k n), []) := by
 cases fuel with
 | zero => simp [DataW.trod] at h
 | succ fuel =>
  cases c <;> simp [DataW.trod, ht] at h
  rename_i k' n
  obtain ⟨⟨rfl, _⟩, rfl⟩ := h
  exact ⟨n, rfl, rfl⟩
theorem Qng {α β : Type} {f : α → Option β} : ∀ {l : List α} {ys : List β}, l.mapM f = some ys → All2 (fun a y => f a = some y) l ys
 | [], ys, h => by simp at h; subst h; trivial
 | a :: l, ys, h => by
  simp only [List.mapM_cons, Option.bind_eq_bind, Option.bind_eq_some_iff, Option.pure_def, Zj] at h
  obtain ⟨y, h1, ys', h2, rfl⟩ := h
  exact ⟨h1, Qng h2⟩
theorem Qld {H : Type} {enc : TypeId × Value → H} {P : Program} {w : World} {base : Nat} {sp : Nat → Bool} {held : Bool} {fuel : Nat} {t e : TypeId} {n : Nat} {k : IntKind} {cs : List Value} {xs : List Int} {q : List MemPlace}
  (ht : P.underlying t = some (.array n e)) (he : P.underlying e = some (.int k)) (hc : P.cellsOf e = 1) (hct : P.cellsOf t = n)
  (h : DataW.trod enc P w base sp held fuel t cs = some (.agg (xs.map fun x => .lit (.int k x)), q)) : cs = xs.map (Value.int k) := by
 cases fuel with
 | zero => simp [DataW.trod] at h
 | succ fuel =>
  simp only [DataW.trod, ht, hc, hct, Nat.mul_one] at h
  split at h
  ·rename_i hl
   obtain ⟨ys, h1, h2⟩ := Option.map_eq_some_iff.1 h
   simp only [Prod.mk.injEq, DataW.agg.injEq] at h2
   have ha := Qng h1
   have hyl := ha.length
   simp only [List.length_range] at hyl
   have hxl : xs.length = ys.length := by have := congrArg List.length h2.1; simpa using this.symm
   apply List.ext_getElem?
   intro i
   by_cases hi : i < n
   ·obtain ⟨y, hy, hf⟩ := ha.get (List.getElem?_range hi)
    have hci : (cs.drop i).take 1 = [cs[i]'(by omega)] := by
     rw [List.drop_eq_getElem_cons (by omega)]; rfl
    rw [hci] at hf
    obtain ⟨m, hm, hy2⟩ := Qmi he hf
    have h3 := congrArg (fun l : List (DataW H) => l[i]?) h2.1
    simp only [List.getElem?_map, hy, Option.map_some, hy2] at h3
    rw [Zg (show i < xs.length by omega)] at h3
    simp only [Option.map_some, Zj, DataW.lit.injEq, Lit.int.injEq, true_and] at h3
    rw [Zg (show i < cs.length by omega), List.getElem?_map, Zg (show i < xs.length by omega), hm, h3]; rfl
   ·rw [List.getElem?_eq_none (by omega), List.getElem?_eq_none (by simp; omega)]
  ·cases h
def Qcf : Array Value := (Qlr.map (Value.int .u32)).toArray
theorem Qpi {P : Program} {W : World} {n : String} {g : Nat} {t e : TypeId} {d : DataW Unit} (hg : P.globalNamed n = some g) (ht : (P.globals[g]?).map (·.type) = some t)
  (hu : P.underlying t = some (.array 64 e)) (he : P.underlying e = some (.int .u32)) (hc : P.cellsOf e = 1) (hct : P.cellsOf t = 64) (hd : d = .agg (Qlr.map fun x => .lit (.int .u32 x)))
  (h : laidMet P [(n, d)] W) : W.var? P n = some Qcf := by
 obtain ⟨ps, ⟨g', t', cs, fuel, p, q, hg', ht', hvar, hr, _, _⟩, _⟩ := h
 obtain rfl := Option.some.inj (hg.symm.trans hg')
 obtain rfl := Option.some.inj (ht.symm.trans ht')
 rw [hvar]
 subst hd
 have := Qld hu he hc hct hr
 congr 1
 unfold Qcf
 rw [← this]
theorem Qqr {P : Program} {W : World} {n : String} {g : Nat} {t : TypeId} {d : DataW Unit} (hg : P.globalNamed n = some g) (ht : (P.globals[g]?).map (·.type) = some t)
  (hh : W.heap[g]? = some (.cells Qcf t (0, 0))) (hr : DataW.trod (fun _ => ()) P W 0 (fun _ => true) false 8 t Qcf.toList = some (d, [])) : laidMet P [(n, d)] W := by
 have hv : W.var? P n = some Qcf := by simp [World.var?, hg, hh]
 refine ⟨_, ⟨g, t, Qcf, 8, [], [], hg, ht, hv, hr, rfl, rfl⟩, ?_, fun b off hm => ?_⟩
 ·rw [List.append_nil, List.append_nil]
  unfold MemPlace.row
  refine List.Pairwise.map _ (fun a b (hab : a ≠ b) => ?_) List.nodup_range
  intro e
  simp only [MemPlace.cell.injEq] at e
  omega
 ·rw [List.append_nil, List.append_nil] at hm
  obtain ⟨i, _, e⟩ := List.mem_map.1 hm
  simp only [MemPlace.cell.injEq] at e
  obtain ⟨rfl, _⟩ := e
  refine ⟨⟨_, _, hh⟩, fun u v hc => ?_⟩
  simp only [World.cell?, hh] at hc
  have hc' : Qcf[off]? = some (Value.iface u v) := by simpa using hc
  unfold Qcf at hc'
  rw [List.getElem?_toArray, List.getElem?_map] at hc'
  obtain ⟨x, _, hx⟩ := Option.map_eq_some_iff.1 hc'
  cases hx
theorem Qqd {P : Program} {W : World} {n : String} {g : Nat} (hg : P.globalNamed n = some g) (hv : W.var? P n = some Qcf) (hone : (List.range P.globals.size).all (fun i => !tabOf P i || i == g) = true) : Qes P W (fun b => b < W.heap.size) := by
 intro i hi
 have hlt : i < P.globals.size := by
  rcases Nat.lt_or_ge i P.globals.size with h1 | h1
  ·exact h1
  ·unfold tabOf at hi; rw [Array.getElem?_eq_none h1] at hi; cases hi
 have := List.all_eq_true.1 hone i (List.mem_range.2 hlt)
 rw [hi] at this
 have hig : i = g := by simpa using this
 subst hig
 have hw := hv
 simp only [World.var?, hg, Zo] at hw
 refine ⟨?_, fun j x hx => ?_⟩
 ·split at hw
  ·rename_i h; exact (Array.getElem?_eq_some_iff.1 h).1
  ·cases hw
 ·rw [World.var?_cell hg hv]
  unfold Qcf
  simp [hx]
theorem Qre {P : Program} {W W' : World} {n : String} {g : Nat} (hg : P.globalNamed n = some g) (hv : W.var? P n = some Qcf) (hb : RowKit.Below W.heap.size W W') : W'.var? P n = some Qcf := by
 simp only [World.var?, hg, Zo] at hv ⊢
 have hlt : g < W.heap.size := by
  split at hv
  ·rename_i h; exact (Array.getElem?_eq_some_iff.1 h).1
  ·cases hv
 rw [hb.block g hlt]; exact hv
end
end Go.Proofs.YtbkcbfkehncocaaGreatDoor.Rx
