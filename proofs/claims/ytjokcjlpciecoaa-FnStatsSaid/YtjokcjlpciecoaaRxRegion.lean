/- A part of the evaluator and its soundness: Region. No condition beside those that each theorem states. -/
import Derived.Test.YtjokcjlpciecoaaRxDraw2
set_option linter.unusedSimpArgs false
set_option linter.unusedVariables false
namespace Go.Proofs.Ytjokcjlpciecoaa.Rx

section
variable {E : Env} {base : Nat} {Mod : Nat → Prop} {w0 : Org} {m : Emb} {st : St} {a : Act} {w : World} {rid i : Nat} {ops : Array Oper} {R : Type} {r : R} {K : St → Option R} {Q : Exit → Act → World → Prop}

theorem Rel.putUndef (h : Rel E.F base Mod w0 m st a w) (dst : Option Nat) (hp : ∀ d, dst = some d → E.pin d = false) : Rel E.F base Mod w0 m (st.put? dst (.one .undef)) (a.put dst undef) w := by
  by_cases hd : ∀ d, dst = some d → d < E.N
  · exact h.put (fun d he => ⟨hd d he, hp d he⟩) rfl
  · cases dst with
    | none => exact h
    | some d =>
      have hge : E.N ≤ d := by
        rcases Nat.lt_or_ge d E.N with hlt | hge
        · exact absurd (fun d' he => by cases he; exact hlt) hd
        · exact hge
      have e : a.put (some d) undef = a := by
        unfold Act.put
        simp only
        rw [Array.setIfInBounds_eq_of_size_le (by rw [h.size]; exact hge)]
      rw [e]
      exact h.tell (by
        rw [Array.getD_eq_getD_getElem?, Array.getElem?_eq_none (by rw [h.size]; exact hge)]
        rfl)

theorem yielded_eq (h : Rel E.F base Mod w0 m st a w) {g t : Nat} {p : Bool} (ht : (ops[g]?).bind (·.dst) = some t) (hp : st.slot t = .one (.bool p)) : yielded ops a.tmps g = some p := by
  have := h.slot t
  rw [hp] at this
  have hv : a.tmps.getD t undef = .bool p := this
  unfold yielded
  rw [ht]
  simp only [Option.bind_some]
  rw [Array.getD_eq_getD_getElem?] at hv
  cases hx : a.tmps[t]? with
  | none => rw [hx] at hv; simp [undef] at hv
  | some v => rw [hx] at hv; simp only [Option.getD_some] at hv; subst hv; rfl

theorem wpOp_sound (hE : EnvOk E) (hP : ∀ (i : Nat) (o : Oper), ops[i]? = some o → ∀ d, o.dst = some d → E.pin d = false) (h : Rel E.F base Mod w0 m st a w) (hK : stepOp E ops rid i st K = some r) {next : Act → World → Prop}
    (hn : ∀ m' st' a' w', Rel E.F base Mod w0 m' st' a' w' → K st' = some r → next a' w') : wpOp E.P ops Q i next a w := by
  unfold stepOp at hK
  unfold wpOp
  cases ho : ops[i]? with
  | none => simp only [ho] at hK; exact hn _ _ _ _ h hK
  | some o =>
    simp only [ho] at hK ⊢
    split at hK
    · cases hK
    rename_i hu
    have hu : st.used (keyOf rid i) = false := by simpa using hu
    cases hg : o.guard with
    | none =>
      simp only [hg] at hK
      rw [if_pos (by simp [Region.wanted, hg])]
      exact .inl (exec_sound hE (hP i o ho) (by unfold keyOf; omega) h hu hK hn)
    | some gw =>
      obtain ⟨g, want⟩ := gw
      simp only [hg] at hK
      cases ht : (ops[g]?).bind (·.dst) with
      | none => simp [ht] at hK
      | some t =>
        simp only [ht] at hK
        by_cases hun : isUndef (st.slot t) = true
        · rw [if_pos hun] at hK
          have hv := h.slot t
          have hy : yielded ops a.tmps g = none := by
            unfold isUndef at hun
            split at hun
            · rename_i he
              rw [he] at hv
              have hv : a.tmps.getD t undef = undef := hv
              unfold yielded
              rw [ht]
              simp only [Option.bind_some]
              rw [Array.getD_eq_getD_getElem?] at hv
              cases hx : a.tmps[t]? with
              | none => rfl
              | some v => rw [hx] at hv; simp only [Option.getD_some] at hv; subst hv; rfl
            · cases hun
          rw [if_neg (by simp [Region.wanted, hg, hy])]
          exact hn _ _ _ _ ((h.use (keyOf rid i)).putUndef _ (hP i o ho)) hK
        rw [if_neg hun] at hK
        obtain ⟨p, hp, hK⟩ := boolOf_spec hK
        have hy := yielded_eq h ht hp
        by_cases hw : p = want
        · rw [if_pos hw] at hK
          rw [if_pos (by simp [Region.wanted, hg, hy, hw])]
          exact .inl (exec_sound hE (hP i o ho) (by unfold keyOf; omega) h hu hK hn)
        · rw [if_neg hw] at hK
          rw [if_neg (by simp [Region.wanted, hg, hy, hw])]
          exact hn _ _ _ _ ((h.use (keyOf rid i)).putUndef _ (hP i o ho)) hK

theorem runOps_sound (hE : EnvOk E) (hP : ∀ (i : Nat) (o : Oper), ops[i]? = some o → ∀ d, o.dst = some d → E.pin d = false) (hn : ∀ m' st' a' w', Rel E.F base Mod w0 m' st' a' w' → K st' = some r → Q .normal a' w') :
    ∀ (l : List Nat) (m : Emb) (st : St) (a : Act) (w : World), Rel E.F base Mod w0 m st a w → runOps E ops rid l st K = some r → wpOps E.P ops Q l a w
  | [], m, st, a, w, h, hK => hn _ _ _ _ h hK
  | i :: l, m, st, a, w, h, hK => by
    rw [wpOps_cons]
    exact wpOp_sound hE hP h hK fun m' st' a' w' h' hK' => runOps_sound hE hP hn l m' st' a' w' h' hK'

/-- the operations that are still to go, in text order -/
def left (n : Nat) (listed : Array Bool) : List Nat := (List.range n).filter fun i => !listed.getD i true

theorem left_set {n i : Nat} {listed : Array Bool} (hs : listed.size = n) : left n (listed.setIfInBounds i true) = (left n listed).filter fun j => decide (j ≠ i) := by
  unfold left
  rw [List.filter_filter]
  apply List.filter_congr
  intro j hj
  have hj : j < n := List.mem_range.1 hj
  by_cases e : i = j
  · subst e
    simp [Array.getElem?_setIfInBounds, hs, hj]
  · have e' : j ≠ i := Ne.symm e
    simp [Array.getElem?_setIfInBounds_ne e, e']

theorem left_split {n i : Nat} {listed : Array Bool} (hi : i ∈ left n listed) : ∃ L1 L2, left n listed = L1 ++ i :: L2 ∧ (∀ j ∈ L1, j < i) ∧ (left n listed).filter (fun j => decide (j ≠ i)) = L1 ++ L2 := by
  obtain ⟨L1, L2, hl⟩ := List.append_of_mem hi
  have hp : (left n listed).Pairwise (· < ·) := List.Pairwise.filter _ List.pairwise_lt_range
  rw [hl, List.pairwise_append] at hp
  obtain ⟨h1, h2, h3⟩ := hp
  refine ⟨L1, L2, hl, fun j hj => h3 j hj i (by simp), ?_⟩
  rw [hl, List.filter_append, List.filter_cons]
  simp only [ne_eq, not_true_eq_false, decide_false, Bool.false_eq_true, if_false]
  rw [List.filter_eq_self.2 (fun j hj => by have := h3 j hj i (by simp); simp; omega), List.filter_eq_self.2 (fun j hj => by have := (List.pairwise_cons.1 h2).1 j hj; simp; omega)]

/-- who is listed has his edges' ends listed -/
def Closed (ops : Array Oper) (listed : Array Bool) : Prop :=
  ∀ k o, ops[k]? = some o → listed.getD k false = true → ∀ e ∈ o.after, Region.binds .any e = true → listed.getD e.on false = true

theorem before_listed (hq : quietPairs E ops = true) {listed : Array Bool} (hc : Closed ops listed) : ∀ (k : Nat) (o : Oper), ops[k]? = some o → (∀ e ∈ o.after, Region.binds .any e = true → listed.getD e.on false = true) →
    ∀ i, i < k → ((Region.before ops).getD k 0).testBit i = true → listed.getD i false = true := by
  intro k
  induction k using Nat.strongRecOn with
  | _ k ih =>
    intro o ho hd i hik hb
    have hk : k < ops.size := (Array.getElem?_eq_some_iff.1 ho).1
    unfold quietPairs at hq
    simp only [List.all_eq_true, List.mem_range, Bool.and_eq_true] at hq
    obtain ⟨h1, h2⟩ := hq k hk
    have h3 := h2 i hik
    have hod : ops.getD k default = o := by simp [Array.getD_eq_getD_getElem?, ho]
    rw [hod] at h1 h3
    simp only [Bool.or_eq_true, Bool.and_eq_true, Bool.not_eq_true', hb] at h3
    rcases h3 with ⟨_, h3⟩ | h3
    · rw [← Array.any_toList] at h3
      obtain ⟨e, he, hb'⟩ := List.any_eq_true.1 h3
      have he : e ∈ o.after := by simpa using he
      simp only [Bool.and_eq_true, Bool.or_eq_true, beq_iff_eq, decide_eq_true_eq] at hb'
      obtain ⟨hbi, hb'⟩ := hb'
      have hl := hd e he hbi
      rcases hb' with hb' | ⟨hlt, hb'⟩
      · rw [← hb']; exact hl
      · have hek : e.on < k := by
          have := Array.all_eq_true_iff_forall_mem.1 h1 e he
          simpa [hbi] using this
        have hes : e.on < ops.size := by omega
        have hoe : ops[e.on]? = some (ops[e.on]'hes) := Array.getElem?_eq_getElem hes
        exact ih e.on hek _ hoe (hc _ _ hoe hl) i hlt hb'
    · simp at h3

/-- what a call shared of a row that is given up, is shared no more -/
theorem Rel.unice (h : Rel E.F base Mod w0 m st a w) {id : Id} (hu : st.used id.1 = true) :
    Rel E.F base Mod w0 m { st with dead := fun n => if n = id then true else st.dead n, ice := fun n => if n = id then false else st.ice n } a w := by
  have h1 := h.kill hu
  have hl : Later m (st.kill id) w m { st with dead := fun n => if n = id then true else st.dead n, ice := fun n => if n = id then false else st.ice n } w :=
    ⟨fun _ h => h, fun _ _ => rfl, fun _ h => h, fun _ _ h => ⟨h, rfl, rfl, fun _ _ => rfl⟩, fun _ h => ⟨h, rfl⟩⟩
  refine ⟨h1.defers, h1.size, fun t => RelAV.later hl (h1.slot t), ⟨fun k T l hk => ?_, h1.mem.boxS, h1.mem.boxI, h1.mem.boxU, h1.mem.row, h1.mem.rowI, fun id' b h2 h3 => ?_, h1.mem.rowU, h1.mem.S, fun id' hi => ?_, h1.mem.deadU⟩, h1.frm, h1.fix, h1.glob⟩
  · obtain ⟨arr, h2, h3⟩ := h1.mem.box k T l hk
    exact ⟨arr, h2, RelAC.laters hl h3⟩
  · have := h1.mem.rowS id' b h2 h3
    rw [this]
    simp only at h3 ⊢
    split at h3
    · cases h3
    · rename_i e; rw [if_neg e]; exact Iff.rfl
  · simp only at hi
    split at hi
    · cases hi
    · exact h.mem.iceU id' hi

theorem Rel.thawed (h : Rel E.F base Mod w0 m st a w) {st0 : St} {ops : Array Oper} {rid i : Nat} : Rel E.F base Mod w0 m (match ops[i]? with | some o => thaw E ops rid i o st0 st | none => st) a w := by
  cases ops[i]? with
  | none => exact h
  | some o =>
    simp only
    unfold thaw
    cases coldSrc E ops o with
    | none => exact h
    | some d =>
      simp only
      split
      · rename_i hc
        simp only [Bool.and_eq_true] at hc
        exact h.unice (h.mem.iceU _ hc.1.2)
      · exact h

theorem any_sound (hE : EnvOk E) (hP : ∀ (i : Nat) (o : Oper), ops[i]? = some o → ∀ d, o.dst = some d → E.pin d = false) (hq : quietPairs E ops = true) (hn : ∀ m' st' a' w', Rel E.F base Mod w0 m' st' a' w' → K st' = some r → Q .normal a' w') :
    ∀ (fuel : Nat) (listed : Array Bool) (m : Emb) (st : St) (a : Act) (w : World), listed.size = ops.size → Closed ops listed → (left ops.size listed).length ≤ fuel → Rel E.F base Mod w0 m st a w →
      runOpsD E ops rid (left ops.size listed) st K = some r → wpAny E.P .any ops Q fuel listed a w := by
  have hready : ∀ (listed : Array Bool) (i : Nat), i ∈ Region.ready .any ops listed → i ∈ left ops.size listed := fun listed i hi => by
    unfold Region.ready at hi
    obtain ⟨h1, h2⟩ := List.mem_filter.1 hi
    simp only [Bool.and_eq_true] at h2
    exact List.mem_filter.2 ⟨h1, h2.1⟩
  have hsome : ∀ (listed : Array Bool), listed.size = ops.size → Region.ready .any ops listed = [] → left ops.size listed = [] := fun listed hs hr => by
    cases hl : left ops.size listed with
    | nil => rfl
    | cons i L =>
      exfalso
      have hmem : i ∈ left ops.size listed := by rw [hl]; simp
      obtain ⟨h1, h2⟩ := List.mem_filter.1 hmem
      have hin : i < ops.size := List.mem_range.1 h1
      have hp : (left ops.size listed).Pairwise (· < ·) := List.Pairwise.filter _ List.pairwise_lt_range
      rw [hl] at hp
      have hmin := (List.pairwise_cons.1 hp).1
      have : i ∈ Region.ready .any ops listed := by
        refine mem_ready.2 ⟨by simpa using h2, _, Array.getElem?_eq_getElem hin, fun e he hb => ?_⟩
        unfold quietPairs at hq
        simp only [List.all_eq_true, List.mem_range, Bool.and_eq_true] at hq
        obtain ⟨h3, _⟩ := hq i hin
        have hod : ops.getD i default = ops[i] := by simp [Array.getD_eq_getD_getElem?, hin]
        rw [hod] at h3
        have := Array.all_eq_true_iff_forall_mem.1 h3 e he
        have hlt : e.on < i := by simpa [hb] using this
        have hes : e.on < listed.size := by omega
        have hnot : e.on ∉ left ops.size listed := fun hc => by
          rw [hl] at hc
          rcases List.mem_cons.1 hc with hc | hc
          · omega
          · have := hmin _ hc; omega
        have : listed.getD e.on true = true := by
          cases hv : listed.getD e.on true with
          | true => rfl
          | false => exact absurd (List.mem_filter.2 ⟨List.mem_range.2 (by omega), by simp [hv]⟩) hnot
        simpa [Array.getD_eq_getD_getElem?, hes] using this
      rw [hr] at this; simp at this
  intro fuel
  induction fuel with
  | zero =>
    intro listed m st a w hs hc hf h hK
    have hl : left ops.size listed = [] := List.length_eq_zero_iff.1 (by omega)
    rw [hl] at hK
    refine ⟨?_, hn _ _ _ _ h hK⟩
    cases hr : Region.ready .any ops listed with
    | nil => rfl
    | cons i L => have := hready listed i (by rw [hr]; simp); rw [hl] at this; simp at this
  | succ fuel ih =>
    intro listed m st a w hs hc hf h hK
    refine ⟨fun hr => ?_, fun i hi => ?_⟩
    · have hl := hsome listed hs hr
      rw [hl] at hK
      exact hn _ _ _ _ h hK
    · obtain ⟨L1, L2, hl, hlt, hfil⟩ := left_split (hready listed i hi)
      rw [hl] at hK
      obtain ⟨hun, oi, hoi, hdeps⟩ := mem_ready.1 hi
      have hin : i < ops.size := (Array.getElem?_eq_some_iff.1 hoi).1
      have hK2 := bubble hoi L1 L2 st (fun j hj => by
        have hji := hlt j hj
        refine ⟨by omega, ?_⟩
        have hjs : j < ops.size := by omega
        have hoj : ops[j]? = some (ops[j]'hjs) := Array.getElem?_eq_getElem hjs
        have hjl : listed.getD j true = false := by
          have : j ∈ left ops.size listed := by rw [hl]; simp [hj]
          simpa using (List.mem_filter.1 this).2
        have hnb : ((Region.before ops).getD i 0).testBit j = false := by
          cases hv : ((Region.before ops).getD i 0).testBit j with
          | false => rfl
          | true =>
            have := before_listed hq hc i oi hoi hdeps j hji hv
            have hjl' : j < listed.size := by omega
            simp [Array.getD_eq_getD_getElem?, hjl'] at this hjl
            rw [this] at hjl; cases hjl
        unfold quietPairs at hq
        simp only [List.all_eq_true, List.mem_range, Bool.and_eq_true] at hq
        have h3 := (hq i hin).2 j hji
        have hod : ops.getD i default = oi := by simp [Array.getD_eq_getD_getElem?, hoi]
        have hod' : ops.getD j default = ops[j] := by simp [Array.getD_eq_getD_getElem?, hjs]
        rw [hod, hod'] at h3
        simp only [hnb, Bool.false_and, Bool.false_or, Bool.not_false, Bool.true_and, Bool.and_eq_true, Bool.not_eq_true', Bool.or_eq_true] at h3
        exact ⟨_, hoj, h3.1.2, h3.2, by unfold ordered; rw [hnb, h3.1.1]; rfl⟩) hK
      simp only [runOpsD, stepD] at hK2
      split at hK2
      case isFalse => cases hK2
      split at hK2
      · cases hK2
      refine wpOp_sound hE hP h hK2 fun m' st' a' w' h' hK' => ih _ m' _ a' w' (by simpa using hs) ?_ ?_ (h'.thawed (st0 := st) (ops := ops) (rid := rid) (i := i)) (by rw [left_set hs, hfil]; exact hK')
      · intro k o ho hk e he hb
        refine getD_set_true ?_
        by_cases hki : i = k
        · subst hki
          rw [hoi] at ho
          simp only [Option.some.injEq] at ho; subst ho
          exact hdeps e he hb
        · rw [getD_set_ne false hki] at hk
          exact hc k o ho hk e he hb
      · rw [left_set hs, hfil]
        rw [hl] at hf
        simp only [List.length_append, List.length_cons] at hf ⊢
        omega

theorem left_none (n : Nat) : left n (Array.replicate n false) = List.range n := by
  unfold left
  refine List.filter_eq_self.2 fun i hi => ?_
  have : i < n := List.mem_range.1 hi
  simp [this]

/-- a region -/
theorem region_sound (hE : EnvOk E) (hm : E.P.follows .mixedOrders = true) (h : Rel E.F base Mod w0 m st a w) {draw : Bool}
    (hK : (if !pinsOk E ops then none else if draw then (if quietPairs E ops then runOpsD E ops rid (List.range ops.size) st K else none) else runOps E ops rid (List.range ops.size) st K) = some r) (hn : ∀ m' st' a' w', Rel E.F base Mod w0 m' st' a' w' → K st' = some r → Q .normal a' w') :
    (Code.region rid ops draw).wp E.P Q a w := by
  split at hK
  · cases hK
  rename_i hpins
  have hP : ∀ (i : Nat) (o : Oper), ops[i]? = some o → ∀ d, o.dst = some d → E.pin d = false := fun i o ho d hd => by
    simp only [Bool.not_eq_true', Bool.not_eq_false] at hpins
    have := Array.all_eq_true_iff_forall_mem.1 hpins o (Array.mem_of_getElem? ho)
    simpa [hd] using this
  cases draw with
  | false => exact wp_region (runOps_sound hE hP hn _ _ _ _ _ h hK)
  | true =>
    simp only [if_true] at hK
    split at hK
    case isFalse => cases hK
    rename_i hd
    refine wp_region_any hm (any_sound hE hP hd hn ops.size _ m st a _ (by simp) ?_ ?_ h.drew (by rw [left_none]; exact hK))
    · intro k o ho hk
      have : k < ops.size := (Array.getElem?_eq_some_iff.1 ho).1
      simp [this] at hk
    · rw [left_none]; simp
end
end Go.Proofs.Ytjokcjlpciecoaa.Rx
