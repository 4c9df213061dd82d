/- A part of the evaluator and its soundness: MkFn. No condition beside those that each theorem states. -/
import Derived.Test.YtjokcjlpciecoaaRxFn
set_option linter.unusedSimpArgs false
set_option linter.unusedVariables false
namespace Go.Proofs.Ytjokcjlpciecoaa.Rx

def runMk (E : Env) (fn : Func) (mk : Mk) (ann : Ann) (x : mk.f.sig.inK.T) : Option mk.f.sig.outK.T :=
  match fn.body with
  | some c => interp E (retM fn mk) ann c { nor := fun st => retM fn mk st, ex := fun _ _ => none, ret := some } (lay (paramItems mk.f.sig.params 0) (splitCells mk.f.sig.ins x (0, 0)) .blank)
  | none => none

theorem vals_ro : ∀ {ps : List PK} {vs : List Value}, ps.all PK.isVal = true → roBlks ps vs = []
  | [], vs, _ => by cases vs <;> rfl
  | p :: ps, vs, h => by
    simp only [List.all_cons, Bool.and_eq_true] at h
    cases p with
    | box => simp [PK.isVal] at h
    | lent => simp [PK.isVal] at h
    | give => simp [PK.isVal] at h
    | clo => simp [PK.isVal] at h
    | val agg c => cases vs with
      | nil => rfl
      | cons v vs => simpa [roBlks] using vals_ro (vs := vs) h.2

/-- a maker whose body the interpreter reads keeps its contract -/
theorem mkOk_of {E : Env} (hE : EnvOk E) (hmix : E.P.follows .mixedOrders = true) {g : FuncId} {mk : Mk} {fn : Func} {ann : Ann} (hfn : E.P.funcs[g]? = some fn)
    (hname : (fn.name == "runtime.NumGoroutine") = false) (hsome : fn.body.isSome = true) (hN : fn.ntmps = E.N) (hps : mk.f.sig.params.length ≤ E.N) (hps2 : mk.f.sig.params.length < 999)
    (hrun : ∀ x, runMk E fn mk ann x = mk.f.sem E.k x) : MkOk E.P E.k g mk := by
  obtain ⟨cd, hbody⟩ := Option.isSome_iff_exists.1 hsome
  refine ⟨⟨fn, cd, hfn, hname, hbody⟩, ?_⟩
  intro hval hout w S vs vss x r hsem hargs hparts hS hgl
  have hx := hrun x
  rw [hsem] at hx
  unfold runMk at hx
  simp only [hbody] at hx
  obtain ⟨hl1, hl2⟩ := hargs.length
  obtain ⟨nob, nor⟩ := vals_no (vs := vs) hval
  have noro := vals_ro (vs := vs) hval
  refine calls_of_wp hfn hbody ?_
  let bl : Nat → Nat := fun k => match (vs[k - 1]?).map blkOf with | some [b] => b | _ => 0
  have hbl : ∀ i v b, vs[i]? = some v → blkOf v = [b] → bl (0 + i + 1) = b := fun i v b hi hv => by
    show (match (vs[0 + i + 1 - 1]?).map blkOf with | some [b] => b | _ => 0) = b
    rw [show 0 + i + 1 - 1 = i by omega, hi]
    simp [hv]
  let pin : Nat → Option Value := fun _ => none
  let a0 : Act := { tmps := vs.toArray ++ Array.replicate (fn.ntmps - vs.toArray.size) undef, defers := [] }
  have ha0 : ∀ i v, vs[i]? = some v → a0.tmps.getD (0 + i) undef = v := fun i v hi => by
    have hlt : i < vs.length := (List.getElem?_eq_some_iff.1 hi).1
    have : a0.tmps[0 + i]? = some v := by
      show (vs.toArray ++ Array.replicate (fn.ntmps - vs.toArray.size) undef)[0 + i]? = some v
      rw [Nat.zero_add, Array.getElem?_append_left (by simpa using hlt)]
      simpa using hi
    rw [Array.getD_eq_getD_getElem?, this]; rfl
  obtain ⟨p1, p2, p3, p4⟩ := paramItems_at (a := a0) (bl := bl) (n := 0) hargs ha0 hbl
  rw [nob] at p2
  have hnobox : ∀ k, k ∉ Item.boxes (paramItems mk.f.sig.params 0) := fun k hk => by
    have : bl k ∈ (Item.boxes (paramItems mk.f.sig.params 0)).map bl := List.mem_map.2 ⟨k, hk, rfl⟩
    rw [p2] at this; simp at this
  let m0 : Emb := ({ bl := bl, row := fun _ => none, val := fun _ => undef, S := S } : Emb).withRows 0 []
  have hab := parts_abs (m := m0) (st := lay (paramItems mk.f.sig.params 0) (splitCells mk.f.sig.ins x (0, 0)) .blank) (w := w) (key := 0) ((lay_used _ _ .blank 0).1 rfl) 0 hparts
    (fun j p hj => by simp at hj)
  have hrel : Rel E.F w.heap.size (fun _ => False) ⟨w, bl, S, pin⟩ m0 (lay (paramItems mk.f.sig.params 0) (splitCells mk.f.sig.ins x (0, 0)) .blank) a0 w := by
    refine lay_rel (rows := []) rfl rfl hab p1 hS (by simp [Blks]) (fun b hb => by simp [Blks] at hb) (fun k hk => absurd hk (hnobox k)) (fun k k' hk => absurd hk (hnobox k)) (fun k hk => absurd hk (hnobox k)) (fun b hb => by rw [← paramItems_ptrs]; exact hb) ⟨rfl, fun t v ht => by cases ht⟩ ?_ ⟨rfl, rfl, rfl, rfl, Nat.le_refl _, fun _ _ _ => rfl⟩ ⟨fun _ _ => rfl, fun _ h => h, fun _ h => .inl h⟩ ⟨hgl, fun g hg => ⟨hS _ (hgl g hg).1, fun hm => hm⟩⟩
    show (vs.toArray ++ Array.replicate (fn.ntmps - vs.toArray.size) undef).size = E.N
    simp only [Array.size_append, List.size_toArray, Array.size_replicate]
    omega
  have hend : ∀ m' st' a' w', Rel E.F w.heap.size (fun _ => False) ⟨w, bl, S, pin⟩ m' st' a' w' → retM fn mk st' = some r →
      a'.defers = [] ∧ ∃ v, (results fn a'.tmps).run E.P w' = .ok v w' ∧ ∃ b arr S', Ending.returned v = .returned (.pointer (some ⟨b, 0, none⟩)) ∧ Frm w.heap.size (fun _ => False) w w' ∧
      (∀ b, S b → S' b) ∧ (∀ b, S' b → S b ∨ w.heap.size ≤ b) ∧ (∀ b, S' b → b < w'.heap.size) ∧ w.heap.size ≤ b ∧ ¬ S' b ∧
      w'.heap[b]? = some (.cells arr mk.t (0, 0)) ∧ PartsRd w' S' mk.f.sig.outs r [arr.toList] [] := by
    intro m' st' a' w' h' hret
    unfold retM at hret
    split at hret
    case h_2 => cases hret
    rename_i t hrs
    split at hret
    case h_2 => cases hret
    rename_i b hslot
    split at hret
    case h_2 => cases hret
    rename_i t' l hbox
    have hc : (decide (t' = mk.t) && (!st'.lock b && partsOk st' mk.f.sig.outs [l])) = true := by
      cases hb : (decide (t' = mk.t) && (!st'.lock b && partsOk st' mk.f.sig.outs [l])) with
      | true => rfl
      | false => rw [hb] at hret; cases hret
    rw [hc] at hret
    simp only [cond_true] at hret
    simp only [Bool.and_eq_true, decide_eq_true_eq, Bool.not_eq_true'] at hc
    obtain ⟨rfl, hlock, hok⟩ := hc
    have hv := h'.slot t
    rw [hslot] at hv
    obtain ⟨_, hv⟩ := hv
    obtain ⟨arr, hh, hr⟩ := h'.mem.box b _ l hbox
    obtain ⟨rows', b1, b2, b3, b4, b5, b6, b7, b8⟩ := handed h'.mem hok hret (show All2 (All2 (RelAC m' st' w')) [l] [arr.toList] from ⟨hr, trivial⟩)
    obtain rfl := noRows hout b1
    have hisb : (st'.box b).isSome = true := by rw [hbox]; rfl
    have hnb := (h'.mem.boxS b hisb).2 hlock
    refine ⟨h'.defers.1, a'.tmps.getD t undef, ?_, m'.bl b, arr, m'.lent (roIds mk.f.sig.outs [l]), by rw [hv], h'.frm, fun b hb => .inl (h'.fix.2.1 b hb), fun b hb => ?_, b4, ?_, b6 b hisb, hh, b1⟩
    · have := run_results (P := E.P) (w := w') (fn := fn) (tmps := a'.tmps) (us := [a'.tmps.getD t undef]) (by
        rw [hrs]
        simp only [List.mapM_cons, List.mapM_nil, Sem.run_bind, resOne, Sem.run_pure, Result.andThen_ok])
      simpa using this
    · rcases hb with hb | ⟨id, hi, hb⟩
      · exact (h'.fix.2.2 b hb).imp id fun h => h.resolve_right (fun h => h)
      · have := (h'.mem.row id b hb (b7 id hi).1).2.1
        exact .inr (this.resolve_right fun h => h)
    · exact hnb.resolve_right fun h => h
  refine interp_sound hE hmix ann cd _ _ r m0 a0 w _ hx hrel ?_ ?_ ?_
  · intro m' st' a' w' h' hK'
    exact hend m' st' a' w' h' hK'
  · intro id m' st' a' w' h' hK'; cases hK'
  · intro o m' st' a' w' h' ho hK'
    simp only [Option.some.injEq] at hK'; subst hK'
    exact hend m' st' a' w' h' ho
/-- the makers that a function leans on -/
def lookM : List (FuncId × Mk) → FuncId → Option Mk
  | [], _ => none
  | (g, f) :: l, h => bif Nat.beq h g then some f else lookM l h

theorem lookM_nil {P : Program} {k : Nat} : ∀ g f, lookM [] g = some f → MkOk P k g f := fun _ _ h => by cases h

theorem lookM_cons {P : Program} {k : Nat} {g : FuncId} {f : Mk} {l : List (FuncId × Mk)} (hf : MkOk P k g f) (hl : ∀ g f, lookM l g = some f → MkOk P k g f) : ∀ g' f', lookM ((g, f) :: l) g' = some f' → MkOk P k g' f' := by
  intro g' f' h
  unfold lookM at h
  cases hb : Nat.beq g' g with
  | true =>
    rw [hb] at h
    simp only [cond_true, Option.some.injEq] at h
    subst h
    rw [Nat.eq_of_beq_eq_true hb]
    exact hf
  | false =>
    rw [hb] at h
    exact hl g' f' h

/-- a function's surroundings that call no maker -/
abbrev envQ (P : Program) (N : Nat) (kinds : TypeId → Option CK) (l : List (FuncId × Fn)) (k : Nat) (s : Sig) : Env := ⟨P, N, kinds, look l, k, s.pin, lookM []⟩
def okQ (fn : Func) (N : Nat) (s : Sig) : Bool := !(fn.name == "runtime.NumGoroutine") && fn.body.isSome && decide (fn.ntmps = N) && decide (s.params.length ≤ N) && decide (s.params.length < 999)
theorem fnOk_q {P : Program} {k : Nat} {g : FuncId} {f : Fn} {l : List (FuncId × Fn)} (N : Nat) (kinds : TypeId → Option CK) (ann : Ann) {fn : Func} (hfn : P.funcs[g]? = some fn) (hl : ∀ g f, look l g = some f → FnOk P k g f)
    (hmix : P.follows .mixedOrders = true) (hq : okQ fn N f.sig = true) (hrun : ∀ x, runFn (envQ P N kinds l k f.sig) fn f.sig ann x = f.sem k x) : FnOk P k g f := by
  unfold okQ at hq
  simp only [Bool.and_eq_true, Bool.not_eq_true', decide_eq_true_eq] at hq
  obtain ⟨⟨⟨⟨h1, h2⟩, h3⟩, h4⟩, h5⟩ := hq
  exact fnOk_of (E := envQ P N kinds l k f.sig) (ann := ann) ⟨hl, lookM_nil⟩ hmix hfn h1 h2 h3 h4 h5 (fun _ h => h) hrun
def Ann.n (a : Ann) : Ann := .seq .leaf a
end Go.Proofs.Ytjokcjlpciecoaa.Rx
