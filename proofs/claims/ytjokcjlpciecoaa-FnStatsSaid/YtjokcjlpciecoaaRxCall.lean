/- A part of the evaluator and its soundness: Call. No condition beside those that each theorem states. -/
import Derived.Test.YtjokcjlpciecoaaRxData
set_option linter.unusedSimpArgs false
set_option linter.unusedVariables false
namespace Go.Proofs.Ytjokcjlpciecoaa.Rx

/-! what a call is given, and what it hands back, as values -/
def ArgsAt (w : World) : List PK → List Value → List (List Value) → Prop
  | [], [], [] => True
  | .val agg _ :: ps, v :: vs, l :: ls => (if agg then v = .agg l.toArray else l = [v]) ∧ ArgsAt w ps vs ls
  | .lent agg _ :: ps, v :: vs, l :: ls => (if agg then v = .agg l.toArray else l = [v]) ∧ ArgsAt w ps vs ls
  | .give agg _ :: ps, v :: vs, l :: ls => (if agg then v = .agg l.toArray else l = [v]) ∧ ArgsAt w ps vs ls
  | .clo f fst t _ :: ps, v :: vs, l :: ls => (∃ b, v = .func (.func f) (cond fst #[.pointer (some ⟨b, 0, none⟩)] #[]) (cond fst #[] #[.pointer (some ⟨b, 0, none⟩)]) ∧ w.heap[b]? = some (.cells l.toArray t (0, 0))) ∧ ArgsAt w ps vs ls
  | .box t _ _ _ :: ps, v :: vs, l :: ls => (∃ b, v = .pointer (some ⟨b, 0, none⟩) ∧ w.heap[b]? = some (.cells l.toArray t (0, 0))) ∧ ArgsAt w ps vs ls
  | _, _, _ => False

def blkOf : Value → List Nat
  | .pointer (some a) => [a.block]
  | .func _ first caps => match first.toList ++ caps.toList with | [.pointer (some a)] => [a.block] | _ => []
  | _ => []

def boxBlks : List PK → List Value → List Nat
  | .box _ _ _ _ :: ps, v :: vs => blkOf v ++ boxBlks ps vs
  | .val _ _ :: ps, _ :: vs => boxBlks ps vs
  | .lent _ _ :: ps, _ :: vs => boxBlks ps vs
  | .give _ _ :: ps, _ :: vs => boxBlks ps vs
  | .clo _ _ _ _ :: ps, v :: vs => blkOf v ++ boxBlks ps vs
  | _, _ => []

def rwBlks : List PK → List Value → List Nat
  | .box _ _ _ rw :: ps, v :: vs => (if rw then blkOf v else []) ++ rwBlks ps vs
  | .val _ _ :: ps, _ :: vs => rwBlks ps vs
  | .lent _ _ :: ps, _ :: vs => rwBlks ps vs
  | .give _ _ :: ps, _ :: vs => rwBlks ps vs
  | .clo _ _ _ _ :: ps, _ :: vs => rwBlks ps vs
  | _, _ => []

def roBlks : List PK → List Value → List Nat
  | .box _ _ _ rw :: ps, v :: vs => (if rw then [] else blkOf v) ++ roBlks ps vs
  | .clo _ _ _ _ :: ps, v :: vs => blkOf v ++ roBlks ps vs
  | .val _ _ :: ps, _ :: vs => roBlks ps vs
  | .lent _ _ :: ps, _ :: vs => roBlks ps vs
  | .give _ _ :: ps, _ :: vs => roBlks ps vs
  | _, _ => []

theorem rwBlks_box : ∀ {ps : List PK} {vs : List Value} {b : Nat}, b ∈ rwBlks ps vs → b ∈ boxBlks ps vs
  | .box _ _ _ rw :: ps, v :: vs, b, h => by
    simp only [rwBlks, boxBlks, List.mem_append] at h ⊢
    rcases h with h | h
    · cases rw with
      | true => exact .inl h
      | false => simp at h
    · exact .inr (rwBlks_box h)
  | .val _ _ :: ps, _ :: vs, b, h => rwBlks_box (ps := ps) h
  | .lent _ _ :: ps, _ :: vs, b, h => rwBlks_box (ps := ps) h
  | .give _ _ :: ps, _ :: vs, b, h => rwBlks_box (ps := ps) h
  | .clo _ _ _ _ :: ps, v :: vs, b, h => List.mem_append.2 (.inr (rwBlks_box (ps := ps) h))
  | [], [], _, h => by simp [rwBlks] at h
  | [], _ :: _, _, h => by simp [rwBlks] at h
  | _ :: _, [], _, h => by simp [rwBlks] at h

def OutsAt (w : World) : List PK → List Value → List (List Value) → Prop
  | [], [], ls => ls = []
  | .val _ _ :: ps, _ :: vs, ls => OutsAt w ps vs ls
  | .give _ _ :: ps, _ :: vs, ls => OutsAt w ps vs ls
  | .clo _ _ _ _ :: ps, _ :: vs, ls => OutsAt w ps vs ls
  | .lent agg _ :: ps, v :: vs, ls => ∃ l ls', ls = l :: ls' ∧ (if agg then v = .agg l.toArray else l = [v]) ∧ OutsAt w ps vs ls'
  | .box t _ _ rw :: ps, v :: vs, ls => if rw then ∃ l ls', ls = l :: ls' ∧ (∃ b, v = .pointer (some ⟨b, 0, none⟩) ∧ w.heap[b]? = some (.cells l.toArray t (0, 0))) ∧ OutsAt w ps vs ls' else OutsAt w ps vs ls
  | _, _, _ => False

def ResL : List RK → List Value → List (List Value) → Prop
  | [], [], [] => True
  | r :: rs, v :: vs, l :: ls => (if r.agg then v = .agg l.toArray else l = [v]) ∧ ResL rs vs ls
  | _, _, _ => False

def ResAt : List RK → Value → List (List Value) → Prop
  | [r], v, ls => ResL [r] [v] ls
  | rs, v, ls => ∃ us, v = .tuple us ∧ ResL rs us.toList ls

/-- the contract of a function -/
structure FnOk (P : Program) (k : Nat) (g : FuncId) (f : Fn) : Prop where
  there : ∃ fn c, P.funcs[g]? = some fn ∧ (fn.name == "runtime.NumGoroutine") = false ∧ fn.body = some c
  run : ∀ (w : World) (S : Nat → Prop) (vs : List Value) (vss : List (List Value)) (rows : List Row) (x : f.sig.inK.T) (r : f.sig.outK.T),
    f.sem k x = some r → ArgsAt w f.sig.params vs vss → PartsRd w S f.sig.ins x vss rows → (∀ b, S b → b < w.heap.size) →
    (rwBlks f.sig.params vs).Nodup → (∀ b ∈ rwBlks f.sig.params vs, b ∉ roBlks f.sig.params vs) → (∀ b ∈ boxBlks f.sig.params vs, ¬ S b) → (Blks rows).Nodup → (∀ b ∈ Blks rows, ¬ S b ∧ b < w.heap.size ∧ b ∉ boxBlks f.sig.params vs) → GlobOk P w S →
    Calls P g vs.toArray w fun e w' => ∃ rv S' vr vo rows', e = .returned rv ∧ Frm w.heap.size (fun b => b ∈ rwBlks f.sig.params vs ∨ b ∈ Blks rows) w w' ∧
      (∀ b, S b → S' b) ∧ (∀ b, S' b → S b ∨ b ∈ Blks rows ∨ w.heap.size ≤ b) ∧ (∀ b, S' b → b < w'.heap.size) ∧
      PartsRd w' S' f.sig.outs r (vr ++ vo) rows' ∧ ResAt f.sig.res rv vr ∧ OutsAt w' f.sig.params vs vo ∧
      (Blks rows').Nodup ∧ ∀ b ∈ Blks rows', ¬ S' b ∧ b < w'.heap.size ∧ b ∉ boxBlks f.sig.params vs ∧ (b ∈ Blks rows ∨ w.heap.size ≤ b)

/-- the contract of a maker -/
structure MkOk (P : Program) (k : Nat) (g : FuncId) (mk : Mk) : Prop where
  there : ∃ fn c, P.funcs[g]? = some fn ∧ (fn.name == "runtime.NumGoroutine") = false ∧ fn.body = some c
  run : mk.f.sig.params.all PK.isVal = true → (∀ r ∈ mk.f.sig.outs, r.2 = false) → ∀ (w : World) (S : Nat → Prop) (vs : List Value) (vss : List (List Value)) (x : mk.f.sig.inK.T) (r : mk.f.sig.outK.T),
    mk.f.sem k x = some r → ArgsAt w mk.f.sig.params vs vss → PartsRd w S mk.f.sig.ins x vss [] → (∀ b, S b → b < w.heap.size) → GlobOk P w S →
    Calls P g vs.toArray w fun e w' => ∃ b arr S', e = .returned (.pointer (some ⟨b, 0, none⟩)) ∧ Frm w.heap.size (fun _ => False) w w' ∧
      (∀ b, S b → S' b) ∧ (∀ b, S' b → S b ∨ w.heap.size ≤ b) ∧ (∀ b, S' b → b < w'.heap.size) ∧ w.heap.size ≤ b ∧ ¬ S' b ∧
      w'.heap[b]? = some (.cells arr mk.t (0, 0)) ∧ PartsRd w' S' mk.f.sig.outs r [arr.toList] []

/-- the contracts that a function leans on -/
structure EnvOk (E : Env) : Prop where
  fns : ∀ g f, E.fns g = some f → FnOk E.P E.k g f
  mks : ∀ g f, E.mks g = some f → MkOk E.P E.k g f

theorem ResL.length : ∀ {rs : List RK} {vs : List Value} {ls : List (List Value)}, ResL rs vs ls → ls.length = rs.length
  | [], [], [], _ => rfl
  | r :: rs, v :: vs, l :: ls, h => by simp [ResL.length h.2]
  | [], [], _ :: _, h => h.elim
  | [], _ :: _, _, h => by cases ‹List (List Value)› <;> exact h.elim
  | _ :: _, [], _, h => by cases ‹List (List Value)› <;> exact h.elim
  | _ :: _, _ :: _, [], h => h.elim

theorem ResAt.length {rs : List RK} {v : Value} {ls : List (List Value)} (h : ResAt rs v ls) : ls.length = rs.length := by
  match rs, h with
  | [r], h => exact ResL.length h
  | [], h => obtain ⟨us, _, h⟩ := h; exact h.length
  | _ :: _ :: _, h => obtain ⟨us, _, h⟩ := h; exact h.length

section
variable {E : Env} {base : Nat} {Mod : Nat → Prop} {w0 : Org} {m : Emb} {st : St} {a : Act} {w : World} {key : Nat} {o : Oper} {R : Type} {r : R}

theorem resL_rel : ∀ {rs : List RK} {vs : List Value} {lr lo : List (List AC)} {vr : List (List Value)}, ResL rs vs vr → All2 (All2 (RelAC m st w)) lr vr →
    All2 (RelC m st w) ((rs.zip (lr ++ lo)).map fun p => (p.1.agg, p.2)) vs
  | [], [], lr, lo, vr, _, _ => by simp [All2]
  | r :: rs, v :: vs, l :: lr, lo, k :: vr, h, hr => by
    simp only [List.cons_append, List.zip_cons_cons, List.map_cons]
    refine ⟨?_, resL_rel h.2 hr.2⟩
    have h1 := h.1
    have h2 := hr.1
    unfold RelC
    split
    · rename_i hg
      rw [if_pos hg] at h1
      exact ⟨_, h1, h2⟩
    · rename_i hg
      rw [if_neg hg] at h1
      subst h1
      match l, h2 with
      | [x], h2 => exact ⟨x, rfl, h2.1⟩
      | [], h2 => exact h2.elim
      | _ :: _ :: _, h2 => exact h2.2.elim
  | [], _ :: _, _, _, vr, h, _ => by cases vr <;> exact h.elim
  | _ :: _, [], _, _, vr, h, _ => by cases vr <;> exact h.elim
  | _ :: _, _ :: _, _, _, [], h, _ => h.elim
  | _ :: _, _ :: _, [], _, _ :: _, _, h => h.elim

theorem res_rel {rs : List RK} {rv : Value} {lr lo : List (List AC)} {vr : List (List Value)} (h : ResAt rs rv vr) (hr : All2 (All2 (RelAC m st w)) lr vr) : RelAV m st w (resAV rs (lr ++ lo)) rv := by
  match rs, h with
  | [], h => obtain ⟨us, rfl, h'⟩ := h; exact ⟨us, rfl, resL_rel h' hr⟩
  | _ :: _ :: _, h => obtain ⟨us, rfl, h'⟩ := h; exact ⟨us, rfl, resL_rel h' hr⟩
  | [r], h =>
    match vr, lr, h, hr with
    | [v], [l], h, hr =>
      have h1 := h.1
      simp only [List.cons_append, resAV]
      have h2 := hr.1
      split
      · rename_i hg
        rw [if_pos hg] at h1
        exact ⟨_, h1, h2⟩
      · rename_i hg
        rw [if_neg hg] at h1
        subst h1
        match l, h2 with
        | [x], h2 => exact h2.1
        | [], h2 => exact h2.elim
        | _ :: _ :: _, h2 => exact h2.2.elim
    | [], _, h, _ => exact h.elim
    | _ :: _ :: _, _, h, _ => exact h.2.elim
    | [_], [], _, hr => exact hr.elim
    | [_], _ :: _ :: _, _, hr => exact hr.2.elim

theorem argCells_box {t : TypeId} {c : CK} {own rw : Bool} {av : AV} {l : List AC} (h : argCells st (.box t c own rw) av = some l) :
    ∃ b, av = .one (.ptr b 0) ∧ st.box b = some (t, l) ∧ (rw = true → st.lock b = false) := by
  cases av with
  | one x =>
    cases x with
    | ptr b off =>
      cases off with
      | zero =>
        simp only [argCells] at h
        split at h
        · rename_i t' l' hb
          split at h
          · rename_i hc
            simp only [Option.some.injEq] at h; subst h
            simp only [Bool.and_eq_true, decide_eq_true_eq] at hc
            obtain ⟨rfl, hlk⟩ := hc
            exact ⟨b, rfl, hb, fun hr => by simpa [hr] using hlk⟩
          · cases h
        · cases h
      | succ n => simp [argCells] at h
    | _ => simp [argCells] at h
  | _ => simp [argCells] at h

theorem argCells_clo {f : FuncId} {fst : Bool} {t : TypeId} {c : CK} {av : AV} {l : List AC} (h : argCells st (.clo f fst t c) av = some l) :
    ∃ b l', av = .one (.fn f fst [(b, 0)]) ∧ st.box b = some (t, l') ∧ (c.mask l').2 = [] ∧ l = (c.mask l').1 := by
  cases av with
  | one x =>
    cases x with
    | fn g fst' caps =>
      match caps with
      | [(b, 0)] =>
        simp only [argCells] at h
        split at h
        · rename_i t' l' hb
          split at h
          · rename_i hc
            simp only [Option.some.injEq] at h; subst h
            simp only [Bool.and_eq_true, decide_eq_true_eq] at hc
            obtain ⟨⟨⟨rfl, rfl⟩, rfl⟩, hem⟩ := hc
            exact ⟨b, l', rfl, hb, List.isEmpty_iff.1 hem, rfl⟩
          · cases h
        · cases h
      | [] => simp [argCells] at h
      | [(b, n + 1)] => simp [argCells] at h
      | _ :: _ :: _ => simp [argCells] at h
    | _ => simp [argCells] at h
  | _ => simp [argCells] at h

/-- cells but for those that nothing is known of -/
theorem mask_rel : ∀ (c : CK) {l : List AC} {vs : List Value}, All2 (RelAC m st w) l vs → ∃ v1 v2, vs = v1 ++ v2 ∧ All2 (RelAC m st w) (c.mask l).1 v1 ∧ All2 (RelAC m st w) (c.mask l).2 v2
  | .unit, l, vs, h => ⟨[], vs, rfl, trivial, h⟩
  | .pair a b, l, vs, h => by
    obtain ⟨v1, v2, rfl, h1, h2⟩ := mask_rel a h
    obtain ⟨v3, v4, rfl, h3, h4⟩ := mask_rel b h2
    exact ⟨v1 ++ v3, v4, by simp, All2.append h1 h3, h4⟩
  | .arr _ n, l, vs, h => ⟨vs.take n, vs.drop n, (List.take_append_drop n vs).symm, h.take n, h.drop n⟩
  | .any, [], [], h => ⟨[], [], rfl, trivial, trivial⟩
  | .any, _ :: _, v :: vs, h => ⟨[v], vs, rfl, ⟨trivial, trivial⟩, h.2⟩
  | .int _, [], [], h => ⟨[], [], rfl, trivial, trivial⟩
  | .int _, _ :: _, v :: vs, h => ⟨[v], vs, rfl, ⟨h.1, trivial⟩, h.2⟩
  | .bool, [], [], h => ⟨[], [], rfl, trivial, trivial⟩
  | .bool, _ :: _, v :: vs, h => ⟨[v], vs, rfl, ⟨h.1, trivial⟩, h.2⟩
  | .str, [], [], h => ⟨[], [], rfl, trivial, trivial⟩
  | .str, _ :: _, v :: vs, h => ⟨[v], vs, rfl, ⟨h.1, trivial⟩, h.2⟩
  | .sl _ _, [], [], h => ⟨[], [], rfl, trivial, trivial⟩
  | .sl _ _, _ :: _, v :: vs, h => ⟨[v], vs, rfl, ⟨h.1, trivial⟩, h.2⟩
  | .any, [], _ :: _, h => h.elim
  | .any, _ :: _, [], h => h.elim
  | .int _, [], _ :: _, h => h.elim
  | .int _, _ :: _, [], h => h.elim
  | .bool, [], _ :: _, h => h.elim
  | .bool, _ :: _, [], h => h.elim
  | .str, [], _ :: _, h => h.elim
  | .str, _ :: _, [], h => h.elim
  | .sl _ _, [], _ :: _, h => h.elim
  | .sl _ _, _ :: _, [], h => h.elim

theorem mask_all {c : CK} {l : List AC} {vs : List Value} (h : All2 (RelAC m st w) l vs) (he : (c.mask l).2 = []) : All2 (RelAC m st w) (c.mask l).1 vs := by
  obtain ⟨v1, v2, rfl, h1, h2⟩ := mask_rel c h
  rw [he] at h2
  match v2, h2 with
  | [], _ => simpa using h1
  | _ :: _, h2 => exact h2.elim

/-- what an argument is -/
theorem args_rel (hm : MemRel m st w base Mod) : ∀ {ps : List PK} {avs : List AV} {vs : List Value} {ls : List (List AC)}, argParts st ps avs = some ls → All2 (RelAV m st w) avs vs →
    ∃ vss, ArgsAt w ps vs vss ∧ All2 (All2 (RelAC m st w)) ls vss ∧ boxBlks ps vs = (boxNos ps avs).map m.bl ∧ (∀ k ∈ boxNos ps avs, (st.box k).isSome = true) ∧
      (∀ b ∈ rwBlks ps vs, ∃ k ∈ boxNos ps avs, m.bl k = b ∧ st.lock k = false) ∧
      rwBlks ps vs = (rwNos ps avs).map m.bl ∧ roBlks ps vs = (roNos ps avs).map m.bl ∧ (∀ k ∈ rwNos ps avs, k ∈ boxNos ps avs ∧ st.lock k = false) ∧ (∀ k ∈ roNos ps avs, k ∈ boxNos ps avs)
  | [], [], vs, ls, h, hr => by
    simp only [argParts, Option.some.injEq] at h; subst h
    match vs, hr with
    | [], _ => exact ⟨[], trivial, trivial, rfl, by simp [boxNos], by simp [rwBlks], rfl, rfl, by simp [rwNos], by simp [roNos]⟩
    | _ :: _, hr => exact hr.elim
  | p :: ps, av :: avs, [], ls, h, hr => hr.elim
  | p :: ps, av :: avs, v :: vs, ls, h, hr => by
    simp only [argParts] at h
    split at h <;> try cases h
    rename_i l lm h1 h2
    obtain ⟨vss, i1, i2, i3, i4, i5, i6, i7, i8, i9⟩ := args_rel hm h2 hr.2
    have hv := hr.1
    cases p with
    | val agg c =>
      cases agg with
      | true =>
        cases av <;> simp only [argCells] at h1 <;> try (cases h1; done)
        simp only [Option.some.injEq] at h1; subst h1
        obtain ⟨arr, rfl, hr'⟩ := hv
        exact ⟨arr.toList :: vss, ⟨by simp, i1⟩, ⟨hr', i2⟩, by simpa [boxBlks, boxNos] using i3, by simpa [boxNos] using i4, by simpa [rwBlks, boxNos] using i5, by simpa [rwBlks, rwNos] using i6, by simpa [roBlks, roNos] using i7, by simpa [rwNos, boxNos] using i8, by simpa [roNos, boxNos] using i9⟩
      | false =>
        cases av <;> simp only [argCells] at h1 <;> try (cases h1; done)
        simp only [Option.some.injEq] at h1; subst h1
        exact ⟨[v] :: vss, ⟨by simp, i1⟩, ⟨⟨hv, trivial⟩, i2⟩, by simpa [boxBlks, boxNos] using i3, by simpa [boxNos] using i4, by simpa [rwBlks, boxNos] using i5, by simpa [rwBlks, rwNos] using i6, by simpa [roBlks, roNos] using i7, by simpa [rwNos, boxNos] using i8, by simpa [roNos, boxNos] using i9⟩
    | lent agg c =>
      cases agg with
      | true =>
        cases av <;> simp only [argCells] at h1 <;> try (cases h1; done)
        simp only [Option.some.injEq] at h1; subst h1
        obtain ⟨arr, rfl, hr'⟩ := hv
        exact ⟨arr.toList :: vss, ⟨by simp, i1⟩, ⟨hr', i2⟩, by simpa [boxBlks, boxNos] using i3, by simpa [boxNos] using i4, by simpa [rwBlks, boxNos] using i5, by simpa [rwBlks, rwNos] using i6, by simpa [roBlks, roNos] using i7, by simpa [rwNos, boxNos] using i8, by simpa [roNos, boxNos] using i9⟩
      | false =>
        cases av <;> simp only [argCells] at h1 <;> try (cases h1; done)
        simp only [Option.some.injEq] at h1; subst h1
        exact ⟨[v] :: vss, ⟨by simp, i1⟩, ⟨⟨hv, trivial⟩, i2⟩, by simpa [boxBlks, boxNos] using i3, by simpa [boxNos] using i4, by simpa [rwBlks, boxNos] using i5, by simpa [rwBlks, rwNos] using i6, by simpa [roBlks, roNos] using i7, by simpa [rwNos, boxNos] using i8, by simpa [roNos, boxNos] using i9⟩
    | give agg c =>
      cases agg with
      | true =>
        cases av <;> simp only [argCells] at h1 <;> try (cases h1; done)
        simp only [Option.some.injEq] at h1; subst h1
        obtain ⟨arr, rfl, hr'⟩ := hv
        exact ⟨arr.toList :: vss, ⟨by simp, i1⟩, ⟨hr', i2⟩, by simpa [boxBlks, boxNos] using i3, by simpa [boxNos] using i4, by simpa [rwBlks, boxNos] using i5, by simpa [rwBlks, rwNos] using i6, by simpa [roBlks, roNos] using i7, by simpa [rwNos, boxNos] using i8, by simpa [roNos, boxNos] using i9⟩
      | false =>
        cases av <;> simp only [argCells] at h1 <;> try (cases h1; done)
        simp only [Option.some.injEq] at h1; subst h1
        exact ⟨[v] :: vss, ⟨by simp, i1⟩, ⟨⟨hv, trivial⟩, i2⟩, by simpa [boxBlks, boxNos] using i3, by simpa [boxNos] using i4, by simpa [rwBlks, boxNos] using i5, by simpa [rwBlks, rwNos] using i6, by simpa [roBlks, roNos] using i7, by simpa [rwNos, boxNos] using i8, by simpa [roNos, boxNos] using i9⟩
    | clo f fst t c =>
      obtain ⟨b, l', rfl, hb, hem, rfl⟩ := argCells_clo h1
      obtain ⟨hbs, rfl⟩ := hv
      obtain ⟨arr, harr, hrel⟩ := hm.box _ _ _ hb
      have hrel := mask_all hrel hem
      have hbo : blkOf (.func (.func f) (cond fst ([(b, 0)].map (ptrV m)).toArray #[]) (cond fst #[] ([(b, 0)].map (ptrV m)).toArray)) = [m.bl b] := by cases fst <;> rfl
      refine ⟨arr.toList :: vss, ⟨⟨_, by cases fst <;> rfl, by simpa using harr⟩, i1⟩, ⟨hrel, i2⟩, by simp only [boxBlks, boxNos, hbo, i3]; rfl, ?_, ?_, by simpa [rwBlks, rwNos] using i6, by simp only [roBlks, roNos, hbo, i7]; rfl, ?_, ?_⟩
      · intro k hk
        simp only [boxNos, List.mem_cons] at hk
        rcases hk with rfl | hk
        · exact hbs (k, 0) (by simp)
        · exact i4 k hk
      · intro b' hb'
        simp only [rwBlks] at hb'
        obtain ⟨k, h1, h2⟩ := i5 b' hb'
        exact ⟨k, by simp [boxNos, h1], h2⟩
      · intro k hk
        obtain ⟨h1, h2⟩ := i8 k (by simpa [rwNos] using hk)
        exact ⟨by simp [boxNos, h1], h2⟩
      · intro k hk
        simp only [roNos, List.mem_cons] at hk
        rcases hk with rfl | hk
        · simp [boxNos]
        · simp [boxNos, i9 k hk]
    | box t c own rw =>
      obtain ⟨b, rfl, hb, hlk⟩ := argCells_box h1
      obtain ⟨hbs, rfl⟩ := hv
      obtain ⟨arr, harr, hrel⟩ := hm.box _ _ _ hb
      refine ⟨arr.toList :: vss, ⟨⟨_, rfl, by simpa using harr⟩, i1⟩, ⟨hrel, i2⟩, by simpa [boxBlks, boxNos, blkOf] using i3, ?_, ?_, ?_, ?_, ?_, ?_⟩
      · intro k hk
        simp only [boxNos, List.mem_cons] at hk
        rcases hk with rfl | hk
        · exact hbs
        · exact i4 k hk
      · intro b' hb'
        simp only [rwBlks, List.mem_append] at hb'
        rcases hb' with hb' | hb'
        · cases rw with
          | true =>
            simp only [if_true, blkOf, List.mem_singleton] at hb'
            subst hb'
            exact ⟨b, by simp [boxNos], rfl, hlk rfl⟩
          | false => simp at hb'
        · obtain ⟨k, h1, h2⟩ := i5 b' hb'
          exact ⟨k, by simp [boxNos, h1], h2⟩
      · cases rw <;> simp [rwBlks, rwNos, blkOf, i6]
      · cases rw <;> simp [roBlks, roNos, blkOf, i7]
      · intro k hk
        cases rw with
        | true =>
          simp only [rwNos, List.mem_cons] at hk
          rcases hk with rfl | hk
          · exact ⟨by simp [boxNos], hlk rfl⟩
          · obtain ⟨h1, h2⟩ := i8 k hk
            exact ⟨by simp [boxNos, h1], h2⟩
        | false =>
          obtain ⟨h1, h2⟩ := i8 k (by simpa [rwNos] using hk)
          exact ⟨by simp [boxNos, h1], h2⟩
      · intro k hk
        cases rw with
        | true => simp [boxNos, i9 k (by simpa [roNos] using hk)]
        | false =>
          simp only [roNos, List.mem_cons] at hk
          rcases hk with rfl | hk
          · simp [boxNos]
          · simp [boxNos, i9 k hk]
  | [], _ :: _, _, _, h, _ => by simp [argParts] at h
  | _ :: _, [], _, _, h, _ => by simp [argParts] at h

set_option maxHeartbeats 2000000 in
/-- what the boxes hold behind a call -/
theorem outs_rel {w' : World} {m' : Emb} {st' : St} (hbl : ∀ k, m'.bl k = m.bl k) : ∀ {ps : List PK} {avs : List AV} {vs : List Value} {ls : List (List AC)} {lo : List (List AC)} {vo : List (List Value)}, argParts st ps avs = some ls → All2 (RelAV m st w) avs vs →
    OutsAt w' ps vs vo → All2 (All2 (RelAC m' st' w')) lo vo →
    (∀ p ∈ rwPairs ps avs lo, ∃ arr, w'.heap[m'.bl p.1]? = some (.cells arr p.2.1 (0, 0)) ∧ All2 (RelAC m' st' w') p.2.2 arr.toList) ∧
    ((rwPairs ps avs lo).map (·.1)).Sublist (rwNos ps avs) ∧ (∀ b ∈ rwBlks ps vs, ∃ p ∈ rwPairs ps avs lo, m.bl p.1 = b)
  | [], [], vs, ls, lo, vo, h, hr, ho, hl => by
    match vs, hr with
    | [], _ => simp [rwPairs, rwNos, rwBlks]
    | _ :: _, hr => exact hr.elim
  | p :: ps, av :: avs, [], ls, _, _, h, hr, _, _ => hr.elim
  | p :: ps, av :: avs, v :: vs, ls, lo, vo, h, hr, ho, hl => by
    simp only [argParts] at h
    split at h <;> try cases h
    rename_i l lm h1 h2
    have hv := hr.1
    cases p with
    | val agg c =>
      have ih := outs_rel hbl h2 hr.2 (vo := vo) (lo := lo) (by simpa [OutsAt] using ho) hl
      cases av with
      | one x => cases x <;> simpa [rwPairs, rwNos, rwBlks] using ih
      | _ => simpa [rwPairs, rwNos, rwBlks] using ih
    | give agg c =>
      have ih := outs_rel hbl h2 hr.2 (vo := vo) (lo := lo) (by simpa [OutsAt] using ho) hl
      cases av with
      | one x => cases x <;> simpa [rwPairs, rwNos, rwBlks] using ih
      | _ => simpa [rwPairs, rwNos, rwBlks] using ih
    | clo f fst t c =>
      have ih := outs_rel hbl h2 hr.2 (vo := vo) (lo := lo) (by simpa [OutsAt] using ho) hl
      obtain ⟨b, l', rfl, hb, hem, rfl⟩ := argCells_clo h1
      exact ⟨by simpa [rwPairs] using ih.1, by simpa [rwPairs, rwNos] using ih.2.1, by simpa [rwPairs, rwBlks] using ih.2.2⟩
    | lent agg c =>
      simp only [OutsAt] at ho
      obtain ⟨k, vo', rfl, hk, ho⟩ := ho
      match lo, hl with
      | l0 :: lo, hl =>
        have ih := outs_rel hbl h2 hr.2 ho hl.2
        cases av with
        | one x => cases x <;> simpa [rwPairs, rwNos, rwBlks] using ih
        | _ => simpa [rwPairs, rwNos, rwBlks] using ih
      | [], hl => exact hl.elim
    | box t c own rw =>
      obtain ⟨b, rfl, hb, hlk⟩ := argCells_box h1
      obtain ⟨hbs, rfl⟩ := hv
      cases rw with
      | false =>
        have ih := outs_rel hbl h2 hr.2 (vo := vo) (lo := lo) (by simpa [OutsAt] using ho) hl
        exact ⟨by simpa [rwPairs] using ih.1, by simpa [rwPairs, rwNos] using ih.2.1, by simpa [rwPairs, rwBlks] using ih.2.2⟩
      | true =>
        simp only [OutsAt, if_true] at ho
        obtain ⟨k, vo', rfl, ⟨b', hb', hcells⟩, ho⟩ := ho
        match lo, hl with
        | l0 :: lo, hl =>
          have ih := outs_rel hbl h2 hr.2 ho hl.2
          have hbb : m.bl b = b' := by injection hb' with h; injection h with h; injection h
          subst hbb
          refine ⟨?_, ?_, ?_⟩
          · intro p hp
            simp only [rwPairs, List.mem_cons] at hp
            rcases hp with rfl | hp
            · exact ⟨_, by rw [hbl]; exact hcells, hl.1⟩
            · exact ih.1 p hp
          · simp only [rwPairs, rwNos, List.map_cons]
            exact ih.2.1.cons_cons _
          · intro b' hb'
            simp only [rwBlks, if_true, blkOf, List.mem_append, List.mem_singleton] at hb'
            rcases hb' with rfl | hb'
            · exact ⟨(b, t, l0), by simp [rwPairs], rfl⟩
            · obtain ⟨p, hp, e⟩ := ih.2.2 b' hb'
              exact ⟨p, by simp [rwPairs, hp], e⟩
        | [], hl => exact hl.elim
  | [], _ :: _, _, _, _, _, h, _, _, _ => by simp [argParts] at h
  | _ :: _, [], _, _, _, _, h, _, _, _ => by simp [argParts] at h

/-- a row that was lent, under its new name -/
theorem zipRen_rel {w' : World} {m' : Emb} {st' : St} : ∀ {l o : List AC} {vs : List Value}, All2 (RelAC m st w) l vs → All2 (RelAC m' st' w') o vs →
    ∀ p ∈ zipRen l o, p.1 ∈ AC.ids l ∧ (st.dead p.1 = false → RelAC m' st' w' p.2 (m.val p.1))
  | [], _, _, _, _, p, hp => by simp [zipRen] at hp
  | x :: l, [], _, _, _, p, hp => by
    exfalso
    unfold zipRen at hp
    split at hp <;> simp_all
  | x :: l, y :: o, v :: vs, h1, h2, p, hp => by
    have ih := fun hp => zipRen_rel h1.2 h2.2 p hp
    have hgo : p ∈ zipRen l o → p.1 ∈ AC.ids (x :: l) ∧ (st.dead p.1 = false → RelAC m' st' w' p.2 (m.val p.1)) := fun hp => by
      obtain ⟨i1, i2⟩ := ih hp
      refine ⟨?_, i2⟩
      cases x <;> first | exact i1 | (rename_i own _ _ _ _ _; cases own <;> simp [AC.ids, i1])
    cases x with
    | sl id own vw e c xs src =>
      cases own with
      | false => exact hgo (by simpa [zipRen] using hp)
      | true =>
        cases vw with
        | true => exact hgo (by simpa [zipRen] using hp)
        | false =>
          simp only [zipRen, List.mem_cons] at hp
          rcases hp with rfl | hp
          · refine ⟨by simp [AC.ids], fun hd => ?_⟩
            obtain ⟨_, _, hh⟩ := h1.1
            simp only [if_true] at hh
            have hh := hh.resolve_left (by simp [show st.dead id = false from hd])
            obtain ⟨_, _, _, _, _, _, hv⟩ := hh
            show RelAC m' st' w' y (m.val id)
            rw [← hv rfl]
            exact h2.1
          · exact hgo hp
    | _ => exact hgo (by simpa [zipRen] using hp)
  | _ :: _, _ :: _, [], h1, _, _, _ => h1.elim

theorem renPairs_rel {w' : World} {m' : Emb} {st' : St} : ∀ {ps : List PK} {avs : List AV} {vs : List Value} {ls : List (List AC)} {lo : List (List AC)} {vo : List (List Value)}, argParts st ps avs = some ls → All2 (RelAV m st w) avs vs →
    OutsAt w' ps vs vo → All2 (All2 (RelAC m' st' w')) lo vo → ∀ p ∈ renPairs ps ls lo, p.1 ∈ ownIds (ps.map fun | .val _ c => (c, false) | .box _ c own _ => (c, own) | .lent _ c => (c, true) | .give _ c => (c, true) | .clo _ _ _ c => (c, false)) ls ∧ (st.dead p.1 = false → RelAC m' st' w' p.2 (m.val p.1))
  | [], _, _, _, _, _, _, _, _, _, p, hp => by simp [renPairs] at hp
  | q :: ps, [], _, _, _, _, h, _, _, _, _, _ => by simp [argParts] at h
  | q :: ps, av :: avs, [], _, _, _, _, hr, _, _, _, _ => hr.elim
  | q :: ps, av :: avs, v :: vs, ls, lo, vo, h, hr, ho, hl, p, hp => by
    simp only [argParts] at h
    split at h <;> try cases h
    rename_i l lm h1 h2
    cases q with
    | val agg c =>
      obtain ⟨i1, i2⟩ := renPairs_rel h2 hr.2 (vo := vo) (lo := lo) (by simpa [OutsAt] using ho) hl p (by simpa [renPairs] using hp)
      exact ⟨by simp only [List.map_cons, ownIds]; exact List.mem_append_right _ i1, i2⟩
    | give agg c =>
      obtain ⟨i1, i2⟩ := renPairs_rel h2 hr.2 (vo := vo) (lo := lo) (by simpa [OutsAt] using ho) hl p (by simpa [renPairs] using hp)
      exact ⟨by simp only [List.map_cons, ownIds]; exact List.mem_append_right _ i1, i2⟩
    | clo f fst t c =>
      obtain ⟨i1, i2⟩ := renPairs_rel h2 hr.2 (vo := vo) (lo := lo) (by simpa [OutsAt] using ho) hl p (by simpa [renPairs] using hp)
      exact ⟨by simp only [List.map_cons, ownIds]; exact List.mem_append_right _ i1, i2⟩
    | box t c own rw =>
      cases rw with
      | false =>
        obtain ⟨i1, i2⟩ := renPairs_rel h2 hr.2 (vo := vo) (lo := lo) (by simpa [OutsAt] using ho) hl p (by simpa [renPairs] using hp)
        exact ⟨by simp only [List.map_cons, ownIds]; exact List.mem_append_right _ i1, i2⟩
      | true =>
        simp only [OutsAt, if_true] at ho
        obtain ⟨k, vo', rfl, _, ho⟩ := ho
        match lo, hl with
        | l0 :: lo, hl =>
          obtain ⟨i1, i2⟩ := renPairs_rel h2 hr.2 ho hl.2 p (by simpa [renPairs] using hp)
          exact ⟨by simp only [List.map_cons, ownIds]; exact List.mem_append_right _ i1, i2⟩
        | [], hl => exact hl.elim
    | lent agg c =>
      simp only [OutsAt] at ho
      obtain ⟨k, vo', rfl, hk, ho⟩ := ho
      match lo, hl with
      | l0 :: lo, hl =>
        simp only [renPairs, List.mem_append] at hp
        rcases hp with hp | hp
        · have hlk : All2 (RelAC m st w) l k := by
            have hv := hr.1
            cases agg with
            | true =>
              cases av <;> simp only [argCells] at h1 <;> try (cases h1; done)
              simp only [Option.some.injEq] at h1; subst h1
              obtain ⟨arr, rfl, hr'⟩ := hv
              simp only [if_true, Value.agg.injEq] at hk
              subst hk
              simpa using hr'
            | false =>
              cases av <;> simp only [argCells] at h1 <;> try (cases h1; done)
              simp only [Option.some.injEq] at h1; subst h1
              simp only [Bool.false_eq_true, if_false] at hk
              subst hk
              exact ⟨hv, trivial⟩
          obtain ⟨i1, i2⟩ := zipRen_rel hlk hl.1 p hp
          exact ⟨by simp only [List.map_cons, ownIds, if_true]; exact List.mem_append_left _ i1, i2⟩
        · obtain ⟨i1, i2⟩ := renPairs_rel h2 hr.2 ho hl.2 p hp
          exact ⟨by simp only [List.map_cons, ownIds]; exact List.mem_append_right _ i1, i2⟩
      | [], hl => exact hl.elim

theorem renOf_mem : ∀ {f : List (Id × AC)} {id : Id} {x : AC}, renOf f id = some x → (id, x) ∈ f
  | [], _, _, h => by cases h
  | (i, y) :: f, id, x, h => by
    unfold renOf at h
    split at h
    · rename_i e; simp only [Option.some.injEq] at h; subst h; subst e; simp
    · exact List.mem_cons_of_mem _ (renOf_mem h)

theorem RelAC.ren {m' : Emb} {st' : St} {w' : World} {f : List (Id × AC)} (hlat : Later m st w m' st' w') (hf : ∀ p ∈ f, st.dead p.1 = false ∧ RelAC m' st' w' p.2 (m.val p.1)) {x : AC} {v : Value} (h : RelAC m st w x v) : RelAC m' st' w' (x.ren f) v := by
  unfold AC.ren
  split
  · rename_i id e c xs src
    split
    · rename_i id' own' vw' e' c' xs' src' hr
      obtain ⟨hd, hr⟩ := hf _ (renOf_mem hr)
      obtain ⟨_, _, hh⟩ := h
      simp only [if_true] at hh
      have hh := hh.resolve_left (by simp [show st.dead id = false from hd])
      obtain ⟨_, _, _, _, _, _, hv⟩ := hh
      rw [hv rfl]
      exact hr
    · exact RelAC.later hlat h
  · exact RelAC.later hlat h

theorem All2.ren {m' : Emb} {st' : St} {w' : World} {f : List (Id × AC)} (hlat : Later m st w m' st' w') (hf : ∀ p ∈ f, st.dead p.1 = false ∧ RelAC m' st' w' p.2 (m.val p.1)) : ∀ {l : List AC} {vs : List Value}, All2 (RelAC m st w) l vs → All2 (RelAC m' st' w') (l.map (AC.ren f)) vs
  | [], [], _ => trivial
  | _ :: _, _ :: _, h => ⟨RelAC.ren hlat hf h.1, All2.ren hlat hf h.2⟩
  | [], _ :: _, h => h.elim
  | _ :: _, [], h => h.elim

theorem RelAV.ren {m' : Emb} {st' : St} {w' : World} {f : List (Id × AC)} (hlat : Later m st w m' st' w') (hf : ∀ p ∈ f, st.dead p.1 = false ∧ RelAC m' st' w' p.2 (m.val p.1)) {x : AV} {v : Value} (h : RelAV m st w x v) : RelAV m' st' w' (x.ren f) v := by
  cases x with
  | one x => exact RelAC.ren hlat hf h
  | agg l =>
    obtain ⟨arr, h1, h2⟩ := h
    exact ⟨arr, h1, All2.ren hlat hf h2⟩
  | tup l => exact RelAV.later hlat h
  | ep _ _ _ _ _ _ _ _ => exact RelAV.later hlat h
  | pi _ _ _ _ _ => exact RelAV.later hlat h

theorem ren_slot (st : St) (f : List (Id × AC)) (t : Nat) : (st.ren f).slot t = st.slot t ∨ (st.ren f).slot t = (st.slot t).ren f := by
  cases f with
  | nil => exact .inl rfl
  | cons p f => exact .inr rfl
theorem ren_box (st : St) (f : List (Id × AC)) (b : Nat) : (st.ren f).box b = st.box b ∨ (st.ren f).box b = (st.box b).map fun q => (q.1, q.2.map (AC.ren f)) := by
  cases f with
  | nil => exact .inl rfl
  | cons p f => exact .inr rfl
theorem ren_eq (st : St) (f : List (Id × AC)) : st.ren f = { st with slot := (st.ren f).slot, box := (st.ren f).box } := by
  cases f <;> rfl

theorem setBoxes_eq : ∀ (l : List (Nat × TypeId × List AC)) (st : St), st.setBoxes l = { st with box := (st.setBoxes l).box }
  | [], st => rfl
  | (b, x) :: l, st => by
    simp only [St.setBoxes]
    rw [setBoxes_eq l]
    rfl

theorem setBoxes_not : ∀ (l : List (Nat × TypeId × List AC)) (st : St) (k : Nat), k ∉ l.map (·.1) → (st.setBoxes l).box k = st.box k
  | [], st, k, _ => rfl
  | (b, x) :: l, st, k, h => by
    simp only [List.map_cons, List.mem_cons, not_or] at h
    simp only [St.setBoxes]
    rw [setBoxes_not l _ k h.2, setBox_some, if_neg h.1]

theorem setBoxes_mem : ∀ (l : List (Nat × TypeId × List AC)) (st : St) (k : Nat) (x : TypeId × List AC), (l.map (·.1)).Nodup → (k, x) ∈ l → (st.setBoxes l).box k = some x
  | [], st, k, x, _, h => by simp at h
  | (b, y) :: l, st, k, x, hn, h => by
    simp only [List.map_cons, List.nodup_cons] at hn
    simp only [St.setBoxes]
    rcases List.mem_cons.1 h with h | h
    · cases h
      rw [setBoxes_not l _ _ hn.1, setBox_some, if_pos rfl]
    · exact setBoxes_mem l _ k x hn.2 h

theorem distinct_nodup {α : Type} [BEq α] [LawfulBEq α] : ∀ {l : List α}, distinct l = true → l.Nodup
  | [], _ => List.nodup_nil
  | x :: l, h => by
    simp only [distinct, Bool.and_eq_true, Bool.not_eq_true'] at h
    refine List.nodup_cons.2 ⟨fun hx => ?_, distinct_nodup h.2⟩
    have := List.contains_iff_mem.2 hx
    rw [h.1] at this; cases this

theorem run_enter {P : Program} {g : FuncId} {c : Call} {fn : Func} {cd : Code} (ho : o.op = .call c) (hc : c.callee = .value (.func g)) (hf : P.funcs[g]? = some fn) (hname : (fn.name == "runtime.NumGoroutine") = false) (hb : fn.body = some cd) :
    (execOp a.eval o).run P w = .ok (.enter g (c.args.map a.eval)) w := by
  have h1 : fn.name ≠ "runtime.NumGoroutine" := by simpa using hname
  simp [execOp, ho, resolve, hc, Act.eval, Deferred.ofValue, invoke, callFunc, hf, h1, hb]

theorem run_enter_val {P : Program} {g : FuncId} {c : Call} {x : Operand} {first caps : Array Value} {fn : Func} {cd : Code} (ho : o.op = .call c) (hc : c.callee = .value x) (hx : a.eval x = .func (.func g) first caps) (hf : P.funcs[g]? = some fn) (hname : (fn.name == "runtime.NumGoroutine") = false) (hb : fn.body = some cd) :
    (execOp a.eval o).run P w = .ok (.enter g (first ++ c.args.map a.eval ++ caps)) w := by
  have h1 : fn.name ≠ "runtime.NumGoroutine" := by simpa using hname
  simp [execOp, ho, resolve, hc, hx, Deferred.ofValue, invoke, callFunc, hf, h1, hb]

/-- what is written is handed in once: as blocks -/
theorem sep_blks (hm : MemRel m st w base Mod) {ps : List PK} {avs : List AV} {vs : List Value} (hs : sepNos ps avs = true) (h4 : ∀ k ∈ boxNos ps avs, (st.box k).isSome = true) (h6 : rwBlks ps vs = (rwNos ps avs).map m.bl) (h7 : roBlks ps vs = (roNos ps avs).map m.bl)
    (h8 : ∀ k ∈ rwNos ps avs, k ∈ boxNos ps avs ∧ st.lock k = false) (h9 : ∀ k ∈ roNos ps avs, k ∈ boxNos ps avs) (hnm : ∀ {l : List Nat}, l.Nodup → (∀ x y, x ∈ l → y ∈ l → m.bl x = m.bl y → x = y) → (l.map m.bl).Nodup) (hdn : distinct (rwNos ps avs) = true → (rwNos ps avs).Nodup) :
    (rwBlks ps vs).Nodup ∧ ∀ b ∈ rwBlks ps vs, b ∉ roBlks ps vs := by
  unfold sepNos at hs
  simp only [Bool.and_eq_true] at hs
  have hin : ∀ x y, x ∈ rwNos ps avs → y ∈ boxNos ps avs → m.bl x = m.bl y → x = y := fun x y hx hy he => by
    rcases hm.boxI x y (h4 x (h8 x hx).1) (h4 y hy) he with h | h
    · exact h
    · have := (h8 x hx).2; rw [h.1] at this; cases this
  refine ⟨by rw [h6]; exact hnm (hdn hs.1) fun x y hx hy he => hin x y hx (h8 y hy).1 he, fun b hb hb' => ?_⟩
  rw [h6] at hb; rw [h7] at hb'
  obtain ⟨x, hx, rfl⟩ := List.mem_map.1 hb
  obtain ⟨y, hy, he⟩ := List.mem_map.1 hb'
  have := hin x y hx (h9 y hy) he.symm
  subst this
  have := List.all_eq_true.1 hs.2 x hx
  rw [List.contains_iff_mem.2 hy] at this
  cases this

theorem opnds_rel (h : Rel E.F base Mod w0 m st a w) : ∀ (l : List Operand), All2 (RelAV m st w) (l.map (opnd st)) (l.map a.eval)
  | [] => trivial
  | x :: l => ⟨h.opnd x, opnds_rel h l⟩

theorem partsOk_spec {rs : List (CK × Bool)} {ls : List (List AC)} (h : partsOk st rs ls = true) : ls.all st.fresh = true ∧ allOwnP rs ls = true ∧ (∀ i ∈ ownIds rs ls, st.dead i = false ∧ st.ice i = false ∧ i ∉ roIds rs ls) ∧ (ownIds rs ls).Nodup := by
  unfold partsOk at h
  simp only [Bool.and_eq_true] at h
  obtain ⟨⟨⟨h1, h2⟩, h3⟩, h4⟩ := h
  refine ⟨h1, h2, fun i hi => ?_, distinct_nodup h4⟩
  have := List.all_eq_true.1 h3 i hi
  simp only [Bool.and_eq_true, Bool.not_eq_true'] at this
  have hr := rights_spec this.1
  refine ⟨hr.1, hr.2, fun hm => ?_⟩
  have := List.contains_iff_mem.2 hm
  simp_all
end
end Go.Proofs.Ytjokcjlpciecoaa.Rx
