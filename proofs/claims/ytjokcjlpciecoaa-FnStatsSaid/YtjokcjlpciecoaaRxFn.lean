/- A part of the evaluator and its soundness: Fn. No condition beside those that each theorem states. -/
import Derived.Test.YtjokcjlpciecoaaRxInterp
set_option linter.unusedSimpArgs false
set_option linter.unusedVariables false
namespace Go.Proofs.Ytjokcjlpciecoaa.Rx

section
variable {E : Env} {base : Nat} {N : Rim} {Mod : Nat → Prop} {w0 : Org} {m : Emb} {st : St} {a : Act} {w : World}

/-- what a result's variable holds -/
def resOne (tmps : Array Value) : ResultVar → Sem Value
  | .tmp t => pure (tmps.getD t undef)
  | .cell a t => do loadVar t (← asAddr (tmps.getD a undef))

theorem resParts_rel (h : Rel N base Mod w0 m st a w) : ∀ {rs : List ResultVar} {ks : List RK} {ls : List (List AC)}, resParts E st rs ks = some ls →
    ∃ us vss, (rs.mapM (resOne a.tmps)).run E.P w = .ok us w ∧ ResL ks us vss ∧ All2 (All2 (RelAC m st w)) ls vss
  | [], [], ls, hp => by
    simp only [resParts, Option.some.injEq] at hp; subst hp
    exact ⟨[], [], by simp, trivial, trivial⟩
  | .tmp t :: rs, r :: ks, ls, hp => by
    simp only [resParts] at hp
    split at hp <;> try cases hp
    rename_i x l h1 h2
    obtain ⟨us, vss, i1, i2, i3⟩ := resParts_rel h h2
    have hv := h.slot t
    have hrun : ((ResultVar.tmp t :: rs).mapM (resOne a.tmps)).run E.P w = .ok (a.tmps.getD t undef :: us) w := by
      simp only [List.mapM_cons, Sem.run_bind, resOne, Sem.run_pure, Result.andThen_ok, i1]
    obtain ⟨agg, c, own⟩ := r
    cases agg with
    | true =>
      cases hs : st.slot t <;> simp only [hs, slotCells] at h1 <;> try (cases h1; done)
      simp only [Option.some.injEq] at h1; subst h1
      rw [hs] at hv
      obtain ⟨arr, h3, h4⟩ := hv
      exact ⟨_, arr.toList :: vss, hrun, ⟨by simpa using h3, i2⟩, ⟨h4, i3⟩⟩
    | false =>
      cases hs : st.slot t <;> simp only [hs, slotCells] at h1 <;> try (cases h1; done)
      simp only [Option.some.injEq] at h1; subst h1
      rw [hs] at hv
      exact ⟨_, [a.tmps.getD t undef] :: vss, hrun, ⟨by simp, i2⟩, ⟨⟨hv, trivial⟩, i3⟩⟩
  | .cell t T :: rs, r :: ks, ls, hp => by
    simp only [resParts] at hp
    split at hp <;> try cases hp
    rename_i b hs
    split at hp <;> try cases hp
    rename_i T' c l hb h2
    split at hp
    case isFalse => cases hp
    rename_i hc
    simp only [Option.some.injEq] at hp; subst hp
    simp only [Bool.and_eq_true, decide_eq_true_eq, beq_iff_eq] at hc
    obtain ⟨⟨rfl, hagg⟩, hlen⟩ := hc
    obtain ⟨us, vss, i1, i2, i3⟩ := resParts_rel h h2
    have hv := h.slot t
    rw [hs] at hv
    obtain ⟨_, hv⟩ := hv
    obtain ⟨arr, hh, hr⟩ := h.mem.box b T' c hb
    have hcell : ∀ j, w.cell? ⟨m.bl b, j, none⟩ = arr[j]? := fun j => cell_of_row w _ _ _ _ _ hh
    have hal : arr.toList.length = c.length := hr.length.symm
    obtain ⟨agg, ck, own⟩ := r
    cases agg with
    | true =>
      simp only [cond_true] at hlen
      have hl := run_loadVar_part (E := E) (w := w) (t := T') (b := m.bl b) (off := 0) (vs := arr.toList) (fun j v hv => by
        rw [hcell]; simpa using hv) hagg (by omega)
      refine ⟨.agg arr :: us, arr.toList :: vss, ?_, ⟨by simp, i2⟩, ⟨hr, i3⟩⟩
      simp only [List.mapM_cons, Sem.run_bind, resOne, hv, asAddr, Sem.run_pure, Result.andThen_ok, i1]
      simp only [hl, Result.andThen_ok, i1]
    | false =>
      simp only [cond_false] at hlen
      match c, hlen with
      | [x], _ =>
        match hal' : arr.toList, hr with
        | [v], hr =>
          have hl := run_loadVar_one (E := E) (w := w) (t := T') (b := m.bl b) (off := 0) (v := v) (by rw [hcell, ← Array.getElem?_toList, hal']; rfl) hagg
          refine ⟨v :: us, [v] :: vss, ?_, ⟨by simp, i2⟩, ⟨hr, i3⟩⟩
          simp only [List.mapM_cons, Sem.run_bind, resOne, hv, asAddr, Sem.run_pure, Result.andThen_ok, i1]
          simp only [hl, Result.andThen_ok, i1]
        | [], hr => exact hr.elim
        | _ :: _ :: _, hr => exact hr.2.elim
  | [], _ :: _, _, hp => by simp [resParts] at hp
  | .tmp _ :: _, [], _, hp => by simp [resParts] at hp
  | .cell _ _ :: _, [], _, hp => by simp [resParts] at hp

theorem run_results {P : Program} {fn : Func} {tmps : Array Value} {us : List Value} (h : (fn.results.toList.mapM (resOne tmps)).run P w = .ok us w) :
    (results fn tmps).run P w = .ok (if h : us.toArray.size = 1 then us.toArray[0] else .tuple us.toArray) w := by
  have e : results fn tmps = (do
    let vs ← fn.results.mapM (resOne tmps)
    pure (if h : vs.size = 1 then vs[0] else .tuple vs)) := by
    unfold results
    congr 2
  rw [e, Array.mapM_eq_mapM_toList]
  simp only [Sem.run_bind, Sem.run_map, h, Result.andThen_ok, Sem.run_pure]

theorem resAt_of : ∀ {ks : List RK} {us : List Value} {vss : List (List Value)}, ResL ks us vss → ResAt ks (if h : us.toArray.size = 1 then us.toArray[0] else .tuple us.toArray) vss
  | [], [], vss, h => ⟨#[], by simp, h⟩
  | [r], [u], vss, h => by simpa [ResAt] using h
  | r :: q :: ks, [], vss, h => by cases vss <;> exact h.elim
  | r :: q :: ks, [u], vss, h => by
    match vss, h with
    | [], h => exact h.elim
    | [_], h => exact h.2.elim
    | _ :: _ :: _, h => exact h.2.elim
  | r :: q :: ks, u :: v :: us, vss, h => ⟨(u :: v :: us).toArray, by simp, by simpa using h⟩
  | [], _ :: _, vss, h => by cases vss <;> exact h.elim
  | [_], [], vss, h => by cases vss <;> exact h.elim
  | [_], _ :: _ :: _, vss, h => by
    match vss, h with
    | [], h => exact h.elim
    | [_], h => exact h.2.elim
    | _ :: _ :: _, h => exact h.2.elim

/-- the boxes a call wrote, as it ends -/
theorem boxParts_rel (h : Rel N base Mod w0 m st a w) : ∀ {ps : List PK} {n : Nat} {vs : List Value} {vss0 : List (List Value)} {wa : World} {ls : List (List AC)}, boxParts st ps n = some ls → ArgsAt wa ps vs vss0 → n + ps.length < 1000 →
    (∀ i v b, vs[i]? = some v → blkOf v = [b] → w0.bl (n + i + 1) = b) → (∀ i v agg c, ps[i]? = some (.lent agg c) → vs[i]? = some v → w0.pin (n + i) = some v) → ∃ vo, OutsAt w ps vs vo ∧ All2 (All2 (RelAC m st w)) ls vo
  | [], n, vs, vss0, wa, ls, hp, ha, _, _, _ => by
    simp only [boxParts, Option.some.injEq] at hp; subst hp
    match vs, vss0, ha with
    | [], [], _ => exact ⟨[], rfl, trivial⟩
    | [], _ :: _, ha => exact ha.elim
    | _ :: _, [], ha => exact ha.elim
    | _ :: _, _ :: _, ha => exact ha.elim
  | .lent agg c :: ps, n, vs, vss0, wa, ls, hp, ha, hn, hb, hpn => by
    match vs, vss0, ha with
    | v :: vs, l :: vss0, ha =>
      simp only [boxParts] at hp
      split at hp <;> try cases hp
      rename_i l1 ls1 h1 h2
      simp only [List.length_cons] at hn
      obtain ⟨vo, i1, i2⟩ := boxParts_rel h h2 ha.2 (by omega) (fun i v b hi hv => by have := hb (i + 1) v b (by simpa using hi) hv; rw [← this]; congr 1; omega)
        (fun i v agg c h1 h2 => by have := hpn (i + 1) v agg c (by simpa using h1) (by simpa using h2); rw [← this]; congr 1; omega)
      have hv := h.slot n
      rw [(h.defers.2 n v (hpn 0 v agg c rfl rfl)).2] at hv
      cases agg with
      | true =>
        cases hs : st.slot n <;> simp only [hs, slotCells] at h1 <;> try (cases h1; done)
        simp only [Option.some.injEq] at h1; subst h1
        rw [hs] at hv
        obtain ⟨arr, h3, h4⟩ := hv
        exact ⟨arr.toList :: vo, ⟨_, _, rfl, by simpa using h3, i1⟩, ⟨h4, i2⟩⟩
      | false =>
        cases hs : st.slot n <;> simp only [hs, slotCells] at h1 <;> try (cases h1; done)
        simp only [Option.some.injEq] at h1; subst h1
        rw [hs] at hv
        exact ⟨[v] :: vo, ⟨_, _, rfl, by simp, i1⟩, ⟨⟨hv, trivial⟩, i2⟩⟩
    | [], [], ha => exact ha.elim
    | [], _ :: _, ha => exact ha.elim
    | _ :: _, [], ha => exact ha.elim
  | .val agg c :: ps, n, vs, vss0, wa, ls, hp, ha, hn, hb, hpn => by
    match vs, vss0, ha with
    | v :: vs, l :: vss0, ha =>
      simp only [boxParts] at hp
      simp only [List.length_cons] at hn
      obtain ⟨vo, i1, i2⟩ := boxParts_rel h hp ha.2 (by omega) (fun i v b hi hv => by have := hb (i + 1) v b (by simpa using hi) hv; rw [← this]; congr 1; omega)
        (fun i v agg c h1 h2 => by have := hpn (i + 1) v agg c (by simpa using h1) (by simpa using h2); rw [← this]; congr 1; omega)
      exact ⟨vo, i1, i2⟩
    | [], [], ha => exact ha.elim
    | [], _ :: _, ha => exact ha.elim
    | _ :: _, [], ha => exact ha.elim
  | .give agg c :: ps, n, vs, vss0, wa, ls, hp, ha, hn, hb, hpn => by
    match vs, vss0, ha with
    | v :: vs, l :: vss0, ha =>
      simp only [boxParts] at hp
      simp only [List.length_cons] at hn
      obtain ⟨vo, i1, i2⟩ := boxParts_rel h hp ha.2 (by omega) (fun i v b hi hv => by have := hb (i + 1) v b (by simpa using hi) hv; rw [← this]; congr 1; omega)
        (fun i v agg c h1 h2 => by have := hpn (i + 1) v agg c (by simpa using h1) (by simpa using h2); rw [← this]; congr 1; omega)
      exact ⟨vo, i1, i2⟩
    | [], [], ha => exact ha.elim
    | [], _ :: _, ha => exact ha.elim
    | _ :: _, [], ha => exact ha.elim
  | .clo f fst t c :: ps, n, vs, vss0, wa, ls, hp, ha, hn, hb, hpn => by
    match vs, vss0, ha with
    | v :: vs, l :: vss0, ha =>
      simp only [boxParts] at hp
      simp only [List.length_cons] at hn
      obtain ⟨vo, i1, i2⟩ := boxParts_rel h hp ha.2 (by omega) (fun i v b hi hv => by have := hb (i + 1) v b (by simpa using hi) hv; rw [← this]; congr 1; omega)
        (fun i v agg c h1 h2 => by have := hpn (i + 1) v agg c (by simpa using h1) (by simpa using h2); rw [← this]; congr 1; omega)
      exact ⟨vo, i1, i2⟩
    | [], [], ha => exact ha.elim
    | [], _ :: _, ha => exact ha.elim
    | _ :: _, [], ha => exact ha.elim
  | .box t c own rw :: ps, n, vs, vss0, wa, ls, hp, ha, hn, hb, hpn => by
    match vs, vss0, ha with
    | v :: vs, l :: vss0, ha =>
      simp only [boxParts] at hp
      simp only [List.length_cons] at hn
      have hb' : ∀ i v b, vs[i]? = some v → blkOf v = [b] → w0.bl (n + 1 + i + 1) = b := fun i v b hi hv => by
        have := hb (i + 1) v b (by simpa using hi) hv; rw [← this]; congr 1; omega
      have hpn' : ∀ i v agg c, ps[i]? = some (.lent agg c) → vs[i]? = some v → w0.pin (n + 1 + i) = some v :=
        fun i v agg c h1 h2 => by have := hpn (i + 1) v agg c (by simpa using h1) (by simpa using h2); rw [← this]; congr 1; omega
      obtain ⟨⟨b, rfl, _⟩, ha2⟩ := ha
      cases rw with
      | false =>
        simp only [cond_false] at hp
        obtain ⟨vo, i1, i2⟩ := boxParts_rel h hp ha2 (by omega) hb' hpn'
        exact ⟨vo, by simpa [OutsAt] using i1, i2⟩
      | true =>
        simp only [cond_true] at hp
        split at hp <;> try cases hp
        rename_i t' l' ls' h1 h2
        split at hp
        case isFalse => cases hp
        rename_i e; subst e
        simp only [Option.some.injEq] at hp; subst hp
        obtain ⟨vo, i1, i2⟩ := boxParts_rel h h2 ha2 (by omega) hb' hpn'
        obtain ⟨arr, hh, hr⟩ := h.mem.box (n + 1) t' l' h1
        rw [h.fix.1 (n + 1) (by omega), show w0.bl (n + 1) = b from hb 0 _ b rfl rfl] at hh
        exact ⟨arr.toList :: vo, by simp only [OutsAt, if_true]; exact ⟨_, _, rfl, ⟨b, rfl, by simpa using hh⟩, i1⟩, ⟨hr, i2⟩⟩
    | [], [], ha => exact ha.elim
    | [], _ :: _, ha => exact ha.elim
    | _ :: _, [], ha => exact ha.elim

/-! the start of a call -/
theorem paramItems_ptrs : ∀ (ps : List PK) (n : Nat), Item.ptrs (paramItems ps n) = Item.boxes (paramItems ps n)
  | [], _ => rfl
  | .val _ _ :: ps, n => by simp only [paramItems, Item.ptrs, Item.boxes]; exact paramItems_ptrs ps _
  | .lent _ _ :: ps, n => by simp only [paramItems, Item.ptrs, Item.boxes]; exact paramItems_ptrs ps _
  | .box _ _ _ _ :: ps, n => by simp only [paramItems, Item.ptrs, Item.boxes]; rw [paramItems_ptrs ps _]
  | .give _ _ :: ps, n => by simp only [paramItems, Item.ptrs, Item.boxes]; exact paramItems_ptrs ps _
  | .clo _ _ _ _ :: ps, n => by simp only [paramItems, Item.ptrs, Item.boxes]; rw [paramItems_ptrs ps _]

theorem paramItems_at {bl : Nat → Nat} : ∀ {ps : List PK} {vs : List Value} {vss : List (List Value)} {n : Nat}, ArgsAt w ps vs vss → (∀ i v, vs[i]? = some v → a.tmps.getD (n + i) undef = v) →
    (∀ i v b, vs[i]? = some v → blkOf v = [b] → bl (n + i + 1) = b) →
    ItemsAt a w bl (paramItems ps n) vss ∧ (Item.boxes (paramItems ps n)).map bl = boxBlks ps vs ∧ (∀ k ∈ Item.boxes (paramItems ps n), k < n + ps.length + 1) ∧
    (∀ ms st0, ms.length = vss.length → ∀ k ∈ Item.boxes (paramItems ps n), (lay (paramItems ps n) ms st0).lock k = false → bl k ∈ rwBlks ps vs)
  | [], [], [], n, _, _, _ => ⟨rfl, rfl, by simp [paramItems, Item.boxes], by simp [paramItems, Item.boxes]⟩
  | .val agg c :: ps, v :: vs, l :: vss, n, h, ht, hb => by
    obtain ⟨i1, i2, i3, i4⟩ := paramItems_at (n := n + 1) h.2 (fun i v hi => by have := ht (i + 1) v (by simpa using hi); rw [← this]; congr 1; omega) (fun i v b hi hv => by have := hb (i + 1) v b (by simpa using hi) hv; rw [← this]; congr 1; omega)
    have h0 := ht 0 v rfl
    refine ⟨⟨l, vss, rfl, ?_, i1⟩, by simpa [paramItems, Item.boxes, boxBlks] using i2, fun k hk => ?_, fun ms st0 hl k hk hlk => ?_⟩
    · have h1 := h.1
      cases agg with
      | true => simp only [if_true] at h1 ⊢; rw [show a.tmps.getD n undef = v from h0]; exact h1
      | false => simp only [Bool.false_eq_true, if_false] at h1 ⊢; rw [show a.tmps.getD n undef = v from h0]; exact h1
    · have := i3 k (by simpa [paramItems, Item.boxes] using hk); simp only [List.length_cons]; omega
    · match ms, hl with
      | y :: ms, hl =>
        simp only [paramItems, lay] at hlk
        simpa [rwBlks] using i4 ms _ (by simpa using hl) k (by simpa [paramItems, Item.boxes] using hk) hlk
  | .lent agg c :: ps, v :: vs, l :: vss, n, h, ht, hb => by
    obtain ⟨i1, i2, i3, i4⟩ := paramItems_at (n := n + 1) h.2 (fun i v hi => by have := ht (i + 1) v (by simpa using hi); rw [← this]; congr 1; omega) (fun i v b hi hv => by have := hb (i + 1) v b (by simpa using hi) hv; rw [← this]; congr 1; omega)
    have h0 := ht 0 v rfl
    refine ⟨⟨l, vss, rfl, ?_, i1⟩, by simpa [paramItems, Item.boxes, boxBlks] using i2, fun k hk => ?_, fun ms st0 hl k hk hlk => ?_⟩
    · have h1 := h.1
      cases agg with
      | true => simp only [if_true] at h1 ⊢; rw [show a.tmps.getD n undef = v from h0]; exact h1
      | false => simp only [Bool.false_eq_true, if_false] at h1 ⊢; rw [show a.tmps.getD n undef = v from h0]; exact h1
    · have := i3 k (by simpa [paramItems, Item.boxes] using hk); simp only [List.length_cons]; omega
    · match ms, hl with
      | y :: ms, hl =>
        simp only [paramItems, lay] at hlk
        simpa [rwBlks] using i4 ms _ (by simpa using hl) k (by simpa [paramItems, Item.boxes] using hk) hlk
  | .give agg c :: ps, v :: vs, l :: vss, n, h, ht, hb => by
    obtain ⟨i1, i2, i3, i4⟩ := paramItems_at (n := n + 1) h.2 (fun i v hi => by have := ht (i + 1) v (by simpa using hi); rw [← this]; congr 1; omega) (fun i v b hi hv => by have := hb (i + 1) v b (by simpa using hi) hv; rw [← this]; congr 1; omega)
    have h0 := ht 0 v rfl
    refine ⟨⟨l, vss, rfl, ?_, i1⟩, by simpa [paramItems, Item.boxes, boxBlks] using i2, fun k hk => ?_, fun ms st0 hl k hk hlk => ?_⟩
    · have h1 := h.1
      cases agg with
      | true => simp only [if_true] at h1 ⊢; rw [show a.tmps.getD n undef = v from h0]; exact h1
      | false => simp only [Bool.false_eq_true, if_false] at h1 ⊢; rw [show a.tmps.getD n undef = v from h0]; exact h1
    · have := i3 k (by simpa [paramItems, Item.boxes] using hk); simp only [List.length_cons]; omega
    · match ms, hl with
      | y :: ms, hl =>
        simp only [paramItems, lay] at hlk
        simpa [rwBlks] using i4 ms _ (by simpa using hl) k (by simpa [paramItems, Item.boxes] using hk) hlk
  | .box t c own rw :: ps, v :: vs, l :: vss, n, h, ht, hb => by
    obtain ⟨i1, i2, i3, i4⟩ := paramItems_at (n := n + 1) h.2 (fun i v hi => by have := ht (i + 1) v (by simpa using hi); rw [← this]; congr 1; omega) (fun i v b hi hv => by have := hb (i + 1) v b (by simpa using hi) hv; rw [← this]; congr 1; omega)
    have h0 := ht 0 v rfl
    obtain ⟨⟨b, rfl, hc⟩, _⟩ := h
    have hbl : bl (n + 1) = b := hb 0 _ b rfl rfl
    refine ⟨⟨by rw [show a.tmps.getD n undef = _ from h0, hbl], l, vss, rfl, by rw [hbl]; exact hc, i1⟩, by simpa [paramItems, Item.boxes, boxBlks, blkOf, hbl] using i2, fun k hk => ?_, fun ms st0 hl k hk hlk => ?_⟩
    · simp only [paramItems, Item.boxes, List.mem_cons] at hk
      simp only [List.length_cons]
      rcases hk with rfl | hk
      · omega
      · have := i3 k hk; omega
    · match ms, hl with
      | y :: ms, hl =>
        simp only [paramItems, lay] at hlk
        simp only [paramItems, Item.boxes, List.mem_cons] at hk
        rcases hk with rfl | hk
        · cases rw with
          | true => simp [rwBlks, blkOf, hbl]
          | false =>
            simp only [Bool.not_false, cond_true] at hlk
            have := (lay_used (paramItems ps (n + 1)) ms ((((st0.put n (.one (.ptr (n + 1) 0))).setBox (n + 1) (t, y)).use (n + 1)).bar (n + 1)) (n + 1)).2.1 (by simp [St.bar])
            rw [this] at hlk; cases hlk
        · simp only [rwBlks, List.mem_append]
          exact .inr (i4 ms _ (by simpa using hl) k hk hlk)
  | .clo f fst t c :: ps, v :: vs, l :: vss, n, h, ht, hb => by
    obtain ⟨i1, i2, i3, i4⟩ := paramItems_at (n := n + 1) h.2 (fun i v hi => by have := ht (i + 1) v (by simpa using hi); rw [← this]; congr 1; omega) (fun i v b hi hv => by have := hb (i + 1) v b (by simpa using hi) hv; rw [← this]; congr 1; omega)
    have h0 := ht 0 v rfl
    obtain ⟨⟨b, rfl, hc⟩, _⟩ := h
    have hbo : blkOf (.func (.func f) (cond fst #[.pointer (some ⟨b, 0, none⟩)] #[]) (cond fst #[] #[.pointer (some ⟨b, 0, none⟩)])) = [b] := by cases fst <;> rfl
    have hbl : bl (n + 1) = b := hb 0 _ b rfl hbo
    refine ⟨⟨by rw [show a.tmps.getD n undef = _ from h0, hbl], l, vss, rfl, by rw [hbl]; exact hc, i1⟩, by simp only [paramItems, Item.boxes, boxBlks, hbo, List.map_cons, hbl, i2]; rfl, fun k hk => ?_, fun ms st0 hl k hk hlk => ?_⟩
    · simp only [paramItems, Item.boxes, List.mem_cons] at hk
      simp only [List.length_cons]
      rcases hk with rfl | hk
      · omega
      · have := i3 k hk; omega
    · match ms, hl with
      | y :: ms, hl =>
        simp only [paramItems, lay] at hlk
        simp only [paramItems, Item.boxes, List.mem_cons] at hk
        rcases hk with rfl | hk
        · have := (lay_used (paramItems ps (n + 1)) ms ((((st0.put n (.one (.fn f fst [(n + 1, 0)]))).setBox (n + 1) (t, y)).use (n + 1)).bar (n + 1)) (n + 1)).2.1 (by simp [St.bar])
          simp only [cond_true] at hlk
          rw [this] at hlk; cases hlk
        · simp only [rwBlks]
          exact i4 ms _ (by simpa using hl) k hk hlk
  | [], [], _ :: _, _, h, _, _ => h.elim
  | [], _ :: _, [], _, h, _, _ => h.elim
  | [], _ :: _, _ :: _, _, h, _, _ => h.elim
  | .lent _ _ :: _, [], [], _, h, _, _ => h.elim
  | .lent _ _ :: _, [], _ :: _, _, h, _, _ => h.elim
  | .lent _ _ :: _, _ :: _, [], _, h, _, _ => h.elim
  | .give _ _ :: _, [], [], _, h, _, _ => h.elim
  | .give _ _ :: _, [], _ :: _, _, h, _, _ => h.elim
  | .give _ _ :: _, _ :: _, [], _, h, _, _ => h.elim
  | .clo _ _ _ _ :: _, [], [], _, h, _, _ => h.elim
  | .clo _ _ _ _ :: _, [], _ :: _, _, h, _, _ => h.elim
  | .clo _ _ _ _ :: _, _ :: _, [], _, h, _, _ => h.elim
  | .val _ _ :: _, [], [], _, h, _, _ => h.elim
  | .val _ _ :: _, [], _ :: _, _, h, _, _ => h.elim
  | .val _ _ :: _, _ :: _, [], _, h, _, _ => h.elim
  | .box _ _ _ _ :: _, [], [], _, h, _, _ => h.elim
  | .box _ _ _ _ :: _, [], _ :: _, _, h, _, _ => h.elim
  | .box _ _ _ _ :: _, _ :: _, [], _, h, _, _ => h.elim

theorem ArgsAt.length : ∀ {ps : List PK} {vs : List Value} {vss : List (List Value)}, ArgsAt w ps vs vss → vs.length = ps.length ∧ vss.length = ps.length
  | [], [], [], _ => ⟨rfl, rfl⟩
  | .val _ _ :: ps, _ :: vs, _ :: vss, h => by have := ArgsAt.length h.2; simp [this.1, this.2]
  | .lent _ _ :: ps, _ :: vs, _ :: vss, h => by have := ArgsAt.length h.2; simp [this.1, this.2]
  | .lent _ _ :: _, [], [], h => h.elim
  | .lent _ _ :: _, [], _ :: _, h => h.elim
  | .lent _ _ :: _, _ :: _, [], h => h.elim
  | .give _ _ :: ps, _ :: vs, _ :: vss, h => by have := ArgsAt.length h.2; simp [this.1, this.2]
  | .give _ _ :: _, [], [], h => h.elim
  | .give _ _ :: _, [], _ :: _, h => h.elim
  | .give _ _ :: _, _ :: _, [], h => h.elim
  | .clo _ _ _ _ :: ps, _ :: vs, _ :: vss, h => by have := ArgsAt.length h.2; simp [this.1, this.2]
  | .clo _ _ _ _ :: _, [], [], h => h.elim
  | .clo _ _ _ _ :: _, [], _ :: _, h => h.elim
  | .clo _ _ _ _ :: _, _ :: _, [], h => h.elim
  | .box _ _ _ _ :: ps, _ :: vs, _ :: vss, h => by have := ArgsAt.length h.2; simp [this.1, this.2]
  | [], [], _ :: _, h => h.elim
  | [], _ :: _, [], h => h.elim
  | [], _ :: _, _ :: _, h => h.elim
  | .val _ _ :: _, [], [], h => h.elim
  | .val _ _ :: _, [], _ :: _, h => h.elim
  | .val _ _ :: _, _ :: _, [], h => h.elim
  | .box _ _ _ _ :: _, [], [], h => h.elim
  | .box _ _ _ _ :: _, [], _ :: _, h => h.elim
  | .box _ _ _ _ :: _, _ :: _, [], h => h.elim

theorem inj_of_nodup_map {α β : Type} {f : α → β} : ∀ {l : List α}, (l.map f).Nodup → ∀ x y, x ∈ l → y ∈ l → f x = f y → x = y
  | [], _, x, _, hx, _, _ => by simp at hx
  | z :: l, h, x, y, hx, hy, he => by
    simp only [List.map_cons, List.nodup_cons] at h
    rcases List.mem_cons.1 hx with hx' | hx' <;> rcases List.mem_cons.1 hy with hy' | hy'
    · rw [hx', hy']
    · exact (h.1 (List.mem_map.2 ⟨y, hy', by rw [← he, hx']⟩)).elim
    · exact (h.1 (List.mem_map.2 ⟨x, hx', by rw [he, hy']⟩)).elim
    · exact inj_of_nodup_map h.2 x y hx' hy' he

theorem box_lt : ∀ {ps : List PK} {vs : List Value} {vss : List (List Value)}, ArgsAt w ps vs vss → ∀ b ∈ boxBlks ps vs, b < w.heap.size
  | [], _, _, _, b, hb => by simp [boxBlks] at hb
  | .val _ _ :: ps, v :: vs, l :: vss, h, b, hb => box_lt h.2 b (by simpa [boxBlks] using hb)
  | .lent _ _ :: ps, v :: vs, l :: vss, h, b, hb => box_lt h.2 b (by simpa [boxBlks] using hb)
  | .lent _ _ :: _, [], _, _, b, hb => by simp [boxBlks] at hb
  | .lent _ _ :: _, _ :: _, [], h, _, _ => h.elim
  | .give _ _ :: ps, v :: vs, l :: vss, h, b, hb => box_lt h.2 b (by simpa [boxBlks] using hb)
  | .give _ _ :: _, [], _, _, b, hb => by simp [boxBlks] at hb
  | .give _ _ :: _, _ :: _, [], h, _, _ => h.elim
  | .clo f fst t c :: ps, v :: vs, l :: vss, h, b, hb => by
    obtain ⟨⟨b', rfl, hc⟩, h⟩ := h
    have hbo : blkOf (.func (.func f) (cond fst #[.pointer (some ⟨b', 0, none⟩)] #[]) (cond fst #[] #[.pointer (some ⟨b', 0, none⟩)])) = [b'] := by cases fst <;> rfl
    simp only [boxBlks, hbo, List.mem_append, List.mem_singleton] at hb
    rcases hb with rfl | hb
    · exact (Array.getElem?_eq_some_iff.1 hc).1
    · exact box_lt h b hb
  | .clo _ _ _ _ :: _, [], _, _, b, hb => by simp [boxBlks] at hb
  | .clo _ _ _ _ :: _, _ :: _, [], h, _, _ => h.elim
  | .box t c own rw :: ps, v :: vs, l :: vss, h, b, hb => by
    obtain ⟨⟨b', rfl, hc⟩, h⟩ := h
    simp only [boxBlks, blkOf, List.mem_append, List.mem_singleton] at hb
    rcases hb with rfl | hb
    · exact (Array.getElem?_eq_some_iff.1 hc).1
    · exact box_lt h b hb
  | .val _ _ :: _, [], _, _, b, hb => by simp [boxBlks] at hb
  | .box _ _ _ _ :: _, [], _, _, b, hb => by simp [boxBlks] at hb
  | .val _ _ :: _, _ :: _, [], h, _, _ => h.elim
  | .box _ _ _ _ :: _, _ :: _, [], h, _, _ => h.elim

theorem boxParts_some : ∀ {ps : List PK} {n : Nat} {vs : List Value} {vss : List (List Value)} {wa : World} {ls : List (List AC)}, boxParts st ps n = some ls → ArgsAt wa ps vs vss →
    (∀ i v b, vs[i]? = some v → blkOf v = [b] → m.bl (n + i + 1) = b) → ∀ b ∈ rwBlks ps vs, ∃ k, (st.box k).isSome = true ∧ m.bl k = b
  | [], _, _, _, _, _, _, _, _, b, hb => by simp [rwBlks] at hb
  | .val _ _ :: ps, n, v :: vs, l :: vss, wa, ls, hp, ha, hbl, b, hb =>
    boxParts_some (n := n + 1) (by simpa only [boxParts] using hp) ha.2 (fun i v b hi hv => by have := hbl (i + 1) v b (by simpa using hi) hv; rw [← this]; congr 1; omega) b (by simpa [rwBlks] using hb)
  | .give _ _ :: ps, n, v :: vs, l :: vss, wa, ls, hp, ha, hbl, b, hb =>
    boxParts_some (n := n + 1) (by simpa only [boxParts] using hp) ha.2 (fun i v b hi hv => by have := hbl (i + 1) v b (by simpa using hi) hv; rw [← this]; congr 1; omega) b (by simpa [rwBlks] using hb)
  | .clo _ _ _ _ :: ps, n, v :: vs, l :: vss, wa, ls, hp, ha, hbl, b, hb =>
    boxParts_some (n := n + 1) (by simpa only [boxParts] using hp) ha.2 (fun i v b hi hv => by have := hbl (i + 1) v b (by simpa using hi) hv; rw [← this]; congr 1; omega) b (by simpa [rwBlks] using hb)
  | .box t c own rw :: ps, n, v :: vs, l :: vss, wa, ls, hp, ha, hbl, b, hb => by
    have hbl' : ∀ i v b, vs[i]? = some v → blkOf v = [b] → m.bl (n + 1 + i + 1) = b := fun i v b hi hv => by have := hbl (i + 1) v b (by simpa using hi) hv; rw [← this]; congr 1; omega
    obtain ⟨⟨b', rfl, hc⟩, ha⟩ := ha
    simp only [boxParts] at hp
    cases rw with
    | false =>
      simp only [cond_false] at hp
      exact boxParts_some hp ha hbl' b (by simpa [rwBlks] using hb)
    | true =>
      simp only [cond_true] at hp
      split at hp <;> try cases hp
      rename_i t' l' ls' h1 h2
      simp only [rwBlks, if_true, blkOf, List.mem_append, List.mem_singleton] at hb
      rcases hb with rfl | hb
      · exact ⟨n + 1, by simp [h1], hbl 0 _ b rfl rfl⟩
      · exact boxParts_some h2 ha hbl' b hb
  | .lent agg c :: ps, n, v :: vs, l :: vss, wa, ls, hp, ha, hbl, b, hb => by
    simp only [boxParts] at hp
    split at hp <;> try cases hp
    rename_i l1 ls1 h1 h2
    exact boxParts_some (n := n + 1) h2 ha.2 (fun i v b hi hv => by have := hbl (i + 1) v b (by simpa using hi) hv; rw [← this]; congr 1; omega) b (by simpa [rwBlks] using hb)
  | .lent _ _ :: _, _, [], _, _, _, _, _, _, b, hb => by simp [rwBlks] at hb
  | .lent _ _ :: _, _, _ :: _, [], _, _, _, h, _, _, _ => h.elim
  | .give _ _ :: _, _, [], _, _, _, _, _, _, b, hb => by simp [rwBlks] at hb
  | .give _ _ :: _, _, _ :: _, [], _, _, _, h, _, _, _ => h.elim
  | .clo _ _ _ _ :: _, _, [], _, _, _, _, _, _, b, hb => by simp [rwBlks] at hb
  | .clo _ _ _ _ :: _, _, _ :: _, [], _, _, _, h, _, _, _ => h.elim
  | .val _ _ :: _, _, [], _, _, _, _, _, _, b, hb => by simp [rwBlks] at hb
  | .box _ _ _ _ :: _, _, [], _, _, _, _, _, _, b, hb => by simp [rwBlks] at hb
  | .val _ _ :: _, _, _ :: _, [], _, _, _, h, _, _, _ => h.elim
  | .box _ _ _ _ :: _, _, _ :: _, [], _, _, _, h, _, _, _ => h.elim

theorem paramItems_sep_skip {bl : Nat → Nat} {p : PK} {ps : List PK} {v : Value} {vs : List Value} {l : List Value} {vss : List (List Value)} {n : Nat} (h1 : Item.free (paramItems (p :: ps) n) = Item.free (paramItems ps (n + 1))) (h2 : Item.fast (paramItems (p :: ps) n) = Item.fast (paramItems ps (n + 1)))
    (h3 : Item.boxes (paramItems (p :: ps) n) = Item.boxes (paramItems ps (n + 1))) (h4 : rwBlks (p :: ps) (v :: vs) = rwBlks ps vs) (h5 : roBlks (p :: ps) (v :: vs) = roBlks ps vs)
    (h6 : ∀ y ms st, ∃ st', lay (paramItems (p :: ps) n) (y :: ms) st = lay (paramItems ps (n + 1)) ms st')
    (ih : (Item.free (paramItems ps (n + 1))).map bl = rwBlks ps vs ∧ (Item.fast (paramItems ps (n + 1))).map bl = roBlks ps vs ∧ (∀ k ∈ Item.boxes (paramItems ps (n + 1)), k ∈ Item.free (paramItems ps (n + 1)) ∨ k ∈ Item.fast (paramItems ps (n + 1))) ∧
      (∀ ms st0, ms.length = vss.length → ∀ k ∈ Item.fast (paramItems ps (n + 1)), (lay (paramItems ps (n + 1)) ms st0).lock k = true)) :
    (Item.free (paramItems (p :: ps) n)).map bl = rwBlks (p :: ps) (v :: vs) ∧ (Item.fast (paramItems (p :: ps) n)).map bl = roBlks (p :: ps) (v :: vs) ∧ (∀ k ∈ Item.boxes (paramItems (p :: ps) n), k ∈ Item.free (paramItems (p :: ps) n) ∨ k ∈ Item.fast (paramItems (p :: ps) n)) ∧
    (∀ ms st0, ms.length = (l :: vss).length → ∀ k ∈ Item.fast (paramItems (p :: ps) n), (lay (paramItems (p :: ps) n) ms st0).lock k = true) := by
  obtain ⟨i1, i2, i3, i4⟩ := ih
  rw [h1, h2, h3, h4, h5]
  refine ⟨i1, i2, i3, fun ms st0 hl k hk => ?_⟩
  match ms, hl with
  | y :: ms, hl =>
    obtain ⟨st', he⟩ := h6 y ms st0
    rw [he]
    exact i4 ms st' (by simpa using hl) k hk

/-- the boxes of a call: which stay, which are written -/
theorem paramItems_sep {bl : Nat → Nat} : ∀ {ps : List PK} {vs : List Value} {vss : List (List Value)} {n : Nat}, ArgsAt w ps vs vss → (∀ i v b, vs[i]? = some v → blkOf v = [b] → bl (n + i + 1) = b) →
    (Item.free (paramItems ps n)).map bl = rwBlks ps vs ∧ (Item.fast (paramItems ps n)).map bl = roBlks ps vs ∧ (∀ k ∈ Item.boxes (paramItems ps n), k ∈ Item.free (paramItems ps n) ∨ k ∈ Item.fast (paramItems ps n)) ∧
    (∀ ms st0, ms.length = vss.length → ∀ k ∈ Item.fast (paramItems ps n), (lay (paramItems ps n) ms st0).lock k = true)
  | [], [], [], n, _, _ => ⟨rfl, rfl, by simp [paramItems, Item.boxes], by simp [paramItems, Item.fast]⟩
  | .val agg c :: ps, v :: vs, l :: vss, n, h, hb => paramItems_sep_skip (p := .val agg c) (v := v) (l := l) rfl rfl rfl rfl rfl (fun y ms st => ⟨_, rfl⟩) (paramItems_sep (n := n + 1) h.2 (fun i v b hi hv => by have := hb (i + 1) v b (by simpa using hi) hv; rw [← this]; congr 1; omega))
  | .lent agg c :: ps, v :: vs, l :: vss, n, h, hb => paramItems_sep_skip (p := .lent agg c) (v := v) (l := l) rfl rfl rfl rfl rfl (fun y ms st => ⟨_, rfl⟩) (paramItems_sep (n := n + 1) h.2 (fun i v b hi hv => by have := hb (i + 1) v b (by simpa using hi) hv; rw [← this]; congr 1; omega))
  | .give agg c :: ps, v :: vs, l :: vss, n, h, hb => paramItems_sep_skip (p := .give agg c) (v := v) (l := l) rfl rfl rfl rfl rfl (fun y ms st => ⟨_, rfl⟩) (paramItems_sep (n := n + 1) h.2 (fun i v b hi hv => by have := hb (i + 1) v b (by simpa using hi) hv; rw [← this]; congr 1; omega))
  | .box t c own rw :: ps, v :: vs, l :: vss, n, h, hb => by
    obtain ⟨i1, i2, i3, i4⟩ := paramItems_sep (n := n + 1) h.2 (fun i v b hi hv => by have := hb (i + 1) v b (by simpa using hi) hv; rw [← this]; congr 1; omega)
    obtain ⟨⟨b, rfl, hc⟩, _⟩ := h
    have hbl : bl (n + 1) = b := hb 0 _ b rfl rfl
    cases rw with
    | true =>
      refine ⟨by simp [paramItems, Item.free, rwBlks, blkOf, hbl, i1], by simpa [paramItems, Item.fast, roBlks] using i2, fun k hk => ?_, fun ms st0 hl k hk => ?_⟩
      · simp only [paramItems, Item.boxes, List.mem_cons] at hk
        rcases hk with rfl | hk
        · exact .inl (by simp [paramItems, Item.free])
        · exact (i3 k hk).imp (fun h => by simp [paramItems, Item.free, h]) (fun h => by simpa [paramItems, Item.fast] using h)
      · match ms, hl with
        | y :: ms, hl => exact i4 ms _ (by simpa using hl) k (by simpa [paramItems, Item.fast] using hk)
    | false =>
      refine ⟨by simpa [paramItems, Item.free, rwBlks] using i1, by simp [paramItems, Item.fast, roBlks, blkOf, hbl, i2], fun k hk => ?_, fun ms st0 hl k hk => ?_⟩
      · simp only [paramItems, Item.boxes, List.mem_cons] at hk
        rcases hk with rfl | hk
        · exact .inr (by simp [paramItems, Item.fast])
        · exact (i3 k hk).imp (fun h => by simpa [paramItems, Item.free] using h) (fun h => by simp [paramItems, Item.fast, h])
      · match ms, hl with
        | y :: ms, hl =>
          simp only [paramItems, Bool.not_false, Item.fast, List.mem_cons] at hk
          rcases hk with rfl | hk
          · exact (lay_used (paramItems ps (n + 1)) ms ((((st0.put n (.one (.ptr (n + 1) 0))).setBox (n + 1) (t, y)).use (n + 1)).bar (n + 1)) (n + 1)).2.1 (by simp [St.bar])
          · exact i4 ms _ (by simpa using hl) k hk
  | .clo f fst t c :: ps, v :: vs, l :: vss, n, h, hb => by
    obtain ⟨i1, i2, i3, i4⟩ := paramItems_sep (n := n + 1) h.2 (fun i v b hi hv => by have := hb (i + 1) v b (by simpa using hi) hv; rw [← this]; congr 1; omega)
    obtain ⟨⟨b, rfl, hc⟩, _⟩ := h
    have hbo : blkOf (.func (.func f) (cond fst #[.pointer (some ⟨b, 0, none⟩)] #[]) (cond fst #[] #[.pointer (some ⟨b, 0, none⟩)])) = [b] := by cases fst <;> rfl
    have hbl : bl (n + 1) = b := hb 0 _ b rfl hbo
    refine ⟨by simpa [paramItems, Item.free, rwBlks] using i1, by simp only [paramItems, Item.fast, roBlks, hbo, List.map_cons, hbl, i2]; rfl, fun k hk => ?_, fun ms st0 hl k hk => ?_⟩
    · simp only [paramItems, Item.boxes, List.mem_cons] at hk
      rcases hk with rfl | hk
      · exact .inr (by simp [paramItems, Item.fast])
      · exact (i3 k hk).imp (fun h => by simpa [paramItems, Item.free] using h) (fun h => by simp [paramItems, Item.fast, h])
    · match ms, hl with
      | y :: ms, hl =>
        simp only [paramItems, Item.fast, List.mem_cons] at hk
        rcases hk with rfl | hk
        · exact (lay_used (paramItems ps (n + 1)) ms ((((st0.put n (.one (.fn f fst [(n + 1, 0)]))).setBox (n + 1) (t, y)).use (n + 1)).bar (n + 1)) (n + 1)).2.1 (by simp [St.bar])
        · exact i4 ms _ (by simpa using hl) k hk
  | p :: ps, [], vss, n, h, _ => by cases p <;> cases vss <;> exact h.elim
  | p :: ps, _ :: _, [], n, h, _ => by cases p <;> exact h.elim
  | [], _ :: _, vss, n, h, _ => by cases vss <;> exact h.elim
  | [], [], _ :: _, n, h, _ => h.elim

/-- a function whose body the interpreter reads keeps its contract -/
theorem fnOk_of {E : Env} (hE : EnvOk E) (hmix : E.P.follows .mixedOrders = true) {g : FuncId} {f : Fn} {fn : Func} {ann : Ann} (hfn : E.P.funcs[g]? = some fn)
    (hname : (fn.name == "runtime.NumGoroutine") = false) (hsome : fn.body.isSome = true) (hN : fn.ntmps = E.N) (hps : f.sig.params.length ≤ E.N) (hps2 : f.sig.params.length < 999) (hpin : ∀ d, f.sig.pin d = true → E.pin d = true)
    (hrun : ∀ x, runFn E fn f.sig ann x = f.sem E.k x) : FnOk E.P E.k g f := by
  obtain ⟨cd, hbody⟩ := Option.isSome_iff_exists.1 hsome
  refine ⟨⟨fn, cd, hfn, hname, hbody⟩, ?_⟩
  intro w S vs vss rows x r hsem hargs hparts hS hbn hbn2 hbS hnd hrows hgl
  have hx := hrun x
  rw [hsem] at hx
  unfold runFn at hx
  simp only [hbody] at hx
  obtain ⟨hl1, hl2⟩ := hargs.length
  refine calls_of_wp hfn hbody ?_
  -- the blocks of the boxes
  let bl : Nat → Nat := fun k => match (vs[k - 1]?).map blkOf with | some [b] => b | _ => 0
  have hbl : ∀ i v b, vs[i]? = some v → blkOf v = [b] → bl (0 + i + 1) = b := fun i v b hi hv => by
    show (match (vs[0 + i + 1 - 1]?).map blkOf with | some [b] => b | _ => 0) = b
    rw [show 0 + i + 1 - 1 = i by omega, hi]
    simp [hv]
  let pin : Nat → Option Value := fun t => match f.sig.params[t]? with | some (.lent _ _) => vs[t]? | _ => none
  have hpin0 : ∀ t v, pin t = some v → E.pin t = true ∧ vs[t]? = some v := fun t v ht => by
    simp only [pin] at ht
    split at ht
    · rename_i he
      exact ⟨hpin t (by unfold Sig.pin; rw [he]), ht⟩
    · cases ht
  let a0 : Act := { tmps := vs.toArray ++ Array.replicate (fn.ntmps - vs.toArray.size) undef, defers := [] }
  have ha0 : ∀ i v, vs[i]? = some v → a0.tmps.getD (0 + i) undef = v := fun i v hi => by
    have hlt : i < vs.length := (List.getElem?_eq_some_iff.1 hi).1
    have : a0.tmps[0 + i]? = some v := by
      show (vs.toArray ++ Array.replicate (fn.ntmps - vs.toArray.size) undef)[0 + i]? = some v
      rw [Nat.zero_add, Array.getElem?_append_left (by simpa using hlt)]
      simpa using hi
    rw [Array.getD_eq_getD_getElem?, this]; rfl
  obtain ⟨p1, p2, p3, p4⟩ := paramItems_at (a := a0) (bl := bl) (n := 0) hargs ha0 hbl
  let m0 : Emb := ({ bl := bl, row := fun _ => none, val := fun _ => undef, S := S } : Emb).withRows 0 rows
  have hab := parts_abs (m := m0) (st := lay (paramItems f.sig.params 0) (splitCells f.sig.ins x (0, 0)) .blank) (w := w) (key := 0) ((lay_used _ _ .blank 0).1 rfl) 0 hparts
    (fun j p hj => withRows_get (m := { bl := bl, row := fun _ => none, val := fun _ => undef, S := S }) j p hj)
  have hmemb : ∀ k ∈ Item.boxes (paramItems f.sig.params 0), bl k ∈ boxBlks f.sig.params vs := fun k hk => by rw [← p2]; exact List.mem_map.2 ⟨k, hk, rfl⟩
  have hrel : Rel E.F w.heap.size (fun b => b ∈ rwBlks f.sig.params vs ∨ b ∈ Blks rows) ⟨w, bl, S, pin⟩ m0 (lay (paramItems f.sig.params 0) (splitCells f.sig.ins x (0, 0)) .blank) a0 w := by
    refine lay_rel (rows := rows) rfl rfl hab p1 hS hnd (fun b hb => ?_) (fun k hk => hbS _ (hmemb k hk)) ?_ (fun k hk hlk => ?_) (fun b hb => by rw [← paramItems_ptrs]; exact hb) ⟨rfl, fun t v ht => ⟨(hpin0 t v ht).1, by have := ha0 t v (hpin0 t v ht).2; rwa [Nat.zero_add] at this⟩⟩ ?_ ⟨rfl, rfl, rfl, rfl, Nat.le_refl _, fun _ _ _ => rfl⟩ ⟨fun _ _ => rfl, fun _ h => h, fun _ h => .inl h⟩ ⟨hgl, fun g hg => ⟨hS _ (hgl g hg).1, fun hm => hm.elim (fun h1 => hbS _ (rwBlks_box h1) (hgl g hg).1) fun h1 => (hrows _ h1).1 (hgl g hg).1⟩⟩
    · obtain ⟨h1, h2, h3⟩ := hrows b hb
      exact ⟨h1, h2, .inr (.inr hb), fun k hk he => h3 (he ▸ hmemb k hk)⟩
    · obtain ⟨s1, s2, s3, s4⟩ := paramItems_sep (bl := bl) (n := 0) hargs hbl
      intro k k' hk hk' he
      rcases s3 k hk with h1 | h1 <;> rcases s3 k' hk' with h2 | h2
      · exact .inl (inj_of_nodup_map (f := bl) (by rw [s1]; exact hbn) k k' h1 h2 he)
      · exact absurd (s2 ▸ List.mem_map.2 ⟨k', h2, he.symm⟩) (hbn2 (bl k) (s1 ▸ List.mem_map.2 ⟨k, h1, rfl⟩))
      · exact absurd (s2 ▸ List.mem_map.2 ⟨k, h1, he⟩) (hbn2 (bl k') (s1 ▸ List.mem_map.2 ⟨k', h2, rfl⟩))
      · exact .inr ⟨s4 _ _ (by rw [hab.length]) k h1, s4 _ _ (by rw [hab.length]) k' h2⟩
    · exact .inr (.inl (p4 _ _ (by rw [hab.length]) k hk hlk))
    · show (vs.toArray ++ Array.replicate (fn.ntmps - vs.toArray.size) undef).size = E.N
      simp only [Array.size_append, List.size_toArray, Array.size_replicate]
      omega
  -- the end
  have hend : ∀ m' st' a' w', Rel E.F w.heap.size (fun b => b ∈ rwBlks f.sig.params vs ∨ b ∈ Blks rows) ⟨w, bl, S, pin⟩ m' st' a' w' → retO E fn f.sig st' = some r →
      a'.defers = [] ∧ ∃ v, (results fn a'.tmps).run E.P w' = .ok v w' ∧ ∃ rv S' vr vo rows', Ending.returned v = .returned rv ∧ Frm w.heap.size (fun b => b ∈ rwBlks f.sig.params vs ∨ b ∈ Blks rows) w w' ∧
      (∀ b, S b → S' b) ∧ (∀ b, S' b → S b ∨ b ∈ Blks rows ∨ w.heap.size ≤ b) ∧ (∀ b, S' b → b < w'.heap.size) ∧
      PartsRd w' S' f.sig.outs r (vr ++ vo) rows' ∧ ResAt f.sig.res rv vr ∧ OutsAt w' f.sig.params vs vo ∧
      (Blks rows').Nodup ∧ ∀ b ∈ Blks rows', ¬ S' b ∧ b < w'.heap.size ∧ b ∉ boxBlks f.sig.params vs ∧ (b ∈ Blks rows ∨ w.heap.size ≤ b) := by
    intro m' st' a' w' h' hret
    unfold retO at hret
    split at hret
    case h_2 => cases hret
    rename_i pa pb hpa hpb
    have hok : partsOk st' f.sig.outs (pa ++ pb) = true := by
      cases hb : partsOk st' f.sig.outs (pa ++ pb) with
      | true => rfl
      | false => rw [hb] at hret; cases hret
    rw [hok] at hret
    simp only [cond_true] at hret
    obtain ⟨us, vr, q1, q2, q3⟩ := resParts_rel h' hpa
    obtain ⟨vo, q4, q5⟩ := boxParts_rel h' hpb hargs (by omega) hbl (fun i v agg c h1 h2 => by show pin (0 + i) = some v; simp only [pin, Nat.zero_add, h1]; exact h2)
    obtain ⟨rows', b1, b2, b3, b4, b5, b6, b7, b8⟩ := handed h'.mem hok hret (All2.append q3 q5)
    have hrwS := boxParts_some hpb hargs (fun i v b hi hv => (h'.fix.1 (0 + i + 1) (by have := (List.getElem?_eq_some_iff.1 hi).1; omega)).trans (hbl i v b hi hv))
    have hboxlt := box_lt hargs
    have hmod : ∀ b, (w.heap.size ≤ b ∨ b ∈ rwBlks f.sig.params vs ∨ b ∈ Blks rows) → (∀ k, (st'.box k).isSome = true → m'.bl k ≠ b) → b ∉ boxBlks f.sig.params vs ∧ (b ∈ Blks rows ∨ w.heap.size ≤ b) := fun b hb hne => by
      have hnrw : b ∉ rwBlks f.sig.params vs := fun hc => by
        obtain ⟨k, hk, he⟩ := hrwS b hc
        exact hne k hk he
      have h2 : b ∈ Blks rows ∨ w.heap.size ≤ b := by
        rcases hb with hb | hb | hb
        · exact .inr hb
        · exact absurd hb hnrw
        · exact .inl hb
      refine ⟨fun hc => ?_, h2⟩
      rcases h2 with h2 | h2
      · exact (hrows b h2).2.2 hc
      · have := hboxlt b hc; omega
    refine ⟨h'.defers.1, _, run_results q1, _, m'.lent (roIds f.sig.outs (pa ++ pb)), vr, vo, rows', rfl, h'.frm, fun b hb => .inl (h'.fix.2.1 b hb), fun b hb => ?_, b4, b1, resAt_of q2, q4, b2, fun b hb => ?_⟩
    · have hnbox : ∀ k, (st'.box k).isSome = true → m'.bl k ≠ b := fun k hk he => by rw [← he] at hb; exact b6 k hk hb
      have hb' : S b ∨ w.heap.size ≤ b ∨ b ∈ rwBlks f.sig.params vs ∨ b ∈ Blks rows := by
        rcases hb with hb | ⟨id, hi, hb⟩
        · exact h'.fix.2.2 b hb
        · exact .inr (h'.mem.row id b hb (b7 id hi).1).2.1
      rcases hb' with hb' | hb'
      · exact .inl hb'
      · exact .inr (hmod b hb' hnbox).2
    · obtain ⟨c1, c2, c3, c4⟩ := b5 b hb
      obtain ⟨d1, d2⟩ := hmod b c3 c4
      exact ⟨c1, c2, d1, d2⟩
  refine interp_sound hE hmix ann cd _ _ r m0 a0 w _ hx hrel ?_ ?_ ?_
  · intro m' st' a' w' h' hK'
    exact hend m' st' a' w' h' hK'
  · intro id m' st' a' w' h' hK'; cases hK'
  · intro o m' st' a' w' h' ho hK'
    simp only [Option.some.injEq] at hK'; subst hK'
    exact hend m' st' a' w' h' ho
end

/-- the contracts that a function leans on -/
def look : List (FuncId × Fn) → FuncId → Option Fn
  | [], _ => none
  | (g, f) :: l, h => bif Nat.beq h g then some f else look l h

theorem look_nil {P : Program} {k : Nat} : ∀ g f, look [] g = some f → FnOk P k g f := fun _ _ h => by cases h

theorem look_cons {P : Program} {k : Nat} {g : FuncId} {f : Fn} {l : List (FuncId × Fn)} (hf : FnOk P k g f) (hl : ∀ g f, look l g = some f → FnOk P k g f) : ∀ g' f', look ((g, f) :: l) g' = some f' → FnOk P k g' f' := by
  intro g' f' h
  unfold look at h
  cases hb : Nat.beq g' g with
  | true =>
    rw [hb] at h
    simp only [cond_true, Option.some.injEq] at h
    subst h
    rw [Nat.eq_of_beq_eq_true hb]
    exact hf
  | false =>
    rw [hb] at h
    exact hl g' f' h
end Go.Proofs.Ytjokcjlpciecoaa.Rx
