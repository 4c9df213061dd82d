/- A part of the evaluator and its soundness: Pack. No condition beside those that each theorem states. -/
import Derived.Test.YtjokcjlpciecoaaRxQuiet4
set_option linter.unusedSimpArgs false
set_option linter.unusedVariables false
namespace Go.Proofs.Ytjokcjlpciecoaa.Rx

section
variable {E : Env} {base : Nat} {Mod : Nat → Prop} {w0 : Org} {m : Emb} {st : St} {a : Act} {w : World} {key : Nat} {o : Oper} {R : Type} {K : AV → Option R} {r : R}

theorem castList_spec {c' c : CK} {xs : List c'.T} {ys : List c.T} (h : castList c' c xs = some ys) : ∃ he : c' = c, ys = he ▸ xs := by
  unfold castList at h
  split at h
  · rename_i he; simp only [Option.some.injEq] at h; exact ⟨he, h.symm⟩
  · cases h

theorem AC.ids_cons (x : AC) (l : List AC) : AC.ids (x :: l) = AC.ids [x] ++ AC.ids l := by
  cases x with
  | sl id own => cases own <;> simp [AC.ids]
  | _ => simp [AC.ids]

theorem AC.ids_append : ∀ (l l' : List AC), AC.ids (l ++ l') = AC.ids l ++ AC.ids l'
  | [], l' => by simp [AC.ids]
  | x :: l, l' => by
    rw [List.cons_append, AC.ids_cons, AC.ids_cons x l, AC.ids_append l l', List.append_assoc]

theorem ofCells_int {k : IntKind} {l rest : List AC} {x : (CK.int k).T} (h : ofCells (.int k) l = some (x, rest)) : l = .int k x :: rest := by
  cases l with
  | nil => simp [ofCells] at h
  | cons y l =>
    cases y <;> simp only [ofCells] at h <;> try (cases h; done)
    split at h
    · rename_i he; subst he; cases h; rfl
    · cases h

theorem ofCells_bool {l rest : List AC} {x : CK.bool.T} (h : ofCells .bool l = some (x, rest)) : l = .bool x :: rest := by
  cases l with
  | nil => simp [ofCells] at h
  | cons y l =>
    cases y <;> simp only [ofCells] at h <;> try (cases h; done)
    cases h; rfl

theorem ofCells_str {l rest : List AC} {x : CK.str.T} (h : ofCells .str l = some (x, rest)) : l = .str x :: rest := by
  cases l with
  | nil => simp [ofCells] at h
  | cons y l =>
    cases y <;> simp only [ofCells] at h <;> try (cases h; done)
    cases h; rfl

theorem ofCells_unit {l rest : List AC} {x : CK.unit.T} (h : ofCells .unit l = some (x, rest)) : l = rest := by
  simp only [ofCells] at h; cases h; rfl

theorem ofCells_anyc {l rest : List AC} {x : CK.any.T} (h : ofCells .any l = some (x, rest)) : ∃ y, l = y :: rest := by
  cases l with
  | nil => simp [ofCells] at h
  | cons y l => simp only [ofCells] at h; cases h; exact ⟨y, rfl⟩

theorem ofCells_arr {k : IntKind} {n : Nat} {l rest : List AC} {x : (CK.arr k n).T} (h : ofCells (.arr k n) l = some (x, rest)) : List.length (α := Int) x = n ∧ l = List.map (AC.int k) x ++ rest :=
  by unfold ofCells at h; exact intsOf_spec h

theorem arr_rd {w : World} {S : Nat → Prop} {k : IntKind} {n : Nat} {x : List Int} (h : x.length = n) : RdT w S (.arr k n) x (x.map (Value.int k)) := by
  subst h; exact (range_getD _ _ _).symm

theorem ints_ids {k : IntKind} : ∀ {x : List Int} {l : List AC}, AC.ids (x.map (AC.int k) ++ l) = AC.ids l
  | [], _ => rfl
  | _ :: x, _ => ints_ids (x := x)

theorem ofCells_arr_rd {k : IntKind} {n : Nat} {l rest : List AC} {x : (CK.arr k n).T} {vs : List Value} (h : ofCells (.arr k n) l = some (x, rest)) (hr : All2 (RelAC m st w) l vs) :
    ∃ l1 vs1 vs2, l = l1 ++ rest ∧ AC.ids l1 = [] ∧ vs = vs1 ++ vs2 ∧ (∀ (w' : World) (S : Nat → Prop), RdT w' S (.arr k n) x vs1) ∧ All2 (RelAC m st w) rest vs2 := by
  obtain ⟨h1, rfl⟩ := ofCells_arr h
  obtain ⟨m1, m2, rfl, hr1, hr2⟩ := All2.split hr
  rw [ints_rel hr1]
  exact ⟨_, _, _, rfl, by simpa [AC.ids] using ints_ids (k := k) (x := x) (l := []), rfl, fun w' S => arr_rd h1, hr2⟩

/-- a slice that may be read -/
theorem sl_rd {S' : Nat → Prop} (hS : ∀ b, m.S b → S' b) {id : Id} {own vw : Bool} {e : TypeId} {c : CK} {xs : List c.T} {src : Loc} {v : Value}
    (h : RelAC m st w (.sl id own vw e c xs src) v) (hd : own = true → st.dead id = false ∧ ∀ b, m.row id = some b → S' b) :
    ∃ a n cap, v = .slice a n cap ∧ RdRow w S' (RdT w S' c) c.size xs a n cap := by
  obtain ⟨_, _, hh⟩ := h
  cases own with
  | false =>
    obtain ⟨a, n, cap, rfl, hrd⟩ := hh
    exact ⟨a, n, cap, rfl, hrd.mono hS (fun _ _ => rfl) fun x l => RdT.mono hS fun _ _ => rfl⟩
  | true =>
    simp only [if_true] at hh
    obtain ⟨hd1, hd2⟩ := hd rfl
    rcases hh with hh | ⟨a, n, cap, rfl, hrd, _⟩
    · simp [hd1] at hh
    · exact ⟨a, n, cap, rfl, hrd.mono (fun b hb => hd2 b hb) (fun _ _ => rfl) fun x l => RdT.mono hS fun _ _ => rfl⟩

theorem ofCells_rd {S' : Nat → Prop} (hS : ∀ b, m.S b → S' b) : ∀ {c : CK} {l rest : List AC} {x : c.T} {vs : List Value}, ofCells c l = some (x, rest) → All2 (RelAC m st w) l vs →
    (∀ id ∈ AC.ids l, st.dead id = false ∧ ∀ b, m.row id = some b → S' b) →
    ∃ l1 vs1 vs2, l = l1 ++ rest ∧ vs = vs1 ++ vs2 ∧ RdT w S' c x vs1 ∧ All2 (RelAC m st w) rest vs2
  | .unit, l, rest, x, vs, h, hr, _ => by
    obtain rfl := ofCells_unit h
    exact ⟨[], [], vs, rfl, rfl, rfl, hr⟩
  | .int k, l, rest, x, vs, h, hr, _ => by
    obtain rfl := ofCells_int h
    match vs, hr with
    | v :: vs, hr => exact ⟨[_], [v], vs, rfl, rfl, by have h1 : v = .int k x := hr.1; rw [h1]; rfl, hr.2⟩
  | .bool, l, rest, x, vs, h, hr, _ => by
    obtain rfl := ofCells_bool h
    match vs, hr with
    | v :: vs, hr => exact ⟨[_], [v], vs, rfl, rfl, by have h1 : v = .bool x := hr.1; rw [h1]; rfl, hr.2⟩
  | .str, l, rest, x, vs, h, hr, _ => by
    obtain rfl := ofCells_str h
    match vs, hr with
    | v :: vs, hr => exact ⟨[_], [v], vs, rfl, rfl, by have h1 : v = .string x := hr.1; rw [h1]; rfl, hr.2⟩
  | .sl e c, l, rest, x, vs, h, hr, hid => by
    cases l with
    | nil => simp [ofCells] at h
    | cons y l =>
      match vs, hr with
      | v :: vs, hr =>
        cases y with
        | nil =>
          simp only [ofCells, Option.some.injEq, Prod.mk.injEq] at h
          obtain ⟨rfl, rfl⟩ := h
          have hv : v = .slice none 0 0 := hr.1
          exact ⟨[_], [v], vs, rfl, rfl, ⟨none, 0, 0, by rw [hv], rfl, Nat.le_refl _, rfl⟩, hr.2⟩
        | sl id own vw e' c' xs src =>
          simp only [ofCells] at h
          split at h
          case isFalse => cases h
          obtain ⟨ys, h1, h2⟩ := Option.map_eq_some_iff.1 h
          obtain ⟨he, rfl⟩ := castList_spec h1
          subst he
          simp only [Prod.mk.injEq] at h2
          obtain ⟨rfl, rfl⟩ := h2
          obtain ⟨a, n, cap, rfl, hrd⟩ := sl_rd hS hr.1 fun ho => hid id (by subst ho; simp [AC.ids])
          exact ⟨[_], [_], vs, rfl, rfl, ⟨a, n, cap, rfl, hrd⟩, hr.2⟩
        | _ => simp [ofCells] at h
  | .pair c d, l, rest, x, vs, h, hr, hid => by
    simp only [ofCells] at h
    obtain ⟨⟨x1, r1⟩, h1, h⟩ := Option.bind_eq_some_iff.1 h
    obtain ⟨⟨x2, r2⟩, h2, h⟩ := Option.bind_eq_some_iff.1 h
    simp only [Option.some.injEq, Prod.mk.injEq] at h
    obtain ⟨rfl, rfl⟩ := h
    obtain ⟨l1, v1, v2, rfl, rfl, hr1, hr2⟩ := ofCells_rd hS h1 hr hid
    obtain ⟨l3, v3, v4, rfl, rfl, hr3, hr4⟩ := ofCells_rd hS h2 hr2 fun id hi => hid id (by rw [AC.ids_append]; simp [hi])
    exact ⟨l1 ++ l3, v1 ++ v3, v4, by simp, by simp, ⟨v1, v3, rfl, hr1, hr3⟩, hr4⟩
  | .any, l, rest, x, vs, h, hr, _ => by
    obtain ⟨y, rfl⟩ := ofCells_anyc h
    match vs, hr with
    | v :: vs, hr => exact ⟨[_], [v], vs, rfl, rfl, ⟨v, rfl⟩, hr.2⟩
  | .arr k n, l, rest, x, vs, h, hr, _ => by
    obtain ⟨l1, v1, v2, h1, _, h2, h3, h4⟩ := ofCells_arr_rd h hr
    exact ⟨l1, v1, v2, h1, h2, h3 _ _, h4⟩

/-- all of it -/
theorem ofCells_rd_all {S' : Nat → Prop} (hS : ∀ b, m.S b → S' b) {c : CK} {l : List AC} {x : c.T} {vs : List Value} (h : ofCells c l = some (x, [])) (hr : All2 (RelAC m st w) l vs)
    (hid : ∀ id ∈ AC.ids l, st.dead id = false ∧ ∀ b, m.row id = some b → S' b) : RdT w S' c x vs := by
  obtain ⟨l1, v1, v2, _, rfl, h1, h2⟩ := ofCells_rd hS h hr hid
  have : v2 = [] := by
    cases v2 with
    | nil => rfl
    | cons => exact h2.elim
  simpa [this] using h1

theorem flat_any {S S' : Nat → Prop} {w' : World} : ∀ {c : CK} {x : c.T} {l : List Value}, c.flat = true → RdT w S c x l → RdT w' S' c x l
  | .unit, _, _, _, h => by simpa only [RdT] using h
  | .int _, _, _, _, h => by simpa only [RdT] using h
  | .bool, _, _, _, h => by simpa only [RdT] using h
  | .str, _, _, _, h => by simpa only [RdT] using h
  | .sl _ _, _, _, hf, _ => by simp [CK.flat] at hf
  | .pair a b, _, _, hf, h => by
    simp only [CK.flat, Bool.and_eq_true] at hf
    simp only [RdT] at h ⊢; obtain ⟨l1, l2, rfl, h1, h2⟩ := h
    exact ⟨l1, l2, rfl, flat_any hf.1 h1, flat_any hf.2 h2⟩
  | .any, _, _, hf, _ => by simp [CK.flat] at hf
  | .arr _ _, _, _, _, h => h

/-- flat kinds take no row in -/
theorem ofCells_flat_ids : ∀ {c : CK} {l rest : List AC} {x : c.T}, c.flat = true → ofCells c l = some (x, rest) → AC.ids l = AC.ids rest
  | .unit, l, rest, x, _, h => by obtain rfl := ofCells_unit h; rfl
  | .int k, l, rest, x, _, h => by obtain rfl := ofCells_int h; rfl
  | .bool, l, rest, x, _, h => by obtain rfl := ofCells_bool h; rfl
  | .str, l, rest, x, _, h => by obtain rfl := ofCells_str h; rfl
  | .sl _ _, _, _, _, hf, _ => by simp [CK.flat] at hf
  | .pair a b, l, rest, x, hf, h => by
    simp only [CK.flat, Bool.and_eq_true] at hf
    simp only [ofCells] at h
    obtain ⟨⟨x1, r1⟩, h1, h⟩ := Option.bind_eq_some_iff.1 h
    obtain ⟨⟨x2, r2⟩, h2, h⟩ := Option.bind_eq_some_iff.1 h
    simp only [Option.some.injEq, Prod.mk.injEq] at h
    obtain ⟨_, rfl⟩ := h
    rw [ofCells_flat_ids hf.1 h1, ofCells_flat_ids hf.2 h2]
  | .any, _, _, _, hf, _ => by simp [CK.flat] at hf
  | .arr k n, l, rest, x, _, h => by obtain ⟨_, rfl⟩ := ofCells_arr h; exact ints_ids

theorem rowOf_rd {S' : Nat → Prop} (hS : ∀ b, m.S b → S' b) {c : CK} : ∀ {ls : List (List AC)} {xs : List c.T} {vss : List (List Value)}, rowOf c ls = some xs → All2 (All2 (RelAC m st w)) ls vss →
    (∀ l ∈ ls, ∀ id ∈ AC.ids l, st.dead id = false ∧ ∀ b, m.row id = some b → S' b) → xs.length = ls.length ∧ ∀ (i : Nat) (x : c.T), xs[i]? = some x → ∃ vs : List Value, vss[i]? = some vs ∧ RdT w S' c x vs
  | [], xs, vss, h, _, _ => by
    simp only [rowOf, Option.some.injEq] at h; subst h; simp
  | l :: ls, xs, vs :: vss, h, hr, hid => by
    simp only [rowOf] at h
    split at h <;> try cases h
    rename_i x xs' h1 h2
    obtain ⟨ih1, ih2⟩ := rowOf_rd hS h2 hr.2 fun l hl => hid l (by simp [hl])
    refine ⟨by simp [ih1], fun i y hy => ?_⟩
    cases i with
    | zero =>
      simp only [List.getElem?_cons_zero, Option.some.injEq] at hy; subst hy
      exact ⟨vs, rfl, ofCells_rd_all hS h1 hr.1 (hid l (by simp))⟩
    | succ i => simpa using ih2 i y (by simpa using hy)
  | _ :: _, _, [], _, h, _ => h.elim

/-- parts laid one behind the other -/
theorem fill_seq (size : Nat) : ∀ (vs : List Value) (k : Nat) (arr : Array Value), (k + vs.length) * size ≤ arr.size → (∀ v ∈ vs, v.cells.size = size) →
    ∃ arr', Instr.fill (fun i => some (i * size, size)) arr ((vs.zipIdx k).map fun p => (p.2, p.1)) = some arr' ∧ arr'.size = arr.size ∧
      (∀ p : Nat, p < k * size → arr'[p]? = arr[p]?) ∧ ∀ (q : Nat) (v : Value), vs[q]? = some v → ∀ (j : Nat) (u : Value), v.cells.toList[j]? = some u → arr'[(k + q) * size + j]? = some u
  | [], k, arr, h, _ => ⟨arr, rfl, rfl, fun _ _ => rfl, fun q v hq => by simp at hq⟩
  | v :: vs, k, arr, h, hv => by
    have hvs := hv v (by simp)
    have hk : (k + 1) * size ≤ arr.size := Nat.le_trans (Nat.mul_le_mul_right _ (by simp)) h
    have e1 : (k + 1) * size = k * size + size := by rw [Nat.add_mul]; simp
    rw [e1] at hk
    have key := lay_fold v (k * size) arr (by omega)
    generalize hL : v.cells.zipIdx.foldl (fun cs (c, j) => cs.setIfInBounds (k * size + j) c) arr = arr1 at key
    have hsz : arr1.size = arr.size := by
      rw [← Array.length_toList, key]; simp <;> omega
    obtain ⟨arr', h1, h2, h3, h4⟩ := fill_seq size vs (k + 1) arr1 (by rw [hsz]; rw [show k + 1 + vs.length = k + (v :: vs).length from by simp; omega]; exact h) fun u hu => hv u (by simp [hu])
    refine ⟨arr', ?_, h2.trans hsz, fun p hp => ?_, fun q u hq j x hx => ?_⟩
    · simp only [List.zipIdx_cons, List.map_cons, Instr.fill]
      rw [if_neg]
      · rw [hL]; exact h1
      · simp only [Bool.or_eq_true, decide_eq_true_eq, bne_iff_ne, ne_eq]; omega
    · rw [h3 p (by omega), ← Array.getElem?_toList, key, List.append_assoc, List.getElem?_append_left (by simp; omega), List.getElem?_take, if_pos hp, Array.getElem?_toList]
    · cases q with
      | zero =>
        simp only [List.getElem?_cons_zero, Option.some.injEq] at hq; subst hq
        have hj : j < size := by have := (List.getElem?_eq_some_iff.1 hx).1; simpa [hvs] using this
        rw [Nat.add_zero, h3 _ (by omega), ← Array.getElem?_toList, key, List.append_assoc, List.getElem?_append_right (by simp; omega)]
        have : k * size + j - (arr.toList.take (k * size)).length = j := by simp; omega
        rw [this, List.getElem?_append_left (by simpa [hvs] using hj)]
        exact hx
      | succ q =>
        have := h4 q u (by simpa using hq) j x hx
        rwa [show k + 1 + q = k + (q + 1) from by omega] at this

theorem zip_parts {α : Type} {ps : List (Nat × α)} (h : ps.zipIdx.all (fun p => p.1.1 == p.2) = true) : ∀ (f : α → Value), ps.map (fun p => (p.1, f p.2)) = ((ps.map fun p => f p.2).zipIdx).map fun p => (p.2, p.1) := by
  intro f
  have key : ∀ (ps : List (Nat × α)) (k : Nat), (ps.zipIdx k).all (fun p => p.1.1 == p.2) = true → ps.map (fun p => (p.1, f p.2)) = ((ps.map fun p => f p.2).zipIdx k).map fun p => (p.2, p.1) := by
    intro ps
    induction ps with
    | nil => intro k _; rfl
    | cons p ps ih =>
      intro k hk
      simp only [List.zipIdx_cons, List.all_cons, Bool.and_eq_true, beq_iff_eq] at hk
      simp only [List.map_cons, List.zipIdx_cons, ih (k + 1) hk.2, hk.1]
  exact key ps 0 h

theorem parts_cells (h : Rel E.F base Mod w0 m st a w) : ∀ (ps : List (Nat × Operand)), (∀ p ∈ ps, (opnd st p.2).plain = true) →
    All2 (All2 (RelAC m st w)) (ps.map fun p => (opnd st p.2).cells) (ps.map fun p => (a.eval p.2).cells.toList)
  | [], _ => trivial
  | p :: ps, hp => ⟨plain_cells (hp p (by simp)) (h.opnd _), parts_cells h ps fun q hq => hp q (by simp [hq])⟩

theorem rowOf_sizes {c : CK} : ∀ {ls : List (List AC)} {xs : List c.T}, rowOf c ls = some xs → ∀ l ∈ ls, ∃ x, ofCells c l = some (x, [])
  | [], _, _, l, hl => by simp at hl
  | l :: ls, xs, h, l', hl => by
    simp only [rowOf] at h
    split at h <;> try cases h
    rename_i x xs' h1 h2
    rcases List.mem_cons.1 hl with rfl | hl
    · exact ⟨x, h1⟩
    · exact rowOf_sizes h2 l' hl

/-- a row of given parts -/
theorem run_buildSlice {t e : TypeId} {n : Nat} {parts : Array (Nat × Operand)} {z : List AC} {c : CK} (he : elemT E t = some e) (hz : zeroCells E e = some z) (hn : n = parts.size) (hsz : sizeT E e = c.size) (hpos : 0 < c.size)
    (hb : n * c.size ≤ 16777216) (hidx : parts.toList.zipIdx.all (fun p => p.1.1 == p.2) = true) (hcs : ∀ p ∈ parts.toList, (a.eval p.2).cells.size = c.size) :
    ∃ arr, (Instr.buildSlice t n (parts.map fun (i, x) => (i, a.eval x))).run E.P w = .ok (.slice (some ⟨w.heap.size, 0, none⟩) n n) (w.alloc (.cells arr e)) ∧ arr.size = n * c.size ∧
      ∀ (q : Nat) (p : Nat × Operand), parts.toList[q]? = some p → ∀ (j : Nat) (u : Value), (a.eval p.2).cells.toList[j]? = some u → arr[q * c.size + j]? = some u := by
  obtain ⟨i, zv, hi, hiz, rfl⟩ := zeroCells_spec hz
  have hsi : i.size = c.size := by rw [← hsz]; unfold sizeT Program.cellsOf; simp [hi]
  obtain ⟨arr, h1, h2, _, h4⟩ := fill_seq c.size (parts.toList.map fun p => a.eval p.2) 0 ((Array.range (n * c.size)).map (zv.cells[· % zv.cells.size]!)) (by simp [hn]) (by
    intro v hv
    obtain ⟨p, hp, rfl⟩ := List.mem_map.1 hv
    exact hcs p hp)
  rw [← zip_parts hidx fun x => a.eval x] at h1
  refine ⟨arr, ?_, by rw [h2]; simp, fun q p hp j u hu => ?_⟩
  · have hm : (parts.map fun (i, x) => (i, a.eval x)).toList = parts.toList.map fun p => (p.1, a.eval p.2) := by simp
    have hnb : ¬ (16777216 < n * c.size) := by omega
    by_cases h0 : n * c.size = 0
    · have hn0 : n = 0 := by
        rcases Nat.mul_eq_zero.1 h0 with h | h <;> omega
      subst hn0
      have hp0 : parts = #[] := Array.eq_empty_of_size_eq_zero hn.symm
      subst hp0
      simp only [List.map_nil, Instr.fill, Option.some.injEq, Nat.zero_mul] at h1
      simp [Instr.buildSlice, run_underlying (elemT_spec he), sizeOf, typeInfo, hi, hsi, Instr.fill, newRow, ← h1, Array.range_zero']
    · simp only [Instr.buildSlice, Sem.run_bind, run_underlying (elemT_spec he), Result.andThen_ok, run_sizeOf hi, hsi, hm]
      simp [hnb, h0, zeroValue, typeInfo, hi, hiz, h1, newRow]
  · have := h4 q (a.eval p.2) (by simp [hp]) j u hu
    simpa using this
end
end Go.Proofs.Ytjokcjlpciecoaa.Rx
