/- A part of the evaluator and its soundness: Exec. No condition beside those that each theorem states. -/
import Derived.Test.YtjokcjlpciecoaaRxMk
set_option linter.unusedSimpArgs false
set_option linter.unusedVariables false
namespace Go.Proofs.Ytjokcjlpciecoaa.Rx

section
variable {E : Env} {base : Nat} {Mod : Nat → Prop} {w0 : Org} {m : Emb} {st : St} {a : Act} {w : World} {key : Nat} {o : Oper} {R : Type} {r : R}

theorem eff_buildSlice {K : AV → St → Option R} {t e : TypeId} {n : Nat} {parts : Array (Nat × Operand)} {c : CK} {xs : List c.T} (ho : o.op = .buildSlice t n parts) (h : Rel E.F base Mod w0 m st a w) (hu : st.used key = false)
    (he : elemT E t = some e) (hn : n = parts.size) (hsz : sizeT E e = c.size) (hpos : 0 < c.size) (hb : n * c.size ≤ 16777216) (hz : (zeroCells E e).isSome = true)
    (hidx : parts.toList.zipIdx.all (fun p => p.1.1 == p.2) = true) (hp : parts.all (fun p => (opnd st p.2).plain) = true) (hf : parts.toList.all (fun p => st.fresh (opnd st p.2).cells) = true)
    (hr : rowOf c (parts.toList.map fun p => (opnd st p.2).cells) = some xs) (hK : K (.one (.sl (key, 0) true false e c xs .no)) ((st.use key).freezeAll (parts.toList.flatMap fun p => AC.ids (opnd st p.2).cells)) = some r) :
    Effs E base Mod w0 o a w fun av st' => K av st' = some r := by
  obtain ⟨z, hz⟩ := Option.isSome_iff_exists.1 hz
  have hp' : ∀ p ∈ parts.toList, (opnd st p.2).plain = true := fun p hp' => Array.all_eq_true_iff_forall_mem.1 hp p (by simpa using hp')
  have hf' : ∀ p ∈ parts.toList, st.fresh (opnd st p.2).cells = true := fun p hp' => List.all_eq_true.1 hf p hp'
  obtain ⟨h1, hl1⟩ := freeze_rel (ids := parts.toList.flatMap fun p => AC.ids (opnd st p.2).cells) h
    (fun id hi => by obtain ⟨p, hp1, hp2⟩ := List.mem_flatMap.1 hi; exact ids_used (plain_cells (hp' p hp1) (h.opnd p.2)) id hp2)
    (fun id hi => by obtain ⟨p, hp1, hp2⟩ := List.mem_flatMap.1 hi; exact fresh_spec (hf' p hp1) id hp2)
  obtain ⟨hl, hrd⟩ := rowOf_rd (S' := (m.frozen (parts.toList.flatMap fun p => AC.ids (opnd st p.2).cells)).S) (fun _ h => .inl h) hr (parts_cells h parts.toList hp') fun l hl id hi => by
    obtain ⟨p, hp1, rfl⟩ := List.mem_map.1 hl
    exact ⟨fresh_spec (hf' p hp1) id hi, fun b hb => .inr ⟨id, List.mem_flatMap.2 ⟨p, hp1, hi⟩, hb⟩⟩
  obtain ⟨arr, hrun, hsa, hcell⟩ := run_buildSlice (w := w) (a := a) he hz hn hsz hpos hb hidx (rowOf_part_size h hp' hr)
  have hlen : xs.length = n := by rw [hl]; simp [hn]
  have hus : (st.freezeAll (parts.toList.flatMap fun p => AC.ids (opnd st p.2).cells)).used key = false := by rw [freezeAll_eq]; exact hu
  obtain ⟨h2, h3⟩ := alloc_row (key := key) (e := e) (c := c) (xs := xs) (arr := arr) (cap := n) h1 hus (by omega) (by omega) (fun i x hx => by
    obtain ⟨vs, hv, hrdx⟩ := hrd i x hx
    simp only [List.getElem?_map] at hv
    obtain ⟨p, hp1, hp2⟩ := Option.map_eq_some_iff.1 hv
    exact ⟨vs, hrdx.length, hrdx, fun j v hj => hcell i p hp1 j v (by rw [hp2]; exact hj)⟩)
  rw [hlen] at h2 h3
  have hst : (st.freezeAll (parts.toList.flatMap fun p => AC.ids (opnd st p.2).cells)).use key = (st.use key).freezeAll (parts.toList.flatMap fun p => AC.ids (opnd st p.2).cells) := by
    simp only [freezeAll_eq, St.use]
  rw [hst] at h2 h3
  exact ⟨_, _, _, _, _, _, by simp only [execOp, ho]; simp [hrun], .inl rfl, hK, h3, h2⟩

theorem Vals.wp {K : AV → Option R} {K' : St → Option R} (hv : Vals E base Mod w0 st o a w fun av => K av = some r) (hd : ∀ d, o.dst = some d → d < E.F.1 ∧ E.F.2 d = false) (hK : ∀ av, K av = K' (st.put? o.dst av))
    {next : Act → World → Prop} {Q : Exit → Act → World → Prop} (hn : ∀ m' st' a' w', Rel E.F base Mod w0 m' st' a' w' → K' st' = some r → next a' w') : o.wp E.P a w next Q := by
  obtain ⟨v, w', m', av, h1, h2, h3, h4⟩ := hv
  unfold Oper.wp
  rw [h1]
  exact hn _ _ _ _ (h4.put hd h3) (by rw [← hK]; exact h2)

theorem Effs.wp {K : AV → St → Option R} {K' : St → Option R} (hv : Effs E base Mod w0 o a w fun av st' => K av st' = some r) (hd : ∀ d, o.dst = some d → d < E.F.1 ∧ E.F.2 d = false) (hK : ∀ av st', K av st' = K' (st'.put? o.dst av))
    {next : Act → World → Prop} {Q : Exit → Act → World → Prop} (hn : ∀ m' st' a' w', Rel E.F base Mod w0 m' st' a' w' → K' st' = some r → next a' w') : o.wp E.P a w next Q := by
  obtain ⟨n, v, w', m', av, st', h1, h2, h3, h4, h5⟩ := hv
  unfold Oper.wp
  rw [h1]
  rcases h2 with rfl | ⟨rfl, rfl⟩
  · exact hn _ _ _ _ (h5.put hd h4) (by rw [← hK]; exact h3)
  · exact hn _ _ _ _ (h5.put hd h4) (by rw [← hK]; exact h3)

/-- operands that are integers, and so on -/
theorem one_int (h : Rel E.F base Mod w0 m st a w) {X : Operand} {k : IntKind} {n : Int} (hX : opnd st X = .one (.int k n)) : a.eval X = .int k n := by
  have := h.opnd X; rw [hX] at this; exact this
theorem one_str (h : Rel E.F base Mod w0 m st a w) {X : Operand} {s : ByteArray} (hX : opnd st X = .one (.str s)) : a.eval X = .string s := by
  have := h.opnd X; rw [hX] at this; exact this
theorem one_bool (h : Rel E.F base Mod w0 m st a w) {X : Operand} {b : Bool} (hX : opnd st X = .one (.bool b)) : a.eval X = .bool b := by
  have := h.opnd X; rw [hX] at this; exact this

theorem strT_spec {t : TypeId} (h : strT E t = true) : E.P.underlying t = some .string := by
  unfold strT at h; split at h
  · assumption
  · cases h
theorem boolT_spec {t : TypeId} (h : boolT E t = true) : E.P.underlying t = some .bool := by
  unfold boolT at h; split at h
  · assumption
  · cases h
theorem ptrsL_rel {N : Rim} {base : Nat} {Mod : Nat → Prop} {w0 : Org} {m : Emb} {st : St} {a : Act} {w : World} (h : Rel N base Mod w0 m st a w) : ∀ {xs : List Operand} {l : List (Nat × Nat)}, ptrsL (xs.map (opnd st)) = some l →
    (∀ p ∈ l, (st.box p.1).isSome = true) ∧ xs.map a.eval = l.map (ptrV m)
  | [], l, hl => by
    simp only [List.map_nil, ptrsL, Option.some.injEq] at hl; subst hl
    exact ⟨by simp, rfl⟩
  | x :: xs, l, hl => by
    simp only [List.map_cons] at hl
    unfold ptrsL at hl
    split at hl
    · rename_i he; simp at he
    · rename_i b off l' he
      simp only [List.cons.injEq] at he
      obtain ⟨he, rfl⟩ := he
      obtain ⟨l1, h1, rfl⟩ := Option.map_eq_some_iff.1 hl
      obtain ⟨i1, i2⟩ := ptrsL_rel h h1
      have hx := h.opnd x
      rw [he] at hx
      obtain ⟨hb, hv⟩ := hx
      refine ⟨fun p hp => ?_, by simp [i2, hv, ptrV]⟩
      rcases List.mem_cons.1 hp with rfl | hp
      · exact hb
      · exact i1 p hp
    · cases hl

theorem quiet_makeFunc {f : FuncId} {first caps : Array Operand} {l : List (Nat × Nat)} {K : AV → Option R} (ho : o.op = .makeFunc (.func f) first caps) (hf : first = #[]) (h : Rel E.F base Mod w0 m (st.use key) a w)
    (hl : ptrsL (caps.toList.map (opnd (st.use key))) = some l) (hK : K (.one (.fn f false l)) = some r) : Vals E base Mod w0 (st.use key) o a w fun av => K av = some r := by
  subst hf
  obtain ⟨h1, h2⟩ := ptrsL_rel h hl
  have he : caps.map a.eval = (l.map (ptrV m)).toArray := by apply Array.toList_inj.1; simpa using h2
  refine Vals.now (v := .func (.func f) #[] ((l.map (ptrV m)).toArray)) h ?_ hK ⟨h1, rfl⟩
  simp [execOp, ho, Instr.makeFunc, he]

theorem quiet_makeFunc1 {f : FuncId} {first caps : Array Operand} {l : List (Nat × Nat)} {K : AV → Option R} (ho : o.op = .makeFunc (.func f) first caps) (hf : caps = #[]) (h : Rel E.F base Mod w0 m (st.use key) a w)
    (hl : ptrsL (first.toList.map (opnd (st.use key))) = some l) (hK : K (.one (.fn f true l)) = some r) : Vals E base Mod w0 (st.use key) o a w fun av => K av = some r := by
  subst hf
  obtain ⟨h1, h2⟩ := ptrsL_rel h hl
  have he : first.map a.eval = (l.map (ptrV m)).toArray := by apply Array.toList_inj.1; simpa using h2
  refine Vals.now (v := .func (.func f) ((l.map (ptrV m)).toArray) #[]) h ?_ hK ⟨h1, rfl⟩
  simp [execOp, ho, Instr.makeFunc, he]

/-- the quiet operations, but calls of functions -/
theorem evalQ_vals {K : AV → Option R} (h : Rel E.F base Mod w0 m (st.use key) a w) (h0 : Rel E.F base Mod w0 m st a w) (hu : st.used key = false) (hnc : ∀ c x, o.op = .call c → c.callee = .value x → False)
    (hK : evalQ E key o (st.use key) K = some r) : Vals E base Mod w0 (st.use key) o a w fun av => K av = some r := by
  unfold evalQ at hK
  split at hK
  · exact quiet_move (by assumption) h hK
  · exact quiet_assign (by assumption) h hK
  · split at hK <;> try cases hK
    rename_i hc
    exact quiet_pick (by assumption) h hc hK
  · split at hK <;> try cases hK
    rename_i hc
    exact quiet_nilCheck (by assumption) h hc hK
  · rename_i t X ho
    split at hK
    · rename_i b off hc
      split at hK
      · rename_i T l hb
        exact quiet_load_box ho h hc hb hK
      · cases hK
    · rename_i hc
      exact quiet_load_ep ho h hc hK
    · rename_i hc
      split at hK
      · rename_i hb
        exact quiet_load_pi ho h hc hb hK
      · cases hK
    · cases hK
  · rename_i s X f ho
    split at hK
    · rename_i fd hf
      split at hK
      · cases hK
      · rename_i hz
        exact quiet_fieldAddr ho h hf hz hK
    · cases hK
  · rename_i s X f ho
    split at hK
    · rename_i hf hc
      exact quiet_field ho h hf hc hK
    · cases hK
  · rename_i t X I ho
    split at hK
    · rename_i e id own vw e' c xs src k n he hX hI
      split at hK
      · rename_i hc
        simp only [Bool.and_eq_true, decide_eq_true_eq, beq_iff_eq] at hc
        obtain ⟨⟨rfl, hsz⟩, hpos⟩ := hc
        exact quiet_indexAddr ho h he hX hI hsz hpos hK
      · cases hK
    · rename_i hX hI
      split at hK
      · rename_i he
        exact quiet_indexAddr_pi ho h he hX hI hK
      · cases hK
    · rename_i hX hI
      split at hK
      · rename_i he
        split at hK
        · rename_i hg
          exact quiet_indexAddr_tab ho h he hg hI hK
        · cases hK
      · cases hK
    · cases hK
  · rename_i t X I ho
    split at hK
    · rename_i hX hI
      split at hK
      · rename_i ht
        exact quiet_index ho h (strT_spec ht) hX hI hK
      · cases hK
    · rename_i hX hI
      split at hK
      · rename_i ht
        split at hK
        · rename_i hi
          exact quiet_index_arr ho h ht hX hI hi hK
        · cases hK
      · cases hK
    · cases hK
  · rename_i t X lo hi ho
    split at hK
    · rename_i hX
      split at hK
      · rename_i ht
        split at hK
        · rename_i hl hh
          exact quiet_slice_str ho h (strT_spec ht) hX hl hh hK
        · cases hK
      · cases hK
    · rename_i hX
      split at hK
      · rename_i hc
        simp only [Bool.and_eq_true, decide_eq_true_eq, beq_iff_eq] at hc
        obtain ⟨⟨ht, hsz⟩, hpos⟩ := hc
        split at hK
        · rename_i hl hh
          exact quiet_slice_sl ho h (elemT_spec ht) hX hl hh hsz hpos hK
        · cases hK
      · cases hK
    · cases hK
  · rename_i op t X Y t' ho
    split at hK
    · rename_i hX hY
      split at hK
      · exact quiet_shift ho h (one_int h hX) (one_int h hY) hK
      · rename_i hs
        split at hK
        · rename_i hk; subst hk
          exact quiet_binI ho h (one_int h hX) (one_int h hY) ⟨fun e => hs (.inl e), fun e => hs (.inr e)⟩ hK
        · cases hK
    · rename_i hX hY
      exact quiet_binS ho h (one_str h hX) (one_str h hY) hK
    · rename_i hX hY
      split at hK
      · rename_i ht
        exact quiet_binB ho h (one_bool h hX) (one_bool h hY) (boolT_spec ht) hK
      · cases hK
    · rename_i hX hY
      split at hK
      · rename_i hc
        simp only [Bool.and_eq_true] at hc
        exact quiet_binA ho h hX hY hc.1 hc.2 hK
      · cases hK
    · cases hK
  · exact quiet_unOp (by assumption) h hK
  · rename_i s d X ho
    split at hK
    · rename_i hs hd hX
      exact quiet_convert_int ho h hs hd hX hK
    · rename_i hs hd hX
      exact quiet_convert_str ho h hs hd hX hK
    · rename_i hs hd hX
      split at hK
      · rename_i he
        split at hK
        · cases hK
        · rename_i hdead
          split at hK
          · split at hK
            · rename_i hl
              exact quiet_convert_bytes ho h hs hd he hX (by simpa using hdead) hl hK
            · cases hK
          · cases hK
      · cases hK
    · rename_i hs hd hX
      split at hK
      · rename_i he
        exact quiet_convert_nil ho h hs hd he hX hK
      · cases hK
    · cases hK
  · rename_i t parts ho
    split at hK
    · rename_i hz hu
      split at hK
      · rename_i hc
        simp only [Bool.and_eq_true] at hc
        split at hK
        · rename_i hl
          exact quiet_build_arr ho h hz hu hc.1.1 hc.2 hl hK
        · cases hK
      · cases hK
    · rename_i hz hu
      split at hK
      · rename_i hc
        simp only [Bool.and_eq_true] at hc
        split at hK
        · rename_i hl
          exact quiet_build ho h hz hu hc.1.1 hc.2 hl hK
        · cases hK
      · cases hK
    · cases hK
  · rename_i t n parts ho
    split at hK
    · rename_i e he
      split at hK
      · rename_i c hc
        split at hK
        · rename_i hcc
          simp only [Bool.and_eq_true, decide_eq_true_eq, beq_iff_eq] at hcc
          obtain ⟨⟨⟨⟨⟨⟨⟨hf, hn⟩, hsz⟩, hpos⟩, hb⟩, hz⟩, hidx⟩, hp⟩ := hcc
          split at hK
          · rename_i hr
            exact quiet_buildSlice ho h0 hu he hf hn hsz hpos hb hz hidx hp hr hK
          · cases hK
        · cases hK
      · cases hK
    · cases hK
  · rename_i t l lc ho
    split at hK
    · rename_i e n he hl
      split at hK
      · rename_i c hc
        split at hK
        · rename_i hcc
          simp only [Bool.and_eq_true, decide_eq_true_eq, beq_iff_eq] at hcc
          obtain ⟨⟨⟨⟨hLC, hsz⟩, hpos⟩, hf⟩, hz⟩ := hcc
          exact quiet_makeSlice ho h0 hu hLC he hl hsz hpos hf hz hK
        · cases hK
      · cases hK
    · cases hK
  · rename_i X i ho
    split at hK
    · rename_i hX
      exact quiet_extract ho h hX hK
    · cases hK
  · rename_i c ho
    split at hK
    · rename_i hc
      split at hK
      · rename_i ha ht
        exact quiet_len ho hc ha ht h hK
      · cases hK
    · rename_i hc
      split at hK
      · rename_i ha
        split at hK
        · rename_i hX hY
          exact quiet_minmax (b := true) ho hc ha h hX hY hK
        · cases hK
      · cases hK
    · rename_i hc
      split at hK
      · rename_i ha
        split at hK
        · rename_i hX hY
          exact quiet_minmax (b := false) ho hc ha h hX hY hK
        · cases hK
      · cases hK
    · rename_i hc
      exact (hnc _ _ ho hc).elim
    · rename_i hc
      exact (hnc _ _ ho hc).elim
    · cases hK
  · rename_i f first caps ho
    split at hK
    · rename_i hf
      split at hK
      · rename_i l hl
        exact quiet_makeFunc ho (by simpa using hf) h hl hK
      · cases hK
    · split at hK
      · rename_i hf
        split at hK
        · rename_i l hl
          exact quiet_makeFunc1 ho (by simpa using hf) h hl hK
        · cases hK
      · cases hK
  · cases hK
end
end Go.Proofs.Ytjokcjlpciecoaa.Rx
