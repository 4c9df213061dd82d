/- A part of the evaluator and its soundness: Eff. No condition beside those that each theorem states. -/
import Derived.Test.YtjokcjlpciecoaaRxQuiet5
set_option linter.unusedSimpArgs false
set_option linter.unusedVariables false
namespace Go.Proofs.Ytjokcjlpciecoaa.Rx

/-- what an operation that turns memory comes to -/
def Effs (E : Env) (base : Nat) (Mod : Nat → Prop) (w0 : Org) (o : Oper) (a : Act) (w : World) (K : AV → St → Prop) : Prop :=
  ∃ n v w' m' av st', (execOp a.eval o).run E.P w = .ok n w' ∧ (n = .value v ∨ n = .skip ∧ v = undef) ∧ K av st' ∧ RelAV m' st' w' av v ∧ Rel E.F base Mod w0 m' st' a w'

section
variable {E : Env} {base : Nat} {Mod : Nat → Prop} {w0 : Org} {m : Emb} {st : St} {a : Act} {w : World} {key : Nat} {o : Oper} {R : Type} {K : AV → St → Option R} {r : R}

def Emb.newBox (m : Emb) (k b : Nat) : Emb := { m with bl := fun i => if i = k then b else m.bl i }

theorem setBox_some (st : St) (k : Nat) (x : TypeId × List AC) (j : Nat) : (st.setBox k x).box j = if j = k then some x else st.box j := rfl

theorem alloc_box {t : TypeId} {l : List AC} {arr : Array Value} (hkey : 1000 ≤ key) (h : Rel E.F base Mod w0 m st a w) (hu : st.used key = false) (hl : All2 (RelAC m st w) l arr.toList) :
    Rel E.F base Mod w0 (m.newBox key w.heap.size) ((st.use key).setBox key (t, l)) a (w.alloc (.cells arr t)) ∧
    RelAV (m.newBox key w.heap.size) ((st.use key).setBox key (t, l)) (w.alloc (.cells arr t)) (.one (.ptr key 0)) (.pointer (some ⟨w.heap.size, 0, none⟩)) := by
  have hold : ∀ b, b < w.heap.size → (w.alloc (.cells arr t)).heap[b]? = w.heap[b]? := fun b hb => heap_alloc_old w _ b hb
  have hnew : (w.alloc (.cells arr t)).heap[w.heap.size]? = some (.cells arr t (0, 0)) := heap_alloc_new w _
  have hnone : st.box key = none := by
    cases hb : st.box key with
    | none => rfl
    | some x => have := h.mem.boxU key (by simp [hb]); simp [hu] at this
  have hlat : Later m st w (m.newBox key w.heap.size) ((st.use key).setBox key (t, l)) (w.alloc (.cells arr t)) := by
    refine ⟨fun _ hb => hb, fun b hb => hold b (h.mem.S b hb), fun k hk => by simp [St.use, St.setBox, hk], fun id h1 h2 => ⟨h2, rfl, rfl, fun b hb => hold b (h.mem.row id b hb h2).1⟩, fun k hk => ?_⟩
    have : k ≠ key := fun e => by subst e; simp [hnone] at hk
    exact ⟨by simp [St.setBox, St.use, this, hk], by simp [Emb.newBox, this]⟩
  have hsz : (w.alloc (.cells arr t)).heap.size = w.heap.size + 1 := by show (w.heap.push _).size = _; simp
  have hlt : ∀ k, (st.box k).isSome = true → m.bl k < w.heap.size := fun k hk => by
    obtain ⟨⟨T, l⟩, hkk⟩ := Option.isSome_iff_exists.1 hk
    obtain ⟨arr', h1, _⟩ := h.mem.box k T l hkk
    exact (Array.getElem?_eq_some_iff.1 h1).1
  have hbs : ∀ k, (((st.use key).setBox key (t, l)).box k).isSome = true → k = key ∨ k ≠ key ∧ (st.box k).isSome = true := fun k hk => by
    by_cases e : k = key
    · exact .inl e
    · exact .inr ⟨e, by simpa [setBox_some, St.use, e] using hk⟩
  refine ⟨⟨h.defers, h.size, fun t => RelAV.later hlat (h.slot t), ?_, ?_, ⟨fun k hk => by rw [← h.fix.1 k hk]; exact if_neg (by omega), h.fix.2⟩, h.glob⟩, ?_⟩
  · refine ⟨fun k T l' hk => ?_, fun k hk => ?_, fun k k' hk hk' he => ?_, fun k hk => ?_, fun id b hb hd => ?_, h.mem.rowI, h.mem.rowS, fun id b hb => by simp [St.use, St.setBox, h.mem.rowU id b hb], fun b hb => ?_,
      fun id hi => by simp [St.use, St.setBox, h.mem.iceU id hi], fun id hi => by simp [St.use, St.setBox, h.mem.deadU id hi]⟩
    · rw [setBox_some] at hk
      split at hk
      · rename_i e; subst e
        simp only [Option.some.injEq, Prod.mk.injEq] at hk
        obtain ⟨rfl, rfl⟩ := hk
        exact ⟨arr, by simpa [Emb.newBox] using hnew, RelAC.laters hlat hl⟩
      · rename_i e
        obtain ⟨arr', h1, h2⟩ := h.mem.box k T l' hk
        exact ⟨arr', by simp only [Emb.newBox, e, if_false]; exact (hold _ (Array.getElem?_eq_some_iff.1 h1).1).trans h1, RelAC.laters hlat h2⟩
    · rcases hbs k hk with rfl | ⟨e, hk'⟩
      · simp only [Emb.newBox, if_true]
        exact ⟨fun hs => by have := h.mem.S _ hs; omega, fun _ => .inl (by rw [h.frm.at0]; exact h.frm.size)⟩
      · simp only [Emb.newBox, e, if_false]
        exact h.mem.boxS k hk'
    · rcases hbs k hk with rfl | ⟨e, hk1⟩ <;> rcases hbs k' hk' with rfl | ⟨e', hk2⟩
      · exact .inl rfl
      · simp only [Emb.newBox, if_true, e', if_false] at he; have := hlt k' hk2; omega
      · simp only [Emb.newBox, if_true, e, if_false] at he; have := hlt k hk1; omega
      · simp only [Emb.newBox, e, e', if_false] at he; exact h.mem.boxI k k' hk1 hk2 he
    · rcases hbs k hk with rfl | ⟨e, hk1⟩
      · simp [St.use, St.setBox]
      · simp [St.use, St.setBox, h.mem.boxU k hk1]
    · obtain ⟨h1, h2, h3⟩ := h.mem.row id b hb hd
      refine ⟨by omega, h2, fun k hk => ?_⟩
      rcases hbs k hk with rfl | ⟨e, hk1⟩
      · simp only [Emb.newBox, if_true]; omega
      · simp only [Emb.newBox, e, if_false]; exact h3 k hk1
    · have := h.mem.S b hb; omega
  · refine ⟨h.frm.os, h.frm.tape, h.frm.output, h.frm.at0, by have := h.frm.size; omega, fun k hk hm => ?_⟩
    rw [hold k (by have := h.frm.size; have := h.frm.at0; omega)]
    exact h.frm.block k hk hm
  · exact ⟨by simp [setBox_some], by simp [Emb.newBox]⟩

theorem eff_box {t : TypeId} {X : Operand} {l : List AC} (hkey : 1000 ≤ key) (ho : o.op = .box t X) (h : Rel E.F base Mod w0 m st a w) (hu : st.used key = false) (hp : (opnd st X).plain = true) (hl : (opnd st X).cells = l)
    (hK : K (.one (.ptr key 0)) ((st.use key).setBox key (t, l)) = some r) : Effs E base Mod w0 o a w fun av st' => K av st' = some r := by
  have hc := plain_cells hp (h.opnd X)
  rw [hl] at hc
  obtain ⟨h1, h2⟩ := alloc_box hkey (t := t) h hu hc
  exact ⟨_, _, _, _, _, _, by simp [execOp, ho, Instr.box, newVar, newRow], .inl rfl, hK, h2, h1⟩

theorem eff_alloc {t : TypeId} {l : List AC} (hkey : 1000 ≤ key) (ho : o.op = .alloc t) (h : Rel E.F base Mod w0 m st a w) (hu : st.used key = false) (hz : zeroCells E t = some l)
    (hK : K (.one (.ptr key 0)) ((st.use key).setBox key (t, l)) = some r) : Effs E base Mod w0 o a w fun av st' => K av st' = some r := by
  obtain ⟨i, z, hi, hiz, rfl⟩ := zeroCells_spec hz
  have hrz : All2 (RelAC m st w) (z.cells.toList.map cellOf) z.cells.toList := by
    refine All2.of_get (by simp) fun j x y hx hy => ?_
    simp only [List.getElem?_map, hy, Option.map_some, Option.some.injEq] at hx
    subst hx; exact cellOf_rel y
  obtain ⟨h1, h2⟩ := alloc_box hkey (t := t) h hu hrz
  exact ⟨_, _, _, _, _, _, by simp [execOp, ho, Instr.alloc, zeroValue, typeInfo, hi, hiz, newVar, newRow], .inl rfl, hK, h2, h1⟩

theorem good_one {l : List AC} {vs : List Value} (hg : AC.good l = true) (h : All2 (RelAC m st w) l vs) : ∀ v ∈ vs, v.oneCell' = true := by
  induction l generalizing vs with
  | nil => cases vs with
    | nil => simp
    | cons => exact h.elim
  | cons x l ih => cases vs with
    | nil => exact h.elim
    | cons v vs =>
      have hg' : AC.good l = true ∧ x.isBad = false := by
        simp only [AC.good, Bool.and_eq_true, Bool.not_eq_true'] at hg
        exact ⟨hg.2, hg.1⟩
      intro u hu
      rcases List.mem_cons.1 hu with rfl | hu
      · have h1 := h.1
        cases x with
        | int k n => cases h1; rfl
        | bool b => cases h1; rfl
        | str s => cases h1; rfl
        | nil => cases h1; rfl
        | sl => obtain ⟨_, ⟨_, _, h, _⟩, _⟩ := h1; rw [h]; rfl
        | ptr => obtain ⟨_, h⟩ := h1; rw [h]; rfl
        | fn => obtain ⟨_, h⟩ := h1; rw [h]; rfl
        | bad => simp [AC.isBad] at hg'
        | undef => simp [AC.isBad] at hg'
      · exact ih hg'.1 h.2 u hu

/-- a store into a block that no row and no stable datum lies in -/
theorem Later.setRow {st' : St} {g : Nat} {cs : Array Value} (hS : ¬ m.S g) (hu : ∀ k, st.used k = true → st'.used k = true) (hd : ∀ id, st'.dead id = false → st.dead id = false)
    (hr : ∀ id b, st'.dead id = false → m.row id = some b → b ≠ g) (hb : ∀ k, (st.box k).isSome = true → (st'.box k).isSome = true) : Later m st w m st' (w.setRow g cs) :=
  ⟨fun _ h => h, fun b hb => setRow_other w g b cs (fun e => hS (e ▸ hb)), hu, fun id _ h2 => ⟨hd id h2, rfl, rfl, fun b hb' => setRow_other w g b cs (hr id b h2 hb')⟩, fun k hk => ⟨hb k hk, rfl⟩⟩

theorem storeVar_run {t : TypeId} {g off : Nat} {T : TypeId} {cur : Array Value} {v : Value} (hh : w.heap[g]? = some (.cells cur T (0, 0))) (hs : v.cells.size = sizeT E t) (hpos : 0 < v.cells.size) (hle : off + v.cells.size ≤ cur.size)
    (h1 : ∀ u ∈ v.cells.toList, u.oneCell' = true) :
    (storeVar t ⟨g, off, none⟩ v).run E.P w = .ok () (w.setRow g (cur.toList.take off ++ v.cells.toList ++ cur.toList.drop (off + v.cells.size)).toArray) := by
  have hst := run_storeCells_at E.P g off T v.cells.toList 0 cur w hh (by simpa using hle) h1
  simp only [Nat.add_zero] at hst
  have hsz := sizeT_pos (E := E) (t := t) hs.symm hpos w
  simp only [storeVar, Sem.run_bind, hsz, Result.andThen_ok]
  simp [hst]

theorem eff_store_gen {t T : TypeId} {A X : Operand} {b off : Nat} {l l' : List AC} (ho : o.op = .store t A X) (h : Rel E.F base Mod w0 m st a w)
    (ha : a.eval A = .pointer (some ⟨m.bl b, off, none⟩)) (hb : st.box b = some (T, l)) (hp : (opnd st X).plain = true) (hlen : (opnd st X).cells.length = sizeT E t) (hpos : 0 < sizeT E t) (hle : off + sizeT E t ≤ l.length) (hlk : st.lock b = false)
    (hg : AC.good (opnd st X).cells = true)
    (hl' : ∀ arr : List Value, All2 (RelAC m st w) l arr → All2 (RelAC m st w) l' (arr.take off ++ (a.eval X).cells.toList ++ arr.drop (off + (a.eval X).cells.size)))
    (hK : K .bad (st.setBox b (T, l')) = some r) : Effs E base Mod w0 o a w fun av st' => K av st' = some r := by
  have hc := plain_cells hp (h.opnd X)
  obtain ⟨arr, hh, hr⟩ := h.mem.box b T l hb
  have hla : l.length = arr.size := by simpa using hr.length
  have hlc : (a.eval X).cells.size = (opnd st X).cells.length := by simpa using hc.length.symm
  have hrun := storeVar_run (E := E) (t := t) (off := off) hh (by omega) (by omega) (by omega) (good_one hg hc)
  have hbs : (st.box b).isSome = true := by simp [hb]
  have hbS := h.mem.boxS b hbs
  have hlat : Later m st w m (st.setBox b (T, l')) (w.setRow (m.bl b) (arr.toList.take off ++ (a.eval X).cells.toList ++ arr.toList.drop (off + (a.eval X).cells.size)).toArray) :=
    Later.setRow hbS.1 (fun _ h => h) (fun _ h => h) (fun id b' hd hr' => fun e => (h.mem.row id b' hr' hd).2.2 b hbs e.symm) (fun k hk => by rw [setBox_some]; split <;> simp [hk])
  have hbk : ∀ k, ((st.setBox b (T, l')).box k).isSome = true → (st.box k).isSome = true := fun k hk => by
    rw [setBox_some] at hk
    split at hk
    · rename_i e; rw [e]; exact hbs
    · exact hk
  refine ⟨_, undef, _, m, _, _, by simp [execOp, ho, ha, Instr.storeAt, Instr.sureAddr, hrun], .inr ⟨rfl, rfl⟩, hK, trivial, ⟨h.defers, h.size, fun t => RelAV.later hlat (h.slot t), ?_, ?_, h.fix, h.glob⟩⟩
  · refine ⟨fun k T' l2 hk => ?_, fun k hk => h.mem.boxS k (hbk k hk), fun k k' hk hk' => h.mem.boxI k k' (hbk k hk) (hbk k' hk'), fun k hk => h.mem.boxU k (hbk k hk), fun id b' hb' hd => ?_, h.mem.rowI, h.mem.rowS, h.mem.rowU, fun b' hb' => by rw [size_setRow]; exact h.mem.S b' hb', h.mem.iceU, h.mem.deadU⟩
    · rw [setBox_some] at hk
      split at hk
      · rename_i e; subst e
        simp only [Option.some.injEq, Prod.mk.injEq] at hk
        obtain ⟨rfl, rfl⟩ := hk
        refine ⟨_, setRow_heap w _ _ _ _ _ hh, RelAC.laters hlat ?_⟩
        simpa using hl' _ hr
      · rename_i e
        obtain ⟨arr', h1, h2⟩ := h.mem.box k T' l2 hk
        refine ⟨arr', ?_, RelAC.laters hlat h2⟩
        rw [setRow_other w _ _ _ (fun e' => (h.mem.boxI k b (by simp [hk]) hbs e').elim e (fun hl => by rw [hlk] at hl; cases hl.2))]
        exact h1
    · obtain ⟨h1, h2, h3⟩ := h.mem.row id b' hb' hd
      exact ⟨by rw [size_setRow]; exact h1, h2, fun k hk => h3 k (hbk k hk)⟩
  · refine ⟨h.frm.os, h.frm.tape, h.frm.output, h.frm.at0, by rw [size_setRow]; exact h.frm.size, fun k hk hm => ?_⟩
    rw [setRow_other w _ _ _ (fun e => by
      rcases hbS.2 hlk with h1 | h1
      · omega
      · exact hm (e ▸ h1))]
    exact h.frm.block k hk hm

theorem eff_store_box {t T : TypeId} {A X : Operand} {b off : Nat} {l : List AC} (ho : o.op = .store t A X) (h : Rel E.F base Mod w0 m st a w)
    (hA : opnd st A = .one (.ptr b off)) (hb : st.box b = some (T, l)) (hp : (opnd st X).plain = true) (hlen : (opnd st X).cells.length = sizeT E t) (hpos : 0 < sizeT E t) (hle : off + sizeT E t ≤ l.length) (hlk : st.lock b = false)
    (hg : AC.good (opnd st X).cells = true) (hK : K .bad (st.setBox b (T, putCells l off (opnd st X).cells)) = some r) : Effs E base Mod w0 o a w fun av st' => K av st' = some r := by
  have ha := h.opnd A
  rw [hA] at ha
  obtain ⟨_, ha⟩ := ha
  have hc := plain_cells hp (h.opnd X)
  refine eff_store_gen ho h ha hb hp hlen hpos hle hlk hg (fun arr hr => ?_) hK
  unfold putCells
  rw [show (opnd st X).cells.length = (a.eval X).cells.size by simpa using hc.length]
  simpa using ((hr.take off).append hc).append (hr.drop _)

theorem eff_store_pi {t T : TypeId} {A X : Operand} {b off n j : Nat} {k : IntKind} {v : Int} {ys : List Int} {rest l : List AC} (ho : o.op = .store t A X) (h : Rel E.F base Mod w0 m st a w)
    (hA : opnd st A = .pi b off n k j) (hb : st.box b = some (T, l)) (hX : opnd st X = .one (.int k v)) (hi : intsOf k n (l.drop off) = some (ys, rest)) (hsz : sizeT E t = 1) (hlk : st.lock b = false)
    (hK : K .bad (st.setBox b (T, putCells l off (arrC k n (ys.set j v)))) = some r) : Effs E base Mod w0 o a w fun av st' => K av st' = some r := by
  have ha := h.opnd A
  rw [hA] at ha
  obtain ⟨_, hj, ha⟩ := ha
  have hx := h.opnd X
  rw [hX] at hx
  have hx : a.eval X = .int k v := hx
  obtain ⟨hn, hl⟩ := intsOf_spec hi
  have hlen : l.length = off + n + rest.length := by
    have := congrArg List.length hl
    simp only [List.length_drop, List.length_append, List.length_map, hn] at this
    omega
  have hrest : l.drop (off + n) = rest := by
    rw [← List.drop_drop, hl, List.drop_append_of_le_length (by simp [hn]), List.drop_of_length_le (by simp [hn])]; rfl
  refine eff_store_gen (off := off + j) ho h ha hb (by rw [hX]; rfl) (by rw [hX]; simpa [AV.cells] using hsz.symm) (by omega) (by omega) hlk (by rw [hX]; rfl) (fun arr hr => ?_) hK
  have hd := hr.drop off
  rw [hl] at hd
  obtain ⟨m1, m2, he, hd1, hd2⟩ := All2.split hd
  have hv1 := ints_rel hd1
  have hla : arr.length = l.length := hr.length.symm
  have harr : arr = arr.take off ++ (ys.map (Value.int k) ++ m2) := by rw [← hv1, ← he, List.take_append_drop]
  have e1 : arr.take (off + j) = arr.take off ++ (ys.take j).map (Value.int k) := by
    rw [List.take_add, he, hv1, List.take_append_of_le_length (by simp [hn]; omega), List.map_take]
  have e2 : arr.drop (off + j + 1) = (ys.drop (j + 1)).map (Value.int k) ++ m2 := by
    rw [show off + j + 1 = off + (j + 1) by omega, ← List.drop_drop, he, hv1, List.drop_append_of_le_length (by simp [hn]; omega), List.map_drop]
  have e3 : (a.eval X).cells.toList = [Value.int k v] := by rw [hx]; rfl
  have e4 : (a.eval X).cells.size = 1 := by rw [hx]; rfl
  rw [e4, e3, e1, e2, putCells, arrC_eq (by simp [hn]), List.length_map, List.length_set, hn, hrest]
  have hset : (ys.set j v).map (Value.int k) = (ys.take j).map (Value.int k) ++ [Value.int k v] ++ (ys.drop (j + 1)).map (Value.int k) := by
    rw [List.set_eq_take_append_cons_drop, if_pos (by omega)]; simp
  have hw : arr.take off ++ (ys.take j).map (Value.int k) ++ [Value.int k v] ++ ((ys.drop (j + 1)).map (Value.int k) ++ m2) = arr.take off ++ (ys.set j v).map (Value.int k) ++ m2 := by
    rw [hset]; simp
  rw [hw]
  refine ((hr.take off).append ?_).append hd2
  exact ints_all
end
end Go.Proofs.Ytjokcjlpciecoaa.Rx
