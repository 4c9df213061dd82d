/- A part of the evaluator and its soundness: Quiet4. No condition beside those that each theorem states. -/
import Derived.Test.YtjokcjlpciecoaaRxQuiet3
set_option linter.unusedSimpArgs false
set_option linter.unusedVariables false
namespace Go.Proofs.Ytjokcjlpciecoaa.Rx

/-- cells laid into cells -/
theorem lay_cells : ∀ (vs : List Value) (k off : Nat) (cs : Array Value), off + k + vs.length ≤ cs.size →
    ((vs.zipIdx k).foldl (fun (cs : Array Value) (p : Value × Nat) => cs.setIfInBounds (off + p.2) p.1) cs).toList = cs.toList.take (off + k) ++ vs ++ cs.toList.drop (off + k + vs.length)
  | [], k, off, cs, h => by simp
  | v :: vs, k, off, cs, h => by
    simp only [List.zipIdx_cons, List.foldl_cons]
    rw [lay_cells vs (k + 1) off _ (by simp at h ⊢; omega)]
    have hlt : off + k < cs.toList.length := by simp at h ⊢; omega
    simp only [Array.toList_setIfInBounds]
    rw [show off + (k + 1) = off + k + 1 from by omega, List.take_succ_eq_append_getElem (by simpa using hlt)]
    simp only [List.length_cons]
    rw [show off + k + (vs.length + 1) = off + k + 1 + vs.length from by omega]
    rw [List.getElem_set_self, List.take_set_of_le (by omega), List.drop_set_of_lt (by omega)]
    simp

theorem lay_fold (v : Value) (off : Nat) (cs : Array Value) (h : off + v.cells.size ≤ cs.size) :
    (v.cells.zipIdx.foldl (fun cs (c, j) => cs.setIfInBounds (off + j) c) cs).toList = cs.toList.take off ++ v.cells.toList ++ cs.toList.drop (off + v.cells.size) := by
  have := lay_cells v.cells.toList 0 off cs (by simpa using h)
  rw [← Array.foldl_toList, Array.toList_zipIdx]
  simpa using this

theorem plain_cells {m : Emb} {st : St} {w : World} {x : AV} {v : Value} (hp : x.plain = true) (h : RelAV m st w x v) : All2 (RelAC m st w) x.cells v.cells.toList := by
  cases x with
  | one y =>
    have : v.cells = #[v] := by
      cases y with
      | int k n => cases h; rfl
      | bool b => cases h; rfl
      | str s => cases h; rfl
      | nil => cases h; rfl
      | sl => obtain ⟨_, ⟨_, _, h, _⟩, _⟩ := h; rw [h]; rfl
      | ptr => obtain ⟨_, h⟩ := h; rw [h]; rfl
      | fn => obtain ⟨_, h⟩ := h; rw [h]; rfl
      | bad => simp [AV.plain] at hp
      | undef => simp [AV.plain] at hp
    rw [this]
    exact ⟨h, trivial⟩
  | agg l => obtain ⟨arr, rfl, h⟩ := h; exact h
  | tup => simp [AV.plain] at hp
  | ep => simp [AV.plain] at hp
  | pi => simp [AV.plain] at hp

theorem fill_rel {m : Emb} {st : St} {w : World} {place : Nat → Option (Nat × Nat)} : ∀ (ps : List (Nat × AV)) (qs : List (Nat × Value)) (l l' : List AC) (arr : Array Value),
    All2 (fun p q => p.1 = q.1 ∧ p.2.plain = true ∧ RelAV m st w p.2 q.2) ps qs → All2 (RelAC m st w) l arr.toList →
    layParts place l (ps.map fun p => (p.1, p.2.cells)) = some l' → ∃ arr', Instr.fill place arr qs = some arr' ∧ All2 (RelAC m st w) l' arr'.toList
  | [], [], l, l', arr, _, hr, h => by
    simp only [List.map_nil, layParts, Option.some.injEq] at h; subst h
    exact ⟨arr, rfl, hr⟩
  | (i, x) :: ps, (j, v) :: qs, l, l', arr, hp, hr, h => by
    obtain ⟨⟨hij, hpl, hrel⟩, hp⟩ := hp
    simp only at hij hpl hrel; subst hij
    simp only [List.map_cons, layParts] at h
    cases hpi : place i with
    | none => simp [hpi] at h
    | some os =>
      obtain ⟨off, size⟩ := os
      simp only [hpi] at h
      split at h
      case isFalse => cases h
      rename_i hc
      have hcells := plain_cells hpl hrel
      have hlen : v.cells.size = x.cells.length := by simpa using hcells.length.symm
      have hla : l.length = arr.size := by simpa using hr.length
      have hle : off + v.cells.size ≤ arr.size := by omega
      have key := lay_fold v off arr hle
      have hr' : All2 (RelAC m st w) (putCells l off x.cells) (v.cells.zipIdx.foldl (fun cs (c, j) => cs.setIfInBounds (off + j) c) arr).toList := by
        rw [key, hlen]
        exact ((hr.take off).append hcells).append (hr.drop _)
      obtain ⟨arr', h1, h2⟩ := fill_rel ps qs _ l' _ hp hr' h
      refine ⟨arr', ?_, h2⟩
      simp only [Instr.fill, hpi]
      rw [if_neg]
      · exact h1
      · simp only [Bool.or_eq_true, decide_eq_true_eq, bne_iff_ne, ne_eq]
        omega
  | [], _ :: _, _, _, _, h, _, _ => h.elim
  | _ :: _, [], _, _, _, h, _, _ => h.elim

section
variable {E : Env} {base : Nat} {Mod : Nat → Prop} {w0 : Org} {m : Emb} {st : St} {a : Act} {w : World} {key : Nat} {o : Oper} {R : Type} {K : AV → Option R} {r : R}

theorem cellOf_rel (v : Value) : RelAC m st w (cellOf v) v := by
  have := rel_const (m := m) (st := st) (w := w) v
  unfold cellOf
  split
  · rename_i x he; rw [he] at this; exact this
  · trivial

theorem parts_rel (h : Rel E.F base Mod w0 m st a w) : ∀ (ps : List (Nat × Operand)), (∀ p ∈ ps, (opnd st p.2).plain = true) →
    All2 (fun p q => p.1 = q.1 ∧ p.2.plain = true ∧ RelAV m st w p.2 q.2) (ps.map fun p => (p.1, opnd st p.2)) (ps.map fun p => (p.1, a.eval p.2))
  | [], _ => trivial
  | p :: ps, hp => ⟨⟨rfl, hp p (by simp), h.opnd _⟩, parts_rel h ps fun q hq => hp q (by simp [hq])⟩

theorem run_mapM_places {P : Program} (w : World) (fs : List Field) (h : ∀ f ∈ fs, (P.info? f.type).isSome = true) :
    (fs.mapM (fun f : Field => (Prod.mk f.offset <$> sizeOf f.type : Sem (Nat × Nat)))).run P w = .ok (fs.map fun f => (f.offset, P.cellsOf f.type)) w := by
  induction fs with
  | nil => rfl
  | cons f fs ih =>
    obtain ⟨i, hi⟩ := Option.isSome_iff_exists.1 (h f (by simp))
    have hc : P.cellsOf f.type = i.size := by simp [Program.cellsOf, hi]
    simp only [List.mapM_cons, Sem.run_bind, run_sizeOf hi, Sem.run_map, Result.andThen_ok, ih fun g hg => h g (by simp [hg])]
    simp [hc]

theorem quiet_build {t : TypeId} {parts : Array (Nat × Operand)} {z l : List AC} {fs : Array Field} (ho : o.op = .build t parts) (h : Rel E.F base Mod w0 m st a w)
    (hz : zeroCells E t = some z) (hu : E.P.underlying t = some (.struct fs)) (hfs : fs.all (fun f => (E.P.info? f.type).isSome) = true) (hp : parts.all (fun p => (opnd st p.2).plain) = true)
    (hl : layParts (fun i => (fs[i]?).map fun f => (f.offset, sizeT E f.type)) z (parts.toList.map fun p => (p.1, (opnd st p.2).cells)) = some l) (hK : K (.agg l) = some r) :
    Vals E base Mod w0 st o a w fun av => K av = some r := by
  obtain ⟨i, zv, hi, hiz, rfl⟩ := zeroCells_spec hz
  have hrz : All2 (RelAC m st w) (zv.cells.toList.map cellOf) zv.cells.toList := by
    refine All2.of_get (by simp) fun j x y hx hy => ?_
    simp only [List.getElem?_map, hy, Option.map_some, Option.some.injEq] at hx
    subst hx; exact cellOf_rel y
  have hps := parts_rel h parts.toList fun p hp' => by
    have := Array.all_eq_true_iff_forall_mem.1 hp p (by simpa using hp')
    exact this
  obtain ⟨arr, hf, hr⟩ := fill_rel (place := fun i => (fs[i]?).map fun f => (f.offset, sizeT E f.type)) _ _ _ l zv.cells hps hrz (by simpa [List.map_map, Function.comp_def] using hl)
  refine .now h (v := .agg arr) (av := .agg l) ?_ hK ⟨arr, rfl, hr⟩
  have hm := run_mapM_places (P := E.P) w fs.toList fun f hf' => Array.all_eq_true_iff_forall_mem.1 hfs f (by simpa using hf')
  have hm' : (fs.mapM (fun f : Field => (Prod.mk f.offset <$> sizeOf f.type : Sem (Nat × Nat)))).run E.P w = .ok (fs.map fun f => (f.offset, E.P.cellsOf f.type)) w := by
    rw [Array.mapM_eq_mapM_toList]
    simp only [Sem.run_map, hm, Result.andThen_ok]
    congr 1
    apply Array.toList_inj.1
    simp
  have hpl : (fun j : Nat => Option.map (fun f : Field => (f.offset, E.P.cellsOf f.type)) (fs[j]? : Option Field)) = fun j : Nat => (fs[j]? : Option Field).map fun f : Field => (f.offset, sizeT E f.type) := by
    funext i; simp [sizeT]
  simp only [execOp, ho, Instr.build]
  simp [zeroValue, typeInfo, hi, hiz, run_underlying hu, hm', hpl, hf]

theorem quiet_build_arr {t : TypeId} {parts : Array (Nat × Operand)} {z l : List AC} {n : Nat} {e : TypeId} (ho : o.op = .build t parts) (h : Rel E.F base Mod w0 m st a w)
    (hz : zeroCells E t = some z) (hu : E.P.underlying t = some (.array n e)) (he : (E.P.info? e).isSome = true) (hp : parts.all (fun p => (opnd st p.2).plain) = true)
    (hl : layParts (fun i => some (i * sizeT E e, sizeT E e)) z (parts.toList.map fun p => (p.1, (opnd st p.2).cells)) = some l) (hK : K (.agg l) = some r) :
    Vals E base Mod w0 st o a w fun av => K av = some r := by
  obtain ⟨i, zv, hi, hiz, rfl⟩ := zeroCells_spec hz
  have hrz : All2 (RelAC m st w) (zv.cells.toList.map cellOf) zv.cells.toList := by
    refine All2.of_get (by simp) fun j x y hx hy => ?_
    simp only [List.getElem?_map, hy, Option.map_some, Option.some.injEq] at hx
    subst hx; exact cellOf_rel y
  have hps := parts_rel h parts.toList fun p hp' => by
    have := Array.all_eq_true_iff_forall_mem.1 hp p (by simpa using hp')
    exact this
  obtain ⟨arr, hf, hr⟩ := fill_rel (place := fun i => some (i * sizeT E e, sizeT E e)) _ _ _ l zv.cells hps hrz (by simpa [List.map_map, Function.comp_def] using hl)
  refine .now h (v := .agg arr) (av := .agg l) ?_ hK ⟨arr, rfl, hr⟩
  have hsz : (sizeOf e).run E.P w = .ok (sizeT E e) w := by
    obtain ⟨i, hi⟩ := Option.isSome_iff_exists.1 he
    rw [run_sizeOf hi]; simp [sizeT, Program.cellsOf, hi]
  simp only [execOp, ho, Instr.build]
  simp [zeroValue, typeInfo, hi, hiz, run_underlying hu, hsz, hf]

end
end Go.Proofs.Ytjokcjlpciecoaa.Rx
