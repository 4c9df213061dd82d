/- A part of the evaluator and its soundness: Eff3. No condition beside those that each theorem states. -/
import Derived.Test.YtjokcjlpciecoaaRxEff2
set_option linter.unusedSimpArgs false
set_option linter.unusedVariables false
namespace Go.Proofs.Ytjokcjlpciecoaa.Rx

theorem laid_get {α : Type} (L V : List α) (s p : Nat) (h : s + V.length ≤ L.length) :
    (L.take s ++ V ++ L.drop (s + V.length))[p]? = if p < s then L[p]? else if p < s + V.length then V[p - s]? else L[p]? := by
  have hs : (L.take s).length = s := by simp; omega
  rw [List.append_assoc]
  by_cases h1 : p < s
  · rw [if_pos h1, List.getElem?_append_left (by omega), List.getElem?_take, if_pos h1]
  · rw [if_neg h1, List.getElem?_append_right (by omega), hs]
    by_cases h2 : p < s + V.length
    · rw [if_pos h2, List.getElem?_append_left (by omega)]
    · rw [if_neg h2, List.getElem?_append_right (by omega), List.getElem?_drop]
      congr 1; omega

section
variable {E : Env} {base : Nat} {Mod : Nat → Prop} {w0 : Org} {m : Emb} {st : St} {a : Act} {w : World} {key : Nat} {o : Oper} {R : Type} {K : AV → St → Option R} {r : R}

/-- what a write into an element makes of its row -/
theorem store_ep {t e : TypeId} {A X : Operand} {id : Id} {c : CK} {xs : List c.T} {i off : Nat} {src : Loc} {y z : c.T} (ho : o.op = .store t A X) (h : Rel E.F base Mod w0 m st a w) (hu : st.used key = false)
    (hA : opnd st A = .ep id e c xs i off src true) (hsrc : src ≠ .no) (hr : st.rights id = true) (hlen : (opnd st X).cells.length = sizeT E t) (hpos : 0 < sizeT E t) (hle : off + sizeT E t ≤ c.size)
    (hf : st.fresh (opnd st X).cells = true) (hp : (opnd st X).plain = true) (hg : AC.good (opnd st X).cells = true) (hni : id ∉ AC.ids (opnd st X).cells)
    (hy : xs[i]? = some y) (hz : ofCells c (putCells (toCells c y) off (opnd st X).cells) = some (z, [])) :
    ∃ w' m', (execOp a.eval o).run E.P w = .ok .skip w' ∧ Rel E.F base Mod w0 m' (((st.use key).kill id).freezeAll (AC.ids (opnd st X).cells)) a w' ∧
      Later m st w m' (((st.use key).kill id).freezeAll (AC.ids (opnd st X).cells)) w' ∧
      RelAC m' (((st.use key).kill id).freezeAll (AC.ids (opnd st X).cells)) w' (.sl (key, 0) true false e c (xs.set i z) .no) (m.val id) ∧
      ∀ k, (st.box k).isSome = true → w'.heap[m'.bl k]? = w.heap[m.bl k]? := by
  obtain ⟨hd, hi⟩ := rights_spec hr
  have ha := h.opnd A
  rw [hA] at ha
  obtain ⟨hui, hil, b, p, hv, hh⟩ := ha
  have hui := hui rfl
  rcases hh with ⟨_, hh⟩ | ⟨ad, n, cap, rfl, rfl, hh⟩
  · simp [hd] at hh
  simp only [if_true] at hh
  obtain ⟨⟨a', n', cap', he, hrd, hbk, _⟩, hex⟩ := hh
  simp only [Value.slice.injEq] at he
  obtain ⟨rfl, rfl, rfl⟩ := he
  have hex := hex hsrc
  obtain ⟨hrow, cur, hcur, hcap⟩ := hbk
  obtain ⟨hn, hncap, hsp, hcells⟩ := hrd
  have hc := plain_cells hp (h.opnd X)
  have hlc : (a.eval X).cells.size = (opnd st X).cells.length := by simpa using hc.length.symm
  have hbound : ∀ j, j < n → ad.off + j * c.size + c.size ≤ cur.size := fun j hj => by
    have : (j + 1) * c.size ≤ cap * c.size := Nat.mul_le_mul_right _ (by omega)
    rw [Nat.add_mul] at this; omega
  have hbi := hbound i (by omega)
  have hrun := storeVar_run (E := E) (t := t) (w := w) (g := ad.block) (off := ad.off + i * c.size + off) (v := a.eval X) hcur (by omega) (by omega) (by omega) (good_one hg hc)
  obtain ⟨h1, hl1⟩ := freeze_rel h (ids_used hc) (fresh_spec hf)
  have hice : (st.freezeAll (AC.ids (opnd st X).cells)).ice id = false := by
    rw [freezeAll_eq]; simp [hi]; exact hni
  have hde : (st.freezeAll (AC.ids (opnd st X).cells)).dead id = false := by rw [freezeAll_eq]; exact hd
  have hus : (st.freezeAll (AC.ids (opnd st X).cells)).used = st.used := by rw [freezeAll_eq]
  obtain ⟨h2, hl2⟩ := moved_rel (key := key) (v := m.val id) (id := id) (g := ad.block) (cs := (cur.toList.take (ad.off + i * c.size + off) ++ (a.eval X).cells.toList ++ cur.toList.drop (ad.off + i * c.size + off + (a.eval X).cells.size)).toArray)
    h1 (by rw [hus]; exact hu) hde hice hrow (by rw [hus]; exact hui)
  have hste : ((st.freezeAll (AC.ids (opnd st X).cells)).use key).kill id = ((st.use key).kill id).freezeAll (AC.ids (opnd st X).cells) := by
    simp only [freezeAll_eq, St.use, St.kill]
  rw [hste] at h2 hl2
  have hlat : Later m st w ((m.frozen (AC.ids (opnd st X).cells)).movedRow id (key, 0) (m.val id)) (((st.use key).kill id).freezeAll (AC.ids (opnd st X).cells)) (w.setRow ad.block (cur.toList.take (ad.off + i * c.size + off) ++ (a.eval X).cells.toList ++ cur.toList.drop (ad.off + i * c.size + off + (a.eval X).cells.size)).toArray) :=
    ⟨fun b hb => hl2.S b (hl1.S b hb), fun b hb => hl2.keep b (hl1.S b hb), fun k hk => hl2.used k (hl1.used k hk), fun id' h3 h4 => by
      obtain ⟨q1, q2, q3, q4⟩ := hl2.row id' (hl1.used _ h3) h4
      obtain ⟨p1, p2, p3, p4⟩ := hl1.row id' h3 q1
      exact ⟨p1, q2.trans p2, q3.trans p3, fun b hb => q4 b (p2.trans hb)⟩, fun k hk => by
      obtain ⟨q1, q2⟩ := hl1.box k hk
      obtain ⟨q3, q4⟩ := hl2.box k q1
      exact ⟨q3, q4.trans q2⟩⟩
  refine ⟨_, _, ?_, h2, hlat, ?_, fun k hk => setRow_other w ad.block _ _ (((h.mem.row id _ hrow hd).2.2 k hk))⟩
  · simp [execOp, ho, hv, Instr.storeAt, Instr.sureAddr, hrun]
  · have hnew := setRow_heap w ad.block cur (cur.toList.take (ad.off + i * c.size + off) ++ (a.eval X).cells.toList ++ cur.toList.drop (ad.off + i * c.size + off + (a.eval X).cells.size)).toArray e (0, 0) hcur
    have hcell : ∀ q, (w.setRow ad.block (cur.toList.take (ad.off + i * c.size + off) ++ (a.eval X).cells.toList ++ cur.toList.drop (ad.off + i * c.size + off + (a.eval X).cells.size)).toArray).cell? ⟨ad.block, q, none⟩ =
        if q < ad.off + i * c.size + off then cur[q]? else if q < ad.off + i * c.size + off + (a.eval X).cells.size then (a.eval X).cells.toList[q - (ad.off + i * c.size + off)]? else cur[q]? := fun q => by
      rw [cell_of_row _ _ _ _ _ _ hnew]
      have := laid_get cur.toList (a.eval X).cells.toList (ad.off + i * c.size + off) q (by simp; omega)
      simp only [Array.length_toList] at this
      simpa using this
    have hold : ∀ q, w.cell? ⟨ad.block, q, none⟩ = cur[q]? := fun q => cell_of_row _ _ _ _ _ _ hcur
    have hlow : ∀ x l, RdT w (m.frozen (AC.ids (opnd st X).cells)).S c x l → RdT (w.setRow ad.block (cur.toList.take (ad.off + i * c.size + off) ++ (a.eval X).cells.toList ++ cur.toList.drop (ad.off + i * c.size + off + (a.eval X).cells.size)).toArray) ((m.frozen (AC.ids (opnd st X).cells)).movedRow id (key, 0) (m.val id)).S c x l :=
      fun x l => RdT.mono hl2.S hl2.keep
    refine ⟨fun _ => by rw [freezeAll_eq]; simp [St.kill, St.use], ?_, ?_⟩
    · rw [hex]; exact ⟨some ad, cap, by rw [List.length_set, hn], by rw [List.length_set]; omega, hsp⟩
    · simp only [if_true]
      right
      rw [hex]
      refine ⟨_, _, _, rfl, ⟨by simp [hn], hncap, hsp, fun j x hx => ⟨by simp [Emb.movedRow, Emb.frozen, hrow], ?_⟩⟩, ⟨by simp [Emb.movedRow, Emb.frozen, hrow], _, hnew, by have := hcap.1; simp; omega, hcap.2⟩, fun _ => by simp [Emb.movedRow, Emb.frozen, hex]⟩
      by_cases hj : j = i
      · subst hj
        rw [List.getElem?_set_self (by omega)] at hx
        simp only [Option.some.injEq] at hx; subst hx
        obtain ⟨_, l, hl, hrdl, hcl⟩ := hcells j y hy
        have hrel : All2 (RelAC m st w) (putCells (toCells c y) off (opnd st X).cells) (l.take off ++ (a.eval X).cells.toList ++ l.drop (off + (opnd st X).cells.length)) :=
          (((toCells_rel (m := m) (st := st) rfl hrdl).take off).append hc).append ((toCells_rel (m := m) (st := st) rfl hrdl).drop _)
        have hids : AC.ids (putCells (toCells c y) off (opnd st X).cells) = AC.ids (opnd st X).cells := by
          have hz : ∀ (c : CK) (x : c.T), AC.ids (toCells c x) = [] := by
            intro c
            induction c with
            | unit => intro x; rfl
            | int k => intro x; rfl
            | bool => intro x; rfl
            | str => intro x; rfl
            | any => intro x; rfl
            | sl e c _ => intro x; rfl
            | arr k n => intro x; simp only [toCells, arrC]; generalize List.range n = L; induction L with | nil => rfl | cons i L ih => exact ih
            | pair a b iha ihb => intro x; simp only [toCells, AC.ids_append, iha, ihb, List.append_nil]
          have hz' : ∀ L : List AC, AC.ids L = [] → ∀ n, AC.ids (L.take n) = [] ∧ AC.ids (L.drop n) = [] := fun L hL n => by
            have := AC.ids_append (L.take n) (L.drop n)
            rw [List.take_append_drop, hL] at this
            simpa using this.symm
          unfold putCells
          rw [AC.ids_append, AC.ids_append, (hz' _ (hz c y) _).1, (hz' _ (hz c y) _).2]; simp
        have hrz := ofCells_rd_all (S' := (m.frozen (AC.ids (opnd st X).cells)).S) (fun b hb => .inl hb) hz hrel (fun id' hi' => by
          rw [hids] at hi'
          exact ⟨fresh_spec hf id' hi', fun b hb => .inr ⟨id', hi', hb⟩⟩)
        refine ⟨_, ?_, hlow _ _ hrz, fun q v hq => ?_⟩
        · simp; omega
        · rw [hcell]
          have hlg := laid_get l (a.eval X).cells.toList off q (by simp; omega)
          rw [Array.length_toList, hlc] at hlg
          rw [hlg] at hq
          have hql : q < c.size := by
            rcases Nat.lt_or_ge q c.size with h | h
            · exact h
            · exfalso
              rw [if_neg (by omega), if_neg (by omega), List.getElem?_eq_none (by omega)] at hq; cases hq
          by_cases c1 : q < off
          · rw [if_pos c1] at hq
            rw [if_pos (by omega)]
            rw [← hold]; exact hcl q v hq
          · rw [if_neg c1] at hq
            rw [if_neg (by omega)]
            by_cases c2 : q < off + (opnd st X).cells.length
            · rw [if_pos c2] at hq
              rw [if_pos (by omega)]
              rw [show ad.off + j * c.size + q - (ad.off + j * c.size + off) = q - off from by omega]; exact hq
            · rw [if_neg c2] at hq
              rw [if_neg (by omega)]
              rw [← hold]; exact hcl q v hq
      · rw [List.getElem?_set_ne (by omega)] at hx
        obtain ⟨_, l, hl, hrdl, hcl⟩ := hcells j x hx
        refine ⟨l, hl, hlow _ _ (RdT.mono (fun b hb => .inl hb) (fun _ _ => rfl) hrdl), fun q v hq => ?_⟩
        have hql : q < c.size := by rw [← hl]; exact (List.getElem?_eq_some_iff.1 hq).1
        have hjn : j < n := by have := (List.getElem?_eq_some_iff.1 hx).1; omega
        have hsep : ad.off + j * c.size + q < ad.off + i * c.size + off ∨ ad.off + i * c.size + off + (a.eval X).cells.size ≤ ad.off + j * c.size + q := by
          rcases Nat.lt_or_gt_of_ne hj with h | h
          · have : (j + 1) * c.size ≤ i * c.size := Nat.mul_le_mul_right _ (by omega)
            rw [Nat.add_mul] at this; omega
          · have : (i + 1) * c.size ≤ j * c.size := Nat.mul_le_mul_right _ (by omega)
            rw [Nat.add_mul] at this; omega
        rw [hcell]
        have hres : cur[ad.off + j * c.size + q]? = some v := by rw [← hold]; exact hcl q v hq
        rcases hsep with h | h
        · rw [if_pos h]; exact hres
        · rw [if_neg (by omega), if_neg (by omega)]; exact hres
end
end Go.Proofs.Ytjokcjlpciecoaa.Rx
