/- A part of the evaluator and its soundness: Mk. No condition beside those that each theorem states. -/
import Derived.Test.YtjokcjlpciecoaaRxCall4
set_option linter.unusedSimpArgs false
set_option linter.unusedVariables false
namespace Go.Proofs.Ytjokcjlpciecoaa.Rx

section
variable {E : Env} {base : Nat} {Mod : Nat → Prop} {w0 : Org} {m : Emb} {st : St} {a : Act} {w : World} {key : Nat} {o : Oper} {R : Type} {r : R}

/-- a block that lies there becomes a box -/
theorem adopt_box {t : TypeId} {l : List AC} {arr : Array Value} {b : Nat} (hkey : 1000 ≤ key) (h : Rel E.F base Mod w0 m st a w) (hku : st.used key = true) (hnone : st.box key = none)
    (hb : w.heap[b]? = some (.cells arr t (0, 0))) (hS : ¬ m.S b) (hbase : base ≤ b) (hrow : ∀ id, m.row id = some b → st.dead id = true) (hbox : ∀ k, (st.box k).isSome = true → m.bl k ≠ b)
    (hl : All2 (RelAC m st w) l arr.toList) :
    Rel E.F base Mod w0 (m.newBox key b) (st.setBox key (t, l)) a w ∧ RelAV (m.newBox key b) (st.setBox key (t, l)) w (.one (.ptr key 0)) (.pointer (some ⟨b, 0, none⟩)) := by
  have hlat : Later m st w (m.newBox key b) (st.setBox key (t, l)) w := by
    refine ⟨fun _ hb => hb, fun _ _ => rfl, fun k hk => hk, fun id h1 h2 => ⟨h2, rfl, rfl, fun _ _ => rfl⟩, fun k hk => ?_⟩
    have : k ≠ key := fun e => by subst e; simp [hnone] at hk
    exact ⟨by simp [St.setBox, this, hk], by simp [Emb.newBox, this]⟩
  have hbs : ∀ k, ((st.setBox key (t, l)).box k).isSome = true → k = key ∨ k ≠ key ∧ (st.box k).isSome = true := fun k hk => by
    by_cases e : k = key
    · exact .inl e
    · exact .inr ⟨e, by simpa [setBox_some, e] using hk⟩
  refine ⟨⟨h.defers, h.size, fun t => RelAV.later hlat (h.slot t), ?_, h.frm, ⟨fun k hk => by rw [← h.fix.1 k hk]; exact if_neg (by omega), h.fix.2⟩, h.glob⟩, ?_⟩
  · refine ⟨fun k T l' hk => ?_, fun k hk => ?_, fun k k' hk hk' he => ?_, fun k hk => ?_, fun id b' hb' hd => ?_, h.mem.rowI, h.mem.rowS, h.mem.rowU, h.mem.S, h.mem.iceU, h.mem.deadU⟩
    · rw [setBox_some] at hk
      split at hk
      · rename_i e; subst e
        simp only [Option.some.injEq, Prod.mk.injEq] at hk
        obtain ⟨rfl, rfl⟩ := hk
        exact ⟨arr, by simpa [Emb.newBox] using hb, RelAC.laters hlat hl⟩
      · rename_i e
        obtain ⟨arr', h1, h2⟩ := h.mem.box k T l' hk
        exact ⟨arr', by simp only [Emb.newBox, e, if_false]; exact h1, RelAC.laters hlat h2⟩
    · rcases hbs k hk with rfl | ⟨e, hk'⟩
      · simp only [Emb.newBox, if_true]
        exact ⟨hS, fun _ => .inl hbase⟩
      · simp only [Emb.newBox, e, if_false]
        exact h.mem.boxS k hk'
    · rcases hbs k hk with rfl | ⟨e, hk1⟩ <;> rcases hbs k' hk' with rfl | ⟨e', hk2⟩
      · exact .inl rfl
      · simp only [Emb.newBox, if_true, e', if_false] at he; exact absurd he.symm (hbox k' hk2)
      · simp only [Emb.newBox, if_true, e, if_false] at he; exact absurd he (hbox k hk1)
      · simp only [Emb.newBox, e, e', if_false] at he; exact h.mem.boxI k k' hk1 hk2 he
    · rcases hbs k hk with rfl | ⟨e, hk1⟩
      · exact hku
      · exact h.mem.boxU k hk1
    · obtain ⟨h1, h2, h3⟩ := h.mem.row id b' hb' hd
      refine ⟨h1, h2, fun k hk => ?_⟩
      rcases hbs k hk with rfl | ⟨e, hk1⟩
      · simp only [Emb.newBox, if_true]
        intro he
        subst he
        have := hrow id hb'
        have hd' : st.dead id = false := hd
        rw [this] at hd'; cases hd'
      · simp only [Emb.newBox, e, if_false]; exact h3 k hk1
  · exact ⟨by simp [setBox_some], by simp [Emb.newBox]⟩

theorem vals_no : ∀ {ps : List PK} {vs : List Value}, ps.all PK.isVal = true → boxBlks ps vs = [] ∧ rwBlks ps vs = []
  | [], vs, _ => ⟨by cases vs <;> rfl, by cases vs <;> rfl⟩
  | p :: ps, vs, h => by
    simp only [List.all_cons, Bool.and_eq_true] at h
    cases p with
    | box => simp [PK.isVal] at h
    | lent => simp [PK.isVal] at h
    | give => simp [PK.isVal] at h
    | clo => simp [PK.isVal] at h
    | val agg c => cases vs with
      | nil => exact ⟨rfl, rfl⟩
      | cons v vs => simpa [boxBlks, rwBlks] using vals_no (vs := vs) h.2
theorem vals_ins {s : Sig} (h : s.params.all PK.isVal = true) : ∀ r ∈ s.ins, r.2 = false := fun r hr => by
  unfold Sig.ins at hr
  obtain ⟨p, hp, rfl⟩ := List.mem_map.1 hr
  have := List.all_eq_true.1 h p hp
  cases p <;> simp [PK.isVal] at this
  rfl

/-- a call that makes a box -/
theorem callM_sound {g : FuncId} {mk : Mk} (hM : MkOk E.P E.k g mk) (hkey : 1000 ≤ key) {c : Call} {K : AV → St → Option R} (ho : o.op = .call c) (hc : c.callee = .value (.func g)) (h : Rel E.F base Mod w0 m st a w) (hu : st.used key = false)
    (hK : callM E key (st.use key) mk (c.args.toList.map (opnd st)) K = some r) {next : Act → World → Prop} {Q : Exit → Act → World → Prop}
    (hn : ∀ m' st' av v w', Rel E.F base Mod w0 m' st' a w' → RelAV m' st' w' av v → K av st' = some r → next (a.put o.dst v) w') : o.wp E.P a w next Q := by
  unfold callM at hK
  split at hK
  case isFalse => cases hK
  rename_i hq
  simp only [Bool.and_eq_true] at hq
  obtain ⟨hval, hout⟩ := hq
  have hout : ∀ r ∈ mk.f.sig.outs, r.2 = false := fun r hr => by simpa using List.all_eq_true.1 hout r hr
  split at hK
  · cases hK
  rename_i ls hls
  rw [argParts_use] at hls
  split at hK
  case isFalse => cases hK
  rename_i hp
  simp only [Bool.and_eq_true] at hp
  obtain ⟨hp, hro⟩ := hp
  rw [partsOk_use] at hp
  split at hK
  case h_2 => cases hK
  rename_i x hx
  obtain ⟨y, hy, hK⟩ := Option.bind_eq_some_iff.1 hK
  split at hK
  case h_2 => cases hK
  rename_i l hl
  obtain ⟨fn, cd, hfn, hname, hb⟩ := hM.there
  unfold Oper.wp
  rw [run_enter ho hc hfn hname hb, ← args_list, Oper.upon_enter]
  have hm := h.mem
  obtain ⟨vss, ha1, ha2, ha3, ha4, ha5, ha6, ha7, ha8, ha9⟩ := args_rel hm hls (opnds_rel h c.args.toList)
  obtain ⟨rows, b1, b2, b3, b4, b5, b6, b7, b8⟩ := handed hm hp hx ha2
  obtain rfl := noRows (vals_ins hval) b1
  have hlm : ∀ b, m.lent (roIds mk.f.sig.ins ls) b ↔ m.S b := fun b => by rw [List.isEmpty_iff.1 hro]; simp [Emb.lent]
  refine (hM.run hval hout w _ _ vss x y hy ha1 b1 b4 (h.globOk.mono (fun b hb => .inl hb) fun _ _ => rfl)).mono ?_
  rintro e w' ⟨b, arr, S', rfl, hfrm, hS1, hS2, hS3, hge, hbS, hbh, hparts⟩
  have hS1 : ∀ b, m.S b → S' b := fun b hb => hS1 b ((hlm b).2 hb)
  have hS2 : ∀ b, S' b → m.S b ∨ w.heap.size ≤ b := fun b hb => (hS2 b hb).imp (hlm b).1 id
  have hsame : ∀ b, b < w.heap.size → w'.heap[b]? = w.heap[b]? := fun b hb => hfrm.block b hb (by simp)
  generalize hm' : ({ m with S := S' } : Emb) = m'
  have mS : m'.S = S' := by rw [← hm']
  have mrow : m'.row = m.row := by rw [← hm']
  have mval : m'.val = m.val := by rw [← hm']
  have mbl : m'.bl = m.bl := by rw [← hm']
  have hlat : Later m st w m' (st.use key) w' := by
    refine ⟨fun b hb => by rw [mS]; exact hS1 b hb, fun b hb => hsame b (hm.S b hb), fun k hk => by simp [St.use, hk], fun id h1 h2 => ⟨h2, by rw [mrow], by rw [mval], fun b hb => hsame b (hm.row id b hb h2).1⟩, fun k hk => ⟨hk, by rw [mbl]⟩⟩
  have hlt : ∀ k, (st.box k).isSome = true → m.bl k < w.heap.size := fun k hk => by
    obtain ⟨⟨T, l⟩, hkk⟩ := Option.isSome_iff_exists.1 hk
    obtain ⟨arr', h1, _⟩ := hm.box k T l hkk
    exact (Array.getElem?_eq_some_iff.1 h1).1
  have hrel : Rel E.F base Mod w0 m' (st.use key) a w' := by
    refine ⟨h.defers, h.size, fun t => RelAV.later hlat (h.slot t), ⟨?_, ?_, ?_, ?_, ?_, ?_, ?_, ?_, ?_, ?_, ?_⟩, h.frm.trans hfrm (by simp), ⟨by rw [mbl]; exact h.fix.1, fun b hb => by rw [mS]; exact hS1 b (h.fix.2.1 b hb), fun b hb => ?_⟩, h.glob⟩
    · intro k T l hk
      obtain ⟨arr, h1, h2⟩ := hm.box k T l hk
      refine ⟨arr, ?_, RelAC.laters hlat h2⟩
      rw [← h1, mbl]
      exact hsame _ (hlt k (by rw [show st.box k = _ from hk]; rfl))
    · intro k hk
      rw [mbl, mS]
      refine ⟨fun hs => ?_, (hm.boxS k hk).2⟩
      rcases hS2 _ hs with h1 | h1
      · exact (hm.boxS k hk).1 h1
      · have := hlt k hk; omega
    · intro k k' hk hk' he
      rw [mbl] at he
      exact hm.boxI k k' hk hk' he
    · intro k hk; simp [St.use, hm.boxU k hk]
    · intro id b hb hd
      rw [mrow] at hb
      obtain ⟨p1, p2, p3⟩ := hm.row id b hb hd
      exact ⟨Nat.lt_of_lt_of_le p1 hfrm.size, p2, fun k hk => by rw [mbl]; exact p3 k hk⟩
    · intro id id' b hb hb' hd hd'
      rw [mrow] at hb hb'
      exact hm.rowI id id' b hb hb' hd hd'
    · intro id b hb hd
      rw [mrow] at hb
      rw [mS]
      refine ⟨fun hs => ?_, fun hi => hS1 b ((hm.rowS id b hb hd).2 hi)⟩
      rcases hS2 b hs with h1 | h1
      · exact (hm.rowS id b hb hd).1 h1
      · have := (hm.row id b hb hd).1; omega
    · intro id b hb
      rw [mrow] at hb
      simp [St.use, hm.rowU id b hb]
    · intro b hb; rw [mS] at hb; exact hS3 b hb
    · intro id hi; simp [St.use, hm.iceU id hi]
    · intro id hi; simp [St.use, hm.deadU id hi]
    · rw [mS] at hb
      rcases hS2 b hb with h1 | h1
      · exact h.fix.2.2 b h1
      · exact .inr (.inl (by rw [h.frm.at0]; exact Nat.le_trans h.frm.size h1))
  have hab := parts_abs (m := m') (st := st.use key) (key := key) (by simp [St.use]) 0 (by rw [mS]; exact hparts) (fun j p hp => by simp at hp)
  rw [hl] at hab
  have hnone : (st.use key).box key = none := by
    cases hb : st.box key with
    | none => exact hb
    | some x => have := hm.boxU key (by simp [hb]); simp [hu] at this
  obtain ⟨h1, h2⟩ := adopt_box (t := mk.t) (l := l) hkey hrel (by simp [St.use]) hnone hbh (by rw [mS]; exact hbS) (by rw [h.frm.at0]; exact Nat.le_trans h.frm.size hge) (fun id hid => by
    rw [mrow] at hid
    cases hd : st.dead id with
    | true => exact hd
    | false => have := (hm.row id b hid hd).1; omega) (fun k hk he => by rw [mbl] at he; have := hlt k hk; omega) hab.1
  exact hn _ _ _ _ _ h1 h2 hK
end
end Go.Proofs.Ytjokcjlpciecoaa.Rx
