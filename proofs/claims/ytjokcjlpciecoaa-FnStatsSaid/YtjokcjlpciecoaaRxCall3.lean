/- A part of the evaluator and its soundness: Call3. No condition beside those that each theorem states. -/
import Derived.Test.YtjokcjlpciecoaaRxCall2
set_option linter.unusedSimpArgs false
set_option linter.unusedVariables false
namespace Go.Proofs.Ytjokcjlpciecoaa.Rx

section
variable {E : Env} {base : Nat} {Mod : Nat → Prop} {w0 : Org} {m : Emb} {st : St} {a : Act} {w : World} {key : Nat} {o : Oper} {R : Type} {r : R}

theorem noRows {w : World} {S : Nat → Prop} : ∀ {rs : List (CK × Bool)} {x : (CK.pairs (rs.map (·.1))).T} {l : List (List Value)} {rows : List Row}, (∀ r ∈ rs, r.2 = false) → PartsRd w S rs x l rows → rows = []
  | [], _, _, _, _, h => h.2
  | [r], _, _, _, hr, h => by
    obtain ⟨vs, h1, h2⟩ := h
    unfold PartRd at h2
    rw [hr r (by simp)] at h2
    simp only [Bool.false_eq_true, if_false] at h2
    exact h2.2
  | r :: q :: l, x, _, _, hr, h => by
    obtain ⟨vs, vss', r1, r2, rfl, rfl, h1, h2⟩ := h
    unfold PartRd at h1
    rw [hr r (by simp)] at h1
    simp only [Bool.false_eq_true, if_false] at h1
    rw [h1.2, noRows (fun r hh => hr r (List.mem_cons_of_mem _ hh)) h2]; rfl

theorem noOuts {w : World} : ∀ {ps : List PK} {vs : List Value} {vo : List (List Value)}, (ps.all (fun | .box _ _ own rw => !own && !rw | .lent _ _ => false | .give _ _ => false | .clo _ _ _ _ => true | .val _ _ => true)) = true → OutsAt w ps vs vo → vo = [] ∧ rwBlks ps vs = []
  | [], [], _, _, h => ⟨h, rfl⟩
  | [], _ :: _, _, _, h => h.elim
  | .val _ _ :: _, [], _, _, h => h.elim
  | .lent _ _ :: _, _, _, hq, _ => by simp at hq
  | .give _ _ :: _, _, _, hq, _ => by simp at hq
  | .clo _ _ _ _ :: _, [], _, _, h => h.elim
  | .clo _ _ _ _ :: ps, _ :: vs, vo, hq, h => by
    simp only [List.all_cons, Bool.true_and] at hq
    simpa [rwBlks] using noOuts hq (by simpa [OutsAt] using h)
  | .box _ _ _ _ :: _, [], _, _, h => h.elim
  | .val _ _ :: ps, _ :: vs, vo, hq, h => by
    simp only [List.all_cons, Bool.true_and] at hq
    simpa [rwBlks] using noOuts hq (by simpa [OutsAt] using h)
  | .box _ _ own rw :: ps, _ :: vs, vo, hq, h => by
    simp only [List.all_cons, Bool.and_eq_true, Bool.not_eq_true'] at hq
    obtain ⟨⟨_, rfl⟩, hq⟩ := hq
    simpa [rwBlks] using noOuts hq (by simpa [OutsAt] using h)

theorem quiet_ins {s : Sig} (h : s.quiet = true) : (∀ r ∈ s.ins, r.2 = false) ∧ (∀ r ∈ s.outs, (r.1.flat || (r.2 && r.1.shallow)) = true) := by
  unfold Sig.quiet at h
  simp only [Bool.and_eq_true, List.all_eq_true] at h
  obtain ⟨h1, h2⟩ := h
  refine ⟨fun r hr => ?_, fun r hr => ?_⟩
  · unfold Sig.ins at hr
    obtain ⟨p, hp, rfl⟩ := List.mem_map.1 hr
    have := h1 p hp
    cases p with
    | val agg c => rfl
    | lent agg c => simp at this
    | give agg c => simp at this
    | clo f fst t c => rfl
    | box t c own rw => simp at this; simp [this.1]
  · unfold Sig.outs at hr
    rcases List.mem_append.1 hr with hr | hr
    · obtain ⟨p, hp, rfl⟩ := List.mem_map.1 hr
      exact h2 p hp
    · obtain ⟨p, hp, hpr⟩ := List.mem_filterMap.1 hr
      have := h1 p hp
      cases p with
      | val agg c => simp at hpr
      | lent agg c => simp at this
      | give agg c => simp at this
      | clo f fst t c => simp at hpr
      | box t c own rw => cases rw <;> simp at this hpr

theorem args_list (c : Call) (a : Act) : (c.args.toList.map a.eval).toArray = c.args.map a.eval := by
  apply Array.toList_inj.1; simp

theorem callQ_core (hE : ∀ g f, E.fns g = some f → FnOk E.P E.k g f) {avs : List AV} {vals : List Value} {g : FuncId} {K : AV → Option R} (hvals : All2 (RelAV m st w) avs vals)
    (henter : ∀ {fn : Func} {cd : Code}, E.P.funcs[g]? = some fn → (fn.name == "runtime.NumGoroutine") = false → fn.body = some cd → (execOp a.eval o).run E.P w = .ok (.enter g vals.toArray) w)
    (h : Rel E.F base Mod w0 m st a w) (hu : st.used key = false)
    (hK : callQ E key st g avs K = some r) {next : Act → World → Prop} {Q : Exit → Act → World → Prop}
    (hn : ∀ m' av v w', Rel E.F base Mod w0 m' (st.use key) a w' → RelAV m' (st.use key) w' av v → K av = some r → next (a.put o.dst v) w') : o.wp E.P a w next Q := by
  unfold callQ at hK
  split at hK
  · cases hK
  rename_i f hf
  split at hK
  case isFalse => cases hK
  rename_i hq
  simp only [Bool.and_eq_true] at hq
  obtain ⟨hquiet, hdist⟩ := hq
  split at hK
  · cases hK
  rename_i ls hls
  split at hK
  case isFalse => cases hK
  rename_i hp
  split at hK
  case h_2 => cases hK
  rename_i x hx
  obtain ⟨y, hy, hK⟩ := Option.bind_eq_some_iff.1 hK
  obtain ⟨fn, cd, hfn, hname, hb⟩ := (hE g f hf).there
  unfold Oper.wp
  rw [henter hfn hname hb, Oper.upon_enter]
  have hm := h.mem
  obtain ⟨vss, ha1, ha2, ha3, ha4, ha5, ha6, ha7, ha8, ha9⟩ := args_rel hm hls hvals
  obtain ⟨rows, b1, b2, b3, b4, b5, b6, b7, b8⟩ := handed hm hp hx ha2
  obtain ⟨hsep1, hsep2⟩ := sep_blks hm hdist ha4 ha6 ha7 ha8 ha9 (nodup_map _) distinct_nodup
  refine ((hE g f hf).run w _ _ vss rows x y hy ha1 b1 b4 hsep1 hsep2 ?_ b2 ?_ (h.globOk.mono (fun b hb => .inl hb) fun _ _ => rfl)).mono ?_
  · rw [ha3]
    intro b hb
    obtain ⟨k, hk, rfl⟩ := List.mem_map.1 hb
    exact b6 k (ha4 k hk)
  · intro b hb
    refine ⟨(b5 b hb).1, (b5 b hb).2.1, ?_⟩
    rw [ha3]
    intro hb'
    obtain ⟨k, hk, he⟩ := List.mem_map.1 hb'
    exact (b5 b hb).2.2.2 k (ha4 k hk) he
  · rintro e w' ⟨rv, S', vr, vo, rows', rfl, hfrm, hS1, hS2, hS3, hparts, hres, houts, hnd, hblk⟩
    obtain ⟨q1, q2⟩ := quiet_ins hquiet
    obtain rfl := noRows q1 b1
    have hqp : (f.sig.params.all (fun | .box _ _ own rw => !own && !rw | .lent _ _ => false | .give _ _ => false | .clo _ _ _ _ => true | .val _ _ => true)) = true := by
      unfold Sig.quiet at hquiet
      simp only [Bool.and_eq_true] at hquiet
      exact hquiet.1
    obtain ⟨rfl, hrw⟩ := noOuts hqp houts
    have hsame : ∀ b, b < w.heap.size → w'.heap[b]? = w.heap[b]? := fun b hb => hfrm.block b hb (by rw [hrw]; simp [Blks])
    have hfresh : ∀ b ∈ Blks rows', ¬ S' b ∧ b < w'.heap.size ∧ w.heap.size ≤ b := fun b hb => by
      obtain ⟨h1, h2, _, h3⟩ := hblk b hb
      exact ⟨h1, h2, by simpa [Blks] using h3⟩
    have hlat : Later m st w (m.withRows key rows') (st.use key) w' := by
      refine ⟨fun _ h => h, fun b hb => hsame b (hm.S b hb), fun k hk => by simp [St.use, hk], fun id h1 h2 => ?_, fun k hk => ⟨hk, rfl⟩⟩
      have hne : id.1 ≠ key := fun he => by rw [he, hu] at h1; cases h1
      refine ⟨h2, by simp [Emb.withRows, hne], by simp [Emb.withRows, hne], fun b hb => hsame b (hm.row id b hb h2).1⟩
    have hrow := fun (id : Id) (b : Nat) => withRows_row (m := m) (key := key) (rows := rows') (id := id) (b := b)
    have hdk : ∀ id : Id, id.1 = key → st.dead id = false ∧ st.ice id = false := fun id he => by
      constructor
      · cases hd : st.dead id with
        | false => rfl
        | true => have := hm.deadU id hd; rw [he, hu] at this; cases this
      · cases hd : st.ice id with
        | false => rfl
        | true => have := hm.iceU id hd; rw [he, hu] at this; cases this
    have hrel : Rel E.F base Mod w0 (m.withRows key rows') (st.use key) a w' := by
      refine ⟨h.defers, h.size, fun t => RelAV.later hlat (h.slot t), ⟨?_, hm.boxS, hm.boxI, ?_, ?_, ?_, ?_, ?_, ?_, ?_, ?_⟩, h.frm.trans hfrm (by rw [hrw]; simp [Blks]), h.fix, h.glob⟩
      · intro k T l hk
        obtain ⟨arr, h1, h2⟩ := hm.box k T l hk
        refine ⟨arr, ?_, RelAC.laters hlat h2⟩
        rw [← h1]
        exact hsame _ (by rcases Nat.lt_or_ge (m.bl k) w.heap.size with h | h; exact h; simp [Array.getElem?_eq_none h] at h1)
      · intro k hk; simp [St.use, hm.boxU k hk]
      · intro id b hb hd
        rcases hrow id b hb with ⟨h1, h2⟩ | ⟨h1, h2⟩
        · obtain ⟨p1, p2, p3⟩ := hm.row id b h2 hd
          exact ⟨Nat.lt_of_lt_of_le p1 hfrm.size, p2, p3⟩
        · obtain ⟨p1, p2, p3⟩ := hfresh b (row_some h2)
          refine ⟨p2, .inl (by rw [h.frm.at0]; exact Nat.le_trans h.frm.size p3), fun k hk he => ?_⟩
          cases hbx : st.box k with
          | none => rw [show (st.use key).box k = st.box k from rfl, hbx] at hk; cases hk
          | some x =>
            obtain ⟨arr, h4, _⟩ := hm.box k x.1 x.2 hbx
            rw [show m.bl k = b from he, Array.getElem?_eq_none p3] at h4
            cases h4
      · intro id id' b hb hb' hd hd'
        rcases hrow id b hb with ⟨h1, h2⟩ | ⟨h1, h2⟩ <;> rcases hrow id' b hb' with ⟨h3, h4⟩ | ⟨h3, h4⟩
        · exact hm.rowI id id' b h2 h4 hd hd'
        · have := (hm.row id b h2 hd).1
          have := (hfresh b (row_some h4)).2.2
          omega
        · have := (hm.row id' b h4 hd').1
          have := (hfresh b (row_some h2)).2.2
          omega
        · exact Prod.ext (h1.trans h3.symm) (row_inj hnd h2 h4)
      · intro id b hb hd
        rcases hrow id b hb with ⟨h1, h2⟩ | ⟨h1, h2⟩
        · exact hm.rowS id b h2 hd
        · have hf := hfresh b (row_some h2)
          constructor
          · intro hs; have := hm.S b hs; omega
          · intro hi; rw [show (st.use key).ice id = st.ice id from rfl, (hdk id h1).2] at hi; cases hi
      · intro id b hb
        rcases hrow id b hb with ⟨h1, h2⟩ | ⟨h1, h2⟩
        · simp [St.use, hm.rowU id b h2]
        · simp [St.use, h1]
      · intro b hb; exact Nat.lt_of_lt_of_le (hm.S b hb) hfrm.size
      · intro id hi; simp [St.use, hm.iceU id hi]
      · intro id hi; simp [St.use, hm.deadU id hi]
    have hparts2 : PartsRd w' (m.withRows key rows').S f.sig.outs y (vr ++ []) rows' := parts_shallow q2 hparts
    have hab := parts_abs (m := m.withRows key rows') (st := st.use key) (key := key) (by simp [St.use]) 0 hparts2 (fun j p hp => withRows_get j p hp)
    obtain ⟨_, _, _, _⟩ := hrel.frm
    refine hn _ _ _ _ hrel ?_ hK
    have := res_rel (lo := []) hres (by simpa using hab)
    simpa using this

theorem callQ_sound (hE : ∀ g f, E.fns g = some f → FnOk E.P E.k g f) {c : Call} {g : FuncId} {K : AV → Option R} (ho : o.op = .call c) (hc : c.callee = .value (.func g)) (h : Rel E.F base Mod w0 m st a w) (hu : st.used key = false)
    (hK : callQ E key st g (c.args.toList.map (opnd st)) K = some r) {next : Act → World → Prop} {Q : Exit → Act → World → Prop}
    (hn : ∀ m' av v w', Rel E.F base Mod w0 m' (st.use key) a w' → RelAV m' (st.use key) w' av v → K av = some r → next (a.put o.dst v) w') : o.wp E.P a w next Q :=
  callQ_core hE (opnds_rel h c.args.toList) (fun hfn hname hb => by rw [run_enter ho hc hfn hname hb, ← args_list]) h hu hK hn

theorem caps_rel : ∀ {caps : List (Nat × Nat)}, (∀ p ∈ caps, (st.box p.1).isSome = true) → All2 (RelAV m st w) (caps.map fun p => .one (.ptr p.1 p.2)) (caps.map (ptrV m))
  | [], _ => trivial
  | p :: l, h => ⟨⟨h p (by simp), rfl⟩, caps_rel fun q hq => h q (by simp [hq])⟩

/-- a call of a function value -/
theorem callV_sound (hE : ∀ g f, E.fns g = some f → FnOk E.P E.k g f) {c : Call} {g : FuncId} {t : Nat} {fst : Bool} {caps : List (Nat × Nat)} {K : AV → Option R} (ho : o.op = .call c) (hc : c.callee = .value (.tmp t)) (ht : st.slot t = .one (.fn g fst caps)) (h : Rel E.F base Mod w0 m st a w) (hu : st.used key = false)
    (hK : callQ E key st g (cond fst (caps.map (fun p => .one (.ptr p.1 p.2)) ++ c.args.toList.map (opnd st)) (c.args.toList.map (opnd st) ++ caps.map fun p => .one (.ptr p.1 p.2))) K = some r) {next : Act → World → Prop} {Q : Exit → Act → World → Prop}
    (hn : ∀ m' av v w', Rel E.F base Mod w0 m' (st.use key) a w' → RelAV m' (st.use key) w' av v → K av = some r → next (a.put o.dst v) w') : o.wp E.P a w next Q := by
  have hx := h.slot t
  rw [ht] at hx
  obtain ⟨h1, h2⟩ := hx
  cases fst with
  | false =>
    refine callQ_core hE (All2.append (opnds_rel h c.args.toList) (caps_rel h1)) (fun hfn hname hb => ?_) h hu hK hn
    rw [run_enter_val ho hc (show a.eval (.tmp t) = _ from h2) hfn hname hb]
    congr 2
    apply Array.toList_inj.1; simp
  | true =>
    refine callQ_core hE (All2.append (caps_rel h1) (opnds_rel h c.args.toList)) (fun hfn hname hb => ?_) h hu hK hn
    rw [run_enter_val ho hc (show a.eval (.tmp t) = _ from h2) hfn hname hb]
    congr 2
    apply Array.toList_inj.1; simp
end
end Go.Proofs.Ytjokcjlpciecoaa.Rx
