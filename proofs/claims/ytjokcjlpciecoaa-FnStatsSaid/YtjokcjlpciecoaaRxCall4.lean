/- A part of the evaluator and its soundness: Call4. No condition beside those that each theorem states. -/
import Derived.Test.YtjokcjlpciecoaaRxCall3
set_option linter.unusedSimpArgs false
set_option linter.unusedVariables false
namespace Go.Proofs.Ytjokcjlpciecoaa.Rx

section
variable {E : Env} {base : Nat} {Mod : Nat → Prop} {w0 : Org} {m : Emb} {st : St} {a : Act} {w : World} {key : Nat} {o : Oper} {R : Type} {r : R}

theorem argParts_use (st : St) (key : Nat) : ∀ (ps : List PK) (avs : List AV), argParts (st.use key) ps avs = argParts st ps avs
  | [], [] => rfl
  | p :: ps, v :: vs => by
    simp only [argParts, argParts_use st key ps vs]
    rfl
  | [], _ :: _ => rfl
  | _ :: _, [] => rfl

theorem partsOk_use (st : St) (key : Nat) (rs : List (CK × Bool)) (ls : List (List AC)) : partsOk (st.use key) rs ls = partsOk st rs ls := rfl

theorem callQ_use {K : AV → Option R} {g : FuncId} {args : List AV} : callQ E key (st.use key) g args K = callQ E key st g args K := by
  unfold callQ
  simp only [argParts_use]
  rfl

theorem callW_sound (hE : ∀ g f, E.fns g = some f → FnOk E.P E.k g f) {c : Call} {g : FuncId} {K : AV → St → Option R} (ho : o.op = .call c) (hc : c.callee = .value (.func g)) (h : Rel E.F base Mod w0 m st a w) (hu : st.used key = false)
    (hK : callW E key (st.use key) g (c.args.toList.map (opnd st)) K = some r) {next : Act → World → Prop} {Q : Exit → Act → World → Prop}
    (hn : ∀ m' st' av v w', Rel E.F base Mod w0 m' st' a w' → RelAV m' st' w' av v → K av st' = some r → next (a.put o.dst v) w') : o.wp E.P a w next Q := by
  unfold callW at hK
  split at hK
  · cases hK
  rename_i f hf
  split at hK
  case isFalse => cases hK
  rename_i hdist
  split at hK
  · cases hK
  rename_i ls hls
  rw [argParts_use] at hls
  split at hK
  case isFalse => cases hK
  rename_i hp
  rw [partsOk_use] at hp
  split at hK
  case h_2 => cases hK
  rename_i x hx
  obtain ⟨y, hy, hK⟩ := Option.bind_eq_some_iff.1 hK
  obtain ⟨fn, cd, hfn, hname, hb⟩ := (hE g f hf).there
  unfold Oper.wp
  rw [run_enter ho hc hfn hname hb, ← args_list, Oper.upon_enter]
  have hm := h.mem
  obtain ⟨vss, ha1, ha2, ha3, ha4, ha5, ha6, ha7, ha8, ha9⟩ := args_rel hm hls (opnds_rel h c.args.toList)
  obtain ⟨rows, b1, b2, b3, b4, b5, b6, b7, b8⟩ := handed hm hp hx ha2
  obtain ⟨_, _, ok3, _⟩ := partsOk_spec hp
  have hnod : (rwNos f.sig.params (c.args.toList.map (opnd st))).Nodup := by unfold sepNos at hdist; simp only [Bool.and_eq_true] at hdist; exact distinct_nodup hdist.1
  obtain ⟨hsep1, hsep2⟩ := sep_blks hm hdist ha4 ha6 ha7 ha8 ha9 (nodup_map _) distinct_nodup
  refine ((hE g f hf).run w _ _ vss rows x y hy ha1 b1 b4 hsep1 hsep2 ?_ b2 ?_ (h.globOk.mono (fun b hb => .inl hb) fun _ _ => rfl)).mono ?_
  · rw [ha3]
    intro b hb
    obtain ⟨k, hk, rfl⟩ := List.mem_map.1 hb
    exact b6 k (ha4 k hk)
  · intro b hb
    refine ⟨(b5 b hb).1, (b5 b hb).2.1, ?_⟩
    rw [ha3]
    intro hb'
    obtain ⟨k, hk, he⟩ := List.mem_map.1 hb'
    exact (b5 b hb).2.2.2 k (ha4 k hk) he
  · rintro e w' ⟨rv, S', vr, vo, rows', rfl, hfrm, hS1, hS2, hS3, hparts, hres, houts, hnd, hblk⟩
    obtain ⟨S2, hS1, hS2, hS3, hparts, hblk, b6, b7⟩ : ∃ S2 : Nat → Prop, (∀ b, m.lent (f.sig.cold ls) b → S2 b) ∧ (∀ b, S2 b → m.lent (f.sig.cold ls) b ∨ b ∈ Blks rows ∨ w.heap.size ≤ b) ∧ (∀ b, S2 b → b < w'.heap.size) ∧
        PartsRd w' S2 f.sig.outs y (vr ++ vo) rows' ∧ (∀ b ∈ Blks rows', ¬ S2 b ∧ b < w'.heap.size ∧ b ∉ boxBlks f.sig.params (c.args.toList.map a.eval) ∧ (b ∈ Blks rows ∨ w.heap.size ≤ b)) ∧
        (∀ k, (st.box k).isSome = true → ¬ m.lent (f.sig.cold ls) (m.bl k)) ∧ (∀ id ∈ f.sig.cold ls, st.dead id = false ∧ st.used id.1 = true) := by
      unfold Sig.cold
      split
      · rename_i hq
        have hq : ∀ r ∈ f.sig.outs, (r.1.flat || (r.2 && r.1.shallow)) = true := List.all_eq_true.1 hq
        have hlm : ∀ b, m.lent [] b ↔ m.S b := fun b => by simp [Emb.lent]
        refine ⟨m.S, fun b hb => (hlm b).1 hb, fun b hb => .inl ((hlm b).2 hb), fun b hb => Nat.lt_of_lt_of_le (hm.S b hb) hfrm.size, parts_shallow hq hparts, fun b hb => ?_, fun k hk hl => (hm.boxS k hk).1 ((hlm _).1 hl), by simp⟩
        obtain ⟨h1, h2⟩ := hblk b hb
        exact ⟨fun hs => h1 (hS1 b (.inl hs)), h2⟩
      · exact ⟨S', hS1, hS2, hS3, hparts, hblk, b6, b7⟩
    -- the state behind the call
    generalize hpairs : rwPairs f.sig.params (c.args.toList.map (opnd st)) ((splitCells f.sig.outs y (key, 0)).drop f.sig.res.length) = pairs at hK
    have hst3 : ((st.use key).killAll (ownIds f.sig.ins ls)).freezeAll (f.sig.cold ls) = { st with used := (st.use key).used, dead := fun n => st.dead n || (ownIds f.sig.ins ls).contains n, ice := fun n => st.ice n || (f.sig.cold ls).contains n } := by
      rw [killAll_eq, freezeAll_eq]; rfl
    rw [hst3] at hK
    generalize hrens : renPairs f.sig.params ls ((splitCells f.sig.outs y (key, 0)).drop f.sig.res.length) = rens at hK
    generalize hst3' : St.ren { st with used := (st.use key).used, dead := fun n => st.dead n || (ownIds f.sig.ins ls).contains n, ice := fun n => st.ice n || (f.sig.cold ls).contains n } rens = st3 at hK
    have e3 := ren_eq { st with used := (st.use key).used, dead := fun n => st.dead n || (ownIds f.sig.ins ls).contains n, ice := fun n => st.ice n || (f.sig.cold ls).contains n } rens
    rw [hst3'] at e3
    generalize hst4 : St.setBoxes st3 pairs = st4 at hK
    have e4 := setBoxes_eq pairs st3
    rw [hst4] at e4
    have eslot : ∀ t, st4.slot t = st.slot t ∨ st4.slot t = (st.slot t).ren rens := fun t => by
      rw [show st4.slot = st3.slot by rw [e4], ← hst3']
      exact ren_slot _ _ t
    have ebox3 : ∀ b, st3.box b = st.box b ∨ st3.box b = (st.box b).map fun q => (q.1, q.2.map (AC.ren rens)) := fun b => by
      rw [← hst3']
      exact ren_box _ _ b
    have ebs3 : ∀ b, (st3.box b).isSome = (st.box b).isSome := fun b => by
      rcases ebox3 b with h | h <;> rw [h]
      simp
    have edead : st4.dead = fun n => st.dead n || (ownIds f.sig.ins ls).contains n := by rw [e4, e3]
    have eice : st4.ice = fun n => st.ice n || (f.sig.cold ls).contains n := by rw [e4, e3]
    have eused : st4.used = (st.use key).used := by rw [e4, e3]
    have elock : st4.lock = st.lock := by rw [e4, e3]
    have hdead : ∀ id, st4.dead id = false → st.dead id = false ∧ id ∉ ownIds f.sig.ins ls := fun id hi => by
      rw [edead] at hi
      simp only [Bool.or_eq_false_iff] at hi
      exact ⟨hi.1, fun hm => by rw [List.contains_iff_mem.2 hm] at hi; cases hi.2⟩
    have hused : ∀ k, st.used k = true → st4.used k = true := fun k hk => by rw [eused]; simp [St.use, hk]
    have husedk : st4.used key = true := by rw [eused]; simp [St.use]
    generalize hm' : ({ m.withRows key rows' with S := S2 } : Emb) = m'
    have mrow : m'.row = (m.withRows key rows').row := by rw [← hm']
    have mval : m'.val = (m.withRows key rows').val := by rw [← hm']
    have mbl : m'.bl = m.bl := by rw [← hm']; rfl
    have mS : m'.S = S2 := by rw [← hm']
    have hab := parts_abs (m := m') (st := st4) (key := key) husedk 0 (by rw [mS]; exact hparts) (fun j p hp => by rw [mrow, mval]; exact withRows_get j p hp)
    have hrl : vr.length = f.sig.res.length := hres.length
    have hab1 : All2 (All2 (RelAC m' st4 w')) ((splitCells f.sig.outs y (key, 0)).take f.sig.res.length) vr := by
      have := All2.take f.sig.res.length hab
      rwa [show (vr ++ vo).take f.sig.res.length = vr by rw [← hrl, List.take_left]] at this
    have hab2 : All2 (All2 (RelAC m' st4 w')) ((splitCells f.sig.outs y (key, 0)).drop f.sig.res.length) vo := by
      have := All2.drop f.sig.res.length hab
      rwa [show (vr ++ vo).drop f.sig.res.length = vo by rw [← hrl, List.drop_left]] at this
    have hrn := renPairs_rel (m := m) (m' := m') hls (opnds_rel h c.args.toList) houts hab2
    rw [hrens] at hrn
    have hrf : ∀ p ∈ rens, st.dead p.1 = false ∧ RelAC m' st4 w' p.2 (m.val p.1) := fun p hp => by
      obtain ⟨i1, i2⟩ := hrn p hp
      have hd := (b8 p.1 i1).1
      exact ⟨hd, i2 hd⟩
    obtain ⟨o1, o2, o3⟩ := outs_rel (m := m) (m' := m') (fun k => by rw [mbl]) hls (opnds_rel h c.args.toList) houts hab2
    rw [hpairs] at o1 o2 o3
    have hpn : (pairs.map (·.1)).Nodup := o2.nodup hnod
    have hbs : ∀ k, (st4.box k).isSome = true ↔ (st.box k).isSome = true := fun k => by
      by_cases hk : k ∈ pairs.map (·.1)
      · obtain ⟨p, hp, rfl⟩ := List.mem_map.1 hk
        have := setBoxes_mem pairs st3 p.1 p.2 hpn hp
        rw [hst4] at this
        rw [this]
        simp [ha4 p.1 (ha8 p.1 (o2.subset (List.mem_map.2 ⟨p, hp, rfl⟩))).1]
      · have := setBoxes_not pairs st3 k hk
        rw [hst4] at this
        rw [this, ebs3]
    -- what stays
    have hsame : ∀ b, b < w.heap.size → b ∉ rwBlks f.sig.params (c.args.toList.map a.eval) → b ∉ Blks rows → w'.heap[b]? = w.heap[b]? := fun b hb h1 h2 => hfrm.block b hb (by rintro (h3 | h3); exact h1 h3; exact h2 h3)
    have hrwbox : ∀ b ∈ rwBlks f.sig.params (c.args.toList.map a.eval), ∃ k, (st.box k).isSome = true ∧ m.bl k = b ∧ st.lock k = false := fun b hb => by
      obtain ⟨k, h1, h2, h3⟩ := ha5 b hb; exact ⟨k, ha4 k h1, h2, h3⟩
    have hrwpair : ∀ b ∈ rwBlks f.sig.params (c.args.toList.map a.eval), ∀ k, (st.box k).isSome = true → m.bl k = b → k ∈ pairs.map (·.1) := fun b hb k hk he => by
      obtain ⟨p, hp, hpe⟩ := o3 b hb
      have hpr := ha8 p.1 (o2.subset (List.mem_map.2 ⟨p, hp, rfl⟩))
      rcases hm.boxI p.1 k (ha4 p.1 hpr.1) hk (hpe.trans he.symm) with this | hl
      · exact this ▸ List.mem_map.2 ⟨p, hp, rfl⟩
      · have := hpr.2; rw [hl.1] at this; cases this
    have hboxlt : ∀ k, (st.box k).isSome = true → m.bl k < w.heap.size := fun k hk => by
      cases hbx : st.box k with
      | none => rw [hbx] at hk; cases hk
      | some x =>
        obtain ⟨arr, h4, _⟩ := hm.box k x.1 x.2 hbx
        rcases Nat.lt_or_ge (m.bl k) w.heap.size with h | h
        · exact h
        · rw [Array.getElem?_eq_none h] at h4; cases h4
    have hSkeep : ∀ b, m.S b → b ∉ rwBlks f.sig.params (c.args.toList.map a.eval) ∧ b ∉ Blks rows := fun b hb =>
      ⟨fun hc => by obtain ⟨k, h1, rfl, _⟩ := hrwbox b hc; exact (hm.boxS k h1).1 hb, fun hc => (b5 b hc).1 (.inl hb)⟩
    have hrowkeep : ∀ id b, m.row id = some b → st4.dead id = false → w'.heap[b]? = w.heap[b]? := fun id b hb hd => by
      obtain ⟨d1, d2⟩ := hdead id hd
      obtain ⟨p1, p2, p3⟩ := hm.row id b hb d1
      refine hsame b p1 (fun hc => ?_) (fun hc => ?_)
      · obtain ⟨k, h1, h2, _⟩ := hrwbox b hc; exact p3 k h1 h2
      · obtain ⟨id', h1, h2⟩ := b3 b hc
        have := hm.rowI id id' b hb h2 d1 (b8 id' h1).1
        exact d2 (this ▸ h1)
    have hlat : Later m st w m' st4 w' := by
      refine ⟨fun b hb => by rw [mS]; exact hS1 b (.inl hb), fun b hb => hsame b (hm.S b hb) (hSkeep b hb).1 (hSkeep b hb).2, hused, fun id h1 h2 => ?_, fun k hk => ⟨(hbs k).2 hk, by rw [mbl]⟩⟩
      have hne : id.1 ≠ key := fun he => by rw [he, hu] at h1; cases h1
      refine ⟨(hdead id h2).1, by rw [mrow]; simp [Emb.withRows, hne], by rw [mval]; simp [Emb.withRows, hne], fun b hb => hrowkeep id b hb h2⟩
    have hrow : ∀ (id : Id) (b : Nat), m'.row id = some b → (id.1 ≠ key ∧ m.row id = some b) ∨ (id.1 = key ∧ (rows'[id.2]?).bind (·.1) = some b) := fun id b hb => withRows_row (m := m) (key := key) (rows := rows') (id := id) (b := b) (by rw [← mrow]; exact hb)
    have hdk : ∀ id : Id, id.1 = key → st4.ice id = false := fun id he => by
      rw [eice]
      simp only [Bool.or_eq_false_iff]
      constructor
      · cases hd : st.ice id with
        | false => rfl
        | true => have := hm.iceU id hd; rw [he, hu] at this; cases this
      · cases hd : (f.sig.cold ls).contains id with
        | false => rfl
        | true => have := (b7 id (List.contains_iff_mem.1 hd)).2; rw [he, hu] at this; cases this
    have hnew : ∀ b ∈ Blks rows', (∃ id ∈ ownIds f.sig.ins ls, m.row id = some b) ∨ w.heap.size ≤ b := fun b hb => by
      rcases (hblk b hb).2.2.2 with h1 | h1
      · exact .inl (b3 b h1)
      · exact .inr h1
    have hrel : Rel E.F base Mod w0 m' st4 a w' := by
      refine ⟨h.defers, h.size, fun t => (by
        rcases eslot t with e | e <;> rw [e]
        · exact RelAV.later hlat (h.slot t)
        · exact RelAV.ren hlat hrf (h.slot t)), ⟨?_, ?_, ?_, ?_, ?_, ?_, ?_, ?_, ?_, ?_, ?_⟩, h.frm.trans hfrm ?_, ⟨by rw [mbl]; exact h.fix.1, fun b hb => by rw [mS]; exact hS1 b (.inl (h.fix.2.1 b hb)), fun b hb => by
        rw [mS] at hb
        rcases hS2 b hb with (h1 | ⟨id, hi, h1⟩) | h1 | h1
        · exact h.fix.2.2 b h1
        · exact .inr (hm.row id b h1 (b7 id hi).1).2.1
        · exact .inr (b5 b h1).2.2.1
        · exact .inr (.inl (by rw [h.frm.at0]; exact Nat.le_trans h.frm.size h1))⟩, h.glob⟩
      · intro k T l hk
        by_cases hkp : k ∈ pairs.map (·.1)
        · obtain ⟨p, hp, rfl⟩ := List.mem_map.1 hkp
          have := setBoxes_mem pairs st3 p.1 p.2 hpn hp
          rw [hst4, hk] at this
          injection this with heq
          have := o1 p hp
          rw [← heq] at this
          exact this
        · have := setBoxes_not pairs st3 k hkp
          rw [hst4, hk] at this
          have hks : (st.box k).isSome = true := by rw [← ebs3, ← this]; rfl
          obtain ⟨arr, h1, h2⟩ : ∃ arr, w.heap[m.bl k]? = some (.cells arr T (0, 0)) ∧ All2 (RelAC m' st4 w') l arr.toList := by
            rcases ebox3 k with e | e
            · rw [e] at this
              obtain ⟨arr, h1, h2⟩ := hm.box k T l this.symm
              exact ⟨arr, h1, RelAC.laters hlat h2⟩
            · rw [e] at this
              obtain ⟨q, hq, he⟩ := Option.map_eq_some_iff.1 this.symm
              simp only [Prod.mk.injEq] at he
              obtain ⟨arr, h1, h2⟩ := hm.box k q.1 q.2 hq
              rw [he.1] at h1
              rw [← he.2]
              exact ⟨arr, h1, All2.ren hlat hrf h2⟩
          refine ⟨arr, ?_, h2⟩
          rw [mbl, ← h1]
          refine hsame _ (hboxlt k hks) (fun hc => hkp (hrwpair _ hc k hks rfl)) (fun hc => ?_)
          exact (b5 _ hc).2.2.2 k hks rfl
      · intro k hk
        rw [hbs] at hk
        rw [mbl, mS, elock]
        refine ⟨fun hs => ?_, (hm.boxS k hk).2⟩
        rcases hS2 _ hs with h1 | h1 | h1
        · exact b6 k hk h1
        · exact (b5 _ h1).2.2.2 k hk rfl
        · have := hboxlt k hk; omega
      · intro k k' hk hk' he
        rw [hbs] at hk hk'
        rw [mbl] at he
        rw [elock]
        exact hm.boxI k k' hk hk' he
      · intro k hk
        rw [hbs] at hk
        exact hused k (hm.boxU k hk)
      · intro id b hb hd
        obtain ⟨d1, d2⟩ := hdead id hd
        rcases hrow id b hb with ⟨h1, h2⟩ | ⟨h1, h2⟩
        · obtain ⟨p1, p2, p3⟩ := hm.row id b h2 d1
          exact ⟨Nat.lt_of_lt_of_le p1 hfrm.size, p2, fun k hk => by rw [mbl]; exact p3 k ((hbs k).1 hk)⟩
        · have hmem := row_some h2
          obtain ⟨p1, p2, p3, p4⟩ := hblk b hmem
          refine ⟨p2, ?_, fun k hk he => ?_⟩
          · rcases p4 with p4 | p4
            · exact (b5 b p4).2.2.1
            · exact .inl (by rw [h.frm.at0]; exact Nat.le_trans h.frm.size p4)
          · rw [hbs] at hk
            rw [mbl] at he
            rcases p4 with p4 | p4
            · exact (b5 b p4).2.2.2 k hk he
            · have := hboxlt k hk; omega
      · intro id id' b hb hb' hd hd'
        obtain ⟨d1, d2⟩ := hdead id hd
        obtain ⟨d3, d4⟩ := hdead id' hd'
        rcases hrow id b hb with ⟨h1, h2⟩ | ⟨h1, h2⟩ <;> rcases hrow id' b hb' with ⟨h3, h4⟩ | ⟨h3, h4⟩
        · exact hm.rowI id id' b h2 h4 d1 d3
        · rcases hnew b (row_some h4) with ⟨i, hi, hib⟩ | hge
          · have := hm.rowI id i b h2 hib d1 (b8 i hi).1; exact absurd (this ▸ hi) d2
          · have := (hm.row id b h2 d1).1; omega
        · rcases hnew b (row_some h2) with ⟨i, hi, hib⟩ | hge
          · have := hm.rowI id' i b h4 hib d3 (b8 i hi).1; exact absurd (this ▸ hi) d4
          · have := (hm.row id' b h4 d3).1; omega
        · exact Prod.ext (h1.trans h3.symm) (row_inj hnd h2 h4)
      · intro id b hb hd
        obtain ⟨d1, d2⟩ := hdead id hd
        rw [mS]
        rcases hrow id b hb with ⟨h1, h2⟩ | ⟨h1, h2⟩
        · rw [eice]
          simp only [Bool.or_eq_true]
          constructor
          · intro hs
            rcases hS2 b hs with (h3 | ⟨i, hi, hib⟩) | h3 | h3
            · exact .inl ((hm.rowS id b h2 d1).1 h3)
            · have := hm.rowI id i b h2 hib d1 (b7 i hi).1
              exact .inr (this ▸ List.contains_iff_mem.2 hi)
            · obtain ⟨i, hi, hib⟩ := b3 b h3
              have := hm.rowI id i b h2 hib d1 (b8 i hi).1
              exact absurd (this ▸ hi) d2
            · have := (hm.row id b h2 d1).1; omega
          · rintro (h3 | h3)
            · exact hS1 b (.inl ((hm.rowS id b h2 d1).2 h3))
            · exact hS1 b (.inr ⟨id, List.contains_iff_mem.1 h3, h2⟩)
        · constructor
          · intro hs; exact absurd hs (hblk b (row_some h2)).1
          · intro hi; rw [hdk id h1] at hi; cases hi
      · intro id b hb
        rcases hrow id b hb with ⟨h1, h2⟩ | ⟨h1, h2⟩
        · exact hused _ (hm.rowU id b h2)
        · rw [h1]; exact husedk
      · intro b hb; rw [mS] at hb; exact hS3 b hb
      · intro id hi
        rw [eice] at hi
        simp only [Bool.or_eq_true] at hi
        rcases hi with hi | hi
        · exact hused _ (hm.iceU id hi)
        · exact hused _ (b7 id (List.contains_iff_mem.1 hi)).2
      · intro id hi
        rw [edead] at hi
        simp only [Bool.or_eq_true] at hi
        rcases hi with hi | hi
        · exact hused _ (hm.deadU id hi)
        · exact hused _ (b8 id (List.contains_iff_mem.1 hi)).2
      · rintro b (hb | hb)
        · obtain ⟨k, h1, rfl, h2⟩ := hrwbox b hb
          exact (hm.boxS k h1).2 h2
        · exact (b5 b hb).2.2.1
    refine hn _ _ _ _ _ hrel ?_ hK
    have := res_rel (lo := (splitCells f.sig.outs y (key, 0)).drop f.sig.res.length) hres hab1
    rwa [List.take_append_drop] at this
end
end Go.Proofs.Ytjokcjlpciecoaa.Rx
