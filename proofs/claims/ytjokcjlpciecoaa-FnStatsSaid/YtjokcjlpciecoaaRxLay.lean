/- A part of the evaluator and its soundness: Lay. No condition beside those that each theorem states. -/
import Derived.Test.YtjokcjlpciecoaaRxRegion
set_option linter.unusedSimpArgs false
set_option linter.unusedVariables false
namespace Go.Proofs.Ytjokcjlpciecoaa.Rx

/-- what lies where the items say -/
def ItemsAt (a : Act) (w : World) (bl : Nat → Nat) : List Item → List (List Value) → Prop
  | [], vss => vss = []
  | .slot t agg _ _ :: l, vss => ∃ vs vss', vss = vs :: vss' ∧ (if agg then a.tmps.getD t undef = .agg vs.toArray else vs = [a.tmps.getD t undef]) ∧ ItemsAt a w bl l vss'
  | .ptr t b :: l, vss => a.tmps.getD t undef = .pointer (some ⟨bl b, 0, none⟩) ∧ ItemsAt a w bl l vss
  | .fnp t f fst b :: l, vss => a.tmps.getD t undef = .func (.func f) (cond fst #[.pointer (some ⟨bl b, 0, none⟩)] #[]) (cond fst #[] #[.pointer (some ⟨bl b, 0, none⟩)]) ∧ ItemsAt a w bl l vss
  | .alias t (.slot t') :: l, vss => a.tmps.getD t undef = a.tmps.getD t' undef ∧ ItemsAt a w bl l vss
  | .alias t (.box b off) :: l, vss => (∃ cs T, w.heap[bl b]? = some (.cells cs T (0, 0)) ∧ cs[off]? = some (a.tmps.getD t undef)) ∧ ItemsAt a w bl l vss
  | .alias _ .no :: _, _ => False
  | .box b t _ _ _ :: l, vss => ∃ vs vss', vss = vs :: vss' ∧ w.heap[bl b]? = some (.cells vs.toArray t (0, 0)) ∧ ItemsAt a w bl l vss'

section
variable {E : Env} {base : Nat} {N : Rim} {Mod : Nat → Prop} {w0 : Org} {m : Emb} {st stF : St} {a : Act} {w : World}

theorem lay_dead : ∀ (l : List Item) (ms : List (List AC)) (st : St), (lay l ms st).dead = st.dead ∧ (lay l ms st).ice = st.ice
  | [], _, _ => ⟨rfl, rfl⟩
  | .slot t agg _ _ :: l, m :: ms, st => by simp only [lay]; exact lay_dead l ms _
  | .slot t agg _ _ :: l, [], st => ⟨rfl, rfl⟩
  | .ptr t b :: l, ms, st => by simp only [lay]; exact lay_dead l ms _
  | .fnp t f fst b :: l, ms, st => by simp only [lay]; exact lay_dead l ms _
  | .alias t src :: l, ms, st => by simp only [lay]; exact lay_dead l ms _
  | .box b t _ _ lk :: l, m :: ms, st => by simp only [lay]; cases lk <;> exact lay_dead l ms _
  | .box b t _ _ lk :: l, [], st => ⟨rfl, rfl⟩

theorem lay_used : ∀ (l : List Item) (ms : List (List AC)) (st : St) (k : Nat), (st.used k = true → (lay l ms st).used k = true) ∧ (st.lock k = true → (lay l ms st).lock k = true) ∧ ((st.box k).isSome = true → ((lay l ms st).box k).isSome = true)
  | [], _, _, _ => ⟨id, id, id⟩
  | .slot t agg _ _ :: l, m :: ms, st, k => by simp only [lay]; exact lay_used l ms (st.put t _) k
  | .slot t agg _ _ :: l, [], st, k => ⟨id, id, id⟩
  | .ptr t b :: l, ms, st, k => by simp only [lay]; exact lay_used l ms (st.put t _) k
  | .fnp t f fst b :: l, ms, st, k => by simp only [lay]; exact lay_used l ms (st.put t _) k
  | .alias t src :: l, ms, st, k => by simp only [lay]; exact lay_used l ms (st.put t _) k
  | .box b t _ _ lk :: l, m :: ms, st, k => by
    simp only [lay]
    cases lk with
    | true =>
      obtain ⟨h1, h2, h3⟩ := lay_used l ms (((st.setBox b (t, m)).use b).bar b) k
      refine ⟨fun h => h1 ?_, fun h => h2 ?_, fun h => h3 ?_⟩
      · show (if k = b then true else st.used k) = true; split <;> simp [h]
      · show (if k = b then true else st.lock k) = true; split <;> simp [h]
      · show ((if k = b then some (t, m) else st.box k)).isSome = true; split <;> simp [h]
    | false =>
      obtain ⟨h1, h2, h3⟩ := lay_used l ms ((st.setBox b (t, m)).use b) k
      refine ⟨fun h => h1 ?_, fun h => h2 h, fun h => h3 ?_⟩
      · show (if k = b then true else st.used k) = true; split <;> simp [h]
      · show ((if k = b then some (t, m) else st.box k)).isSome = true; split <;> simp [h]
  | .box b t _ _ lk :: l, [], st, k => ⟨id, id, id⟩

/-- the slots that are laid -/
theorem lay_slot : ∀ (l : List Item) (ms : List (List AC)) (vss : List (List Value)) (st : St), (∀ t, RelAV m stF w (st.slot t) (a.tmps.getD t undef)) → (∀ k T c, st.box k = some (T, c) → ∃ arr, w.heap[m.bl k]? = some (.cells arr T (0, 0)) ∧ All2 (RelAC m stF w) c arr.toList) → All2 (All2 (RelAC m stF w)) ms vss →
    ItemsAt a w m.bl l vss → (∀ b ∈ Item.ptrs l, (stF.box b).isSome = true) → ∀ t, RelAV m stF w ((lay l ms st).slot t) (a.tmps.getD t undef)
  | [], _, _, st, h, _, _, _, _ => h
  | .slot t agg c own :: l, ms, vss, st, h, hbx, hr, hi, hp => by
    obtain ⟨vs, vss', rfl, h1, h2⟩ := hi
    match ms, hr with
    | x :: ms, hr =>
      simp only [lay]
      refine lay_slot l ms vss' _ (fun t' => ?_) hbx hr.2 h2 hp
      show RelAV m stF w (if t' = t then _ else st.slot t') _
      split
      · rename_i e; subst e
        cases agg with
        | true => simp only [if_true] at h1 ⊢; exact ⟨_, h1, hr.1⟩
        | false =>
          simp only [Bool.false_eq_true, if_false] at h1 ⊢
          subst h1
          match x, hr.1 with
          | [y], hx => exact hx.1
          | [], hx => exact hx.elim
          | _ :: _ :: _, hx => exact hx.2.elim
      · exact h t'
    | [], hr => exact hr.elim
  | .ptr t b :: l, ms, vss, st, h, hbx, hr, hi, hp => by
    simp only [lay]
    refine lay_slot l ms vss _ (fun t' => ?_) hbx hr hi.2 (fun b' hb' => hp b' (by simp [Item.ptrs, hb']))
    show RelAV m stF w (if t' = t then _ else st.slot t') _
    split
    · rename_i e; subst e
      exact ⟨hp b (by simp [Item.ptrs]), hi.1⟩
    · exact h t'
  | .fnp t f fst b :: l, ms, vss, st, h, hbx, hr, hi, hp => by
    simp only [lay]
    refine lay_slot l ms vss _ (fun t' => ?_) hbx hr hi.2 (fun b' hb' => hp b' (by simp [Item.ptrs, hb']))
    show RelAV m stF w (if t' = t then _ else st.slot t') _
    split
    · rename_i e; subst e
      refine ⟨fun p hp' => ?_, hi.1.trans (by cases fst <;> rfl)⟩
      obtain rfl : p = (b, 0) := by simpa using hp'
      exact hp b (by simp [Item.ptrs])
    · exact h t'
  | .box b t c own lk :: l, ms, vss, st, h, hbx, hr, hi, hp => by
    obtain ⟨vs, vss', rfl, h1, h2⟩ := hi
    match ms, hr with
    | x :: ms, hr =>
      simp only [lay]
      refine lay_slot l ms vss' _ (fun t' => ?_) (fun k T c' hk => ?_) hr.2 h2 hp
      · cases lk <;> exact h t'
      · have hk' : (if k = b then some (t, x) else st.box k) = some (T, c') := by cases lk <;> exact hk
        split at hk'
        · rename_i e; subst e
          simp only [Option.some.injEq, Prod.mk.injEq] at hk'
          obtain ⟨rfl, rfl⟩ := hk'
          exact ⟨_, h1, hr.1⟩
        · exact hbx k T c' hk'
    | [], hr => exact hr.elim
  | .alias t src :: l, ms, vss, st, h, hbx, hr, hi, hp => by
    simp only [lay]
    have key : RelAV m stF w (aliasOf st src) (a.tmps.getD t undef) ∧ ItemsAt a w m.bl l vss := by
      cases src with
      | no => exact hi.elim
      | slot t2 =>
        refine ⟨?_, hi.2⟩
        have := hi.1
        rw [this]; exact h t2
      | box b off =>
        refine ⟨?_, hi.2⟩
        obtain ⟨cs, T, h1, h2⟩ := hi.1
        simp only [aliasOf]
        cases hb : st.box b with
        | none => exact RelAV.bad _
        | some q =>
          obtain ⟨T', c⟩ := q
          obtain ⟨arr, h3, h4⟩ := hbx b T' c hb
          rw [h1] at h3
          simp only [Option.some.injEq, Obj.cells.injEq] at h3
          obtain ⟨rfl, rfl, _⟩ := h3
          simp only
          cases hx : c[off]? with
          | none => exact RelAV.bad _
          | some x =>
            obtain ⟨v, h5, h6⟩ := h4.get hx
            simp only [Array.getElem?_toList] at h5
            rw [h2] at h5
            simp only [Option.some.injEq] at h5
            rw [h5]; exact h6
    refine lay_slot l ms vss _ (fun t' => ?_) hbx hr key.2 (fun b' hb' => hp b' (by cases src <;> simp [Item.ptrs, hb']))
    show RelAV m stF w (if t' = t then _ else st.slot t') _
    split
    · rename_i e; subst e; exact key.1
    · exact h t'

/-- the boxes that are laid -/
theorem lay_box : ∀ (l : List Item) (ms : List (List AC)) (vss : List (List Value)) (st : St), All2 (All2 (RelAC m stF w)) ms vss → ItemsAt a w m.bl l vss →
    (∀ k T c, (lay l ms st).box k = some (T, c) → st.box k = some (T, c) ∨ (k ∈ Item.boxes l ∧ ∃ arr, w.heap[m.bl k]? = some (.cells arr T (0, 0)) ∧ All2 (RelAC m stF w) c arr.toList)) ∧
    (∀ k ∈ Item.boxes l, ((lay l ms st).box k).isSome = true ∧ (lay l ms st).used k = true)
  | [], _, _, st, _, _ => ⟨fun k T c h => .inl h, fun k hk => by simp [Item.boxes] at hk⟩
  | .slot t agg c own :: l, ms, vss, st, hr, hi => by
    obtain ⟨vs, vss', rfl, h1, h2⟩ := hi
    match ms, hr with
    | x :: ms, hr => simp only [lay]; exact lay_box l ms vss' _ hr.2 h2
    | [], hr => exact hr.elim
  | .ptr t b :: l, ms, vss, st, hr, hi => by simp only [lay]; exact lay_box l ms vss _ hr hi.2
  | .fnp t f fst b :: l, ms, vss, st, hr, hi => by simp only [lay]; exact lay_box l ms vss _ hr hi.2
  | .alias t src :: l, ms, vss, st, hr, hi => by simp only [lay]; exact lay_box l ms vss _ hr (by cases src with | no => exact hi.elim | slot => exact hi.2 | box => exact hi.2)
  | .box b t c own lk :: l, ms, vss, st, hr, hi => by
    obtain ⟨vs, vss', rfl, h1, h2⟩ := hi
    match ms, hr with
    | x :: ms, hr =>
      simp only [lay]
      generalize hst : cond lk (((st.setBox b (t, x)).use b).bar b) ((st.setBox b (t, x)).use b) = st1
      have e1 : st1.box = fun n => if n = b then some (t, x) else st.box n := by subst hst; cases lk <;> rfl
      have e2 : st1.used b = true := by subst hst; cases lk <;> simp [St.use, St.bar, St.setBox]
      obtain ⟨i1, i2⟩ := lay_box l ms vss' st1 hr.2 h2
      refine ⟨fun k T c' hk => ?_, fun k hk => ?_⟩
      · rcases i1 k T c' hk with h | ⟨h3, h4⟩
        · rw [e1] at h
          simp only at h
          split at h
          · rename_i e; subst e
            simp only [Option.some.injEq, Prod.mk.injEq] at h
            obtain ⟨rfl, rfl⟩ := h
            exact .inr ⟨by simp [Item.boxes], _, h1, hr.1⟩
          · exact .inl h
        · exact .inr ⟨by simp [Item.boxes, h3], h4⟩
      · simp only [Item.boxes, List.mem_cons] at hk
        rcases hk with rfl | hk
        · obtain ⟨u1, _, u3⟩ := lay_used l ms st1 k
          exact ⟨u3 (by rw [e1]; simp), u1 e2⟩
        · exact i2 k hk
    | [], hr => exact hr.elim

/-- a state that is laid out, of what there is -/
theorem lay_rel {l : List Item} {ms : List (List AC)} {vss : List (List Value)} {rows : List Row} (hst : stF = lay l ms .blank) (hrow : m.row = fun id => if id.1 = 0 then (rows[id.2]?).bind (·.1) else none)
    (hparts : All2 (All2 (RelAC m stF w)) ms vss) (hitems : ItemsAt a w m.bl l vss) (hS : ∀ b, m.S b → b < w.heap.size) (hnd : (Blks rows).Nodup)
    (hrows : ∀ b ∈ Blks rows, ¬ m.S b ∧ b < w.heap.size ∧ (base ≤ b ∨ Mod b) ∧ ∀ k ∈ Item.boxes l, m.bl k ≠ b)
    (hbS : ∀ k ∈ Item.boxes l, ¬ m.S (m.bl k)) (hbI : ∀ k k', k ∈ Item.boxes l → k' ∈ Item.boxes l → m.bl k = m.bl k' → k = k' ∨ (stF.lock k = true ∧ stF.lock k' = true)) (hlk : ∀ k ∈ Item.boxes l, stF.lock k = false → base ≤ m.bl k ∨ Mod (m.bl k))
    (hptr : ∀ b ∈ Item.ptrs l, b ∈ Item.boxes l) (hd : ActOk N w0 a) (hN : a.tmps.size = N.1) (hfrm : Frm base Mod w0.w w) (hfix : Since w0 base Mod m) (hglob : Glob N w0 base Mod) : Rel N base Mod w0 m stF a w := by
  subst hst
  obtain ⟨b1, b2⟩ := lay_box l ms vss .blank hparts hitems
  have hbox : ∀ k, ((lay l ms .blank).box k).isSome = true → k ∈ Item.boxes l := fun k hk => by
    obtain ⟨x, hx⟩ := Option.isSome_iff_exists.1 hk
    rcases b1 k x.1 x.2 hx with h | h
    · cases h
    · exact h.1
  obtain ⟨d1, d2⟩ := lay_dead l ms .blank
  have hr : ∀ id b, m.row id = some b → id.1 = 0 ∧ (rows[id.2]?).bind (·.1) = some b := fun id b hb => by
    rw [hrow] at hb
    simp only at hb
    split at hb
    · exact ⟨by assumption, hb⟩
    · cases hb
  refine ⟨hd, hN, lay_slot l ms vss .blank (fun t => RelAV.bad _) (fun k T c h => by cases h) hparts hitems (fun b hb => (b2 b (hptr b hb)).1), ⟨?_, ?_, ?_, ?_, ?_, ?_, ?_, ?_, ?_, ?_, ?_⟩, hfrm, hfix, hglob⟩
  · intro k T c hk
    rcases b1 k T c hk with h | h
    · cases h
    · exact h.2
  · intro k hk; exact ⟨hbS k (hbox k hk), hlk k (hbox k hk)⟩
  · intro k k' hk hk'; exact hbI k k' (hbox k hk) (hbox k' hk')
  · intro k hk; exact (b2 k (hbox k hk)).2
  · intro id b hb _
    obtain ⟨h1, h2⟩ := hr id b hb
    obtain ⟨_, h3, h4, h5⟩ := hrows b (row_some h2)
    exact ⟨h3, h4, fun k hk => h5 k (hbox k hk)⟩
  · intro id id' b hb hb' _ _
    obtain ⟨h1, h2⟩ := hr id b hb
    obtain ⟨h3, h4⟩ := hr id' b hb'
    exact Prod.ext (h1.trans h3.symm) (row_inj hnd h2 h4)
  · intro id b hb _
    obtain ⟨h1, h2⟩ := hr id b hb
    rw [d2]
    exact ⟨fun h => absurd h (hrows b (row_some h2)).1, fun h => by cases h⟩
  · intro id b hb
    rw [(hr id b hb).1]
    exact (lay_used l ms .blank 0).1 rfl
  · exact hS
  · intro id hi; rw [d2] at hi; cases hi
  · intro id hi; rw [d1] at hi; cases hi

/-- what is packed -/
theorem packParts_rel (h : Rel N base Mod w0 m st a w) : ∀ {l : List Item} {ls : List (List AC)}, packParts st l = some ls →
    ∃ vss, All2 (All2 (RelAC m st w)) ls vss ∧ ItemsAt a w m.bl l vss ∧ (∀ k ∈ Item.boxes l, (st.box k).isSome = true) ∧
      (∀ ms st0, ms.length = ls.length → ∀ k ∈ Item.boxes l, (lay l ms st0).lock k = false → st.lock k = false)
  | [], ls, hp => by
    simp only [packParts, Option.some.injEq] at hp; subst hp
    exact ⟨[], trivial, rfl, by simp [Item.boxes], by simp [Item.boxes]⟩
  | .slot t agg c own :: l, ls, hp => by
    simp only [packParts] at hp
    split at hp <;> try cases hp
    rename_i x ls' h1 h2
    obtain ⟨vss, i1, i2, i3, i4⟩ := packParts_rel h h2
    have hv := h.slot t
    have hlay : ∀ ms st0, ms.length = (x :: ls').length → ∀ k ∈ Item.boxes l, (lay (.slot t agg c own :: l) ms st0).lock k = false → st.lock k = false := fun ms st0 hl k hk hlk => by
      match ms, hl with
      | y :: ms, hl => simp only [lay] at hlk; exact i4 ms _ (by simpa using hl) k hk hlk
    cases agg with
    | true =>
      cases hs : st.slot t <;> simp only [hs, slotCells] at h1 <;> try (cases h1; done)
      simp only [Option.some.injEq] at h1; subst h1
      rw [hs] at hv
      obtain ⟨arr, h3, h4⟩ := hv
      exact ⟨arr.toList :: vss, ⟨h4, i1⟩, ⟨_, _, rfl, by simpa using h3, i2⟩, i3, hlay⟩
    | false =>
      cases hs : st.slot t <;> simp only [hs, slotCells] at h1 <;> try (cases h1; done)
      simp only [Option.some.injEq] at h1; subst h1
      rw [hs] at hv
      exact ⟨[_] :: vss, ⟨⟨hv, trivial⟩, i1⟩, ⟨_, _, rfl, rfl, i2⟩, i3, hlay⟩
  | .ptr t b :: l, ls, hp => by
    simp only [packParts] at hp
    split at hp <;> try cases hp
    rename_i b' hs
    split at hp
    · rename_i e; subst e
      obtain ⟨vss, i1, i2, i3, i4⟩ := packParts_rel h hp
      have hv := h.slot t
      rw [hs] at hv
      exact ⟨vss, i1, ⟨hv.2, i2⟩, i3, fun ms st0 hl k hk hlk => i4 ms _ hl k hk (by simpa only [lay] using hlk)⟩
    · cases hp
  | .fnp t f fst b :: l, ls, hp => by
    simp only [packParts] at hp
    split at hp <;> try cases hp
    rename_i f' fst' b' hs
    split at hp
    · rename_i e
      simp only [Bool.and_eq_true, decide_eq_true_eq] at e
      obtain ⟨⟨rfl, rfl⟩, rfl⟩ := e
      obtain ⟨vss, i1, i2, i3, i4⟩ := packParts_rel h hp
      have hv := h.slot t
      rw [hs] at hv
      exact ⟨vss, i1, ⟨hv.2.trans (by cases fst' <;> rfl), i2⟩, i3, fun ms st0 hl k hk hlk => i4 ms _ hl k hk (by simpa only [lay] using hlk)⟩
    · cases hp
  | .alias t src :: l, ls, hp => by
    simp only [packParts] at hp
    split at hp <;> try cases hp
    rename_i id id' hs hs'
    split at hp
    case isFalse => cases hp
    rename_i e
    simp only [Bool.and_eq_true, decide_eq_true_eq, Bool.not_eq_true'] at e
    obtain ⟨rfl, hd⟩ := e
    obtain ⟨vss, i1, i2, i3, i4⟩ := packParts_rel h hp
    have hval : ∀ (x : AV) (v : Value), x.rowId = some id' → RelAV m st w x v → v = m.val id' := fun x v hx hv => by
      unfold AV.rowId at hx
      split at hx
      · simp only [Option.some.injEq] at hx
        subst hx
        obtain ⟨_, _, hv⟩ := hv
        simp only [if_true] at hv
        rcases hv with hv | ⟨a, n, cap, _, _, _, hv⟩
        · rw [hd] at hv; cases hv
        · exact hv rfl
      · cases hx
    have hv := hval _ _ hs (h.slot t)
    refine ⟨vss, i1, ?_, i3, fun ms st0 hl k hk hlk => i4 ms _ hl k hk (by simpa only [lay] using hlk)⟩
    cases src with
    | no => cases hs'
    | slot t2 => exact ⟨hv.trans (hval _ _ hs' (h.slot t2)).symm, i2⟩
    | box b off =>
      refine ⟨?_, i2⟩
      simp only [aliasOf] at hs'
      cases hb : st.box b with
      | none => rw [hb] at hs'; cases hs'
      | some q =>
        obtain ⟨T, c⟩ := q
        rw [hb] at hs'
        simp only at hs'
        obtain ⟨arr, h1, h2⟩ := h.mem.box b T c hb
        cases hx : c[off]? with
        | none => rw [hx] at hs'; cases hs'
        | some x =>
          rw [hx] at hs'
          obtain ⟨v, h5, h6⟩ := h2.get hx
          simp only [Array.getElem?_toList] at h5
          refine ⟨arr, T, h1, ?_⟩
          rw [h5, hv, hval (.one x) v hs' h6]
  | .box b t c own lk :: l, ls, hp => by
    simp only [packParts] at hp
    split at hp <;> try cases hp
    rename_i x ls' h1 h2
    obtain ⟨vss, i1, i2, i3, i4⟩ := packParts_rel h h2
    unfold boxCells at h1
    split at h1
    · rename_i t' l' hb
      split at h1
      · rename_i hc
        simp only [Option.some.injEq] at h1; subst h1
        simp only [Bool.and_eq_true, decide_eq_true_eq, Bool.or_eq_true, Bool.not_eq_true'] at hc
        obtain ⟨rfl, hlk⟩ := hc
        obtain ⟨arr, h3, h4⟩ := h.mem.box b t' _ hb
        refine ⟨arr.toList :: vss, ⟨h4, i1⟩, ⟨_, _, rfl, by simpa using h3, i2⟩, fun k hk => ?_, fun ms st0 hl k hk hlk' => ?_⟩
        · simp only [Item.boxes, List.mem_cons] at hk
          rcases hk with rfl | hk
          · simp [hb]
          · exact i3 k hk
        · match ms, hl with
          | y :: ms, hl =>
            simp only [lay] at hlk'
            simp only [Item.boxes, List.mem_cons] at hk
            rcases hk with rfl | hk
            · rcases hlk with hlk | hlk
              · subst hlk
                have := (lay_used l ms (((st0.setBox k (t', y)).use k).bar k) k).2.1 (by simp [St.bar])
                simp only [cond_true] at hlk'
                rw [this] at hlk'; cases hlk'
              · exact hlk
            · exact i4 ms _ (by simpa using hl) k hk hlk'
      · cases h1
    · cases h1

/-- what is packed and laid out again -/
theorem pack_rel (h : Rel N base Mod w0 m st a w) {l : List Item} {x : Item.T l} (hp : pack l st = some x) : ∃ m', Rel N base Mod w0 m' (unpack l x) a w := by
  unfold pack at hp
  split at hp
  · cases hp
  rename_i ls hls
  split at hp
  case isFalse => cases hp
  rename_i hc
  simp only [Bool.and_eq_true] at hc
  obtain ⟨⟨hok, hdist⟩, hptr⟩ := hc
  obtain ⟨vss, p1, p2, p3, p4⟩ := packParts_rel h hls
  obtain ⟨rows, b1, b2, b3, b4, b5, b6, b7, b8⟩ := handed h.mem hok hp p1
  let m' : Emb := ({ m with row := fun _ => none, S := m.lent (roIds (Item.kinds l) ls) } : Emb).withRows 0 rows
  have hab := parts_abs (m := m') (st := unpack l x) (w := w) (key := 0) ((lay_used l _ .blank 0).1 rfl) 0 b1 (fun j p hj => withRows_get (m := { m with row := fun _ => none, S := m.lent (roIds (Item.kinds l) ls) }) j p hj)
  refine ⟨m', lay_rel (rows := rows) rfl rfl hab p2 b4 b2 (fun b hb => ?_) (fun k hk => b6 k (p3 k hk)) (fun k k' hk hk' he => (h.mem.boxI k k' (p3 k hk) (p3 k' hk') he).imp id fun hl => by
    have hlk : ∀ k ∈ Item.boxes l, st.lock k = true → (unpack l x).lock k = true := fun k hk hl => by
      cases hc : (unpack l x).lock k with
      | true => rfl
      | false => have := p4 _ _ (by rw [hab.length, ← p1.length]) k hk hc; rw [hl] at this; cases this
    exact ⟨hlk k hk hl.1, hlk k' hk' hl.2⟩) (fun k hk hlk => ?_) (fun b hb => ?_) h.defers h.size h.frm ⟨h.fix.1, fun b hb => .inl (h.fix.2.1 b hb), fun b hb => ?_⟩ h.glob⟩
  · obtain ⟨q1, q2, q3, q4⟩ := b5 b hb
    exact ⟨q1, q2, q3, fun k hk => q4 k (p3 k hk)⟩
  · exact (h.mem.boxS k (p3 k hk)).2 (p4 _ _ (by rw [hab.length, ← p1.length]) k hk hlk)
  · exact List.contains_iff_mem.1 (List.all_eq_true.1 hptr b hb)
  · rcases hb with hb | ⟨id, hi, hb⟩
    · exact h.fix.2.2 b hb
    · exact .inr (h.mem.row id b hb (b7 id hi).1).2.1
end
end Go.Proofs.Ytjokcjlpciecoaa.Rx
