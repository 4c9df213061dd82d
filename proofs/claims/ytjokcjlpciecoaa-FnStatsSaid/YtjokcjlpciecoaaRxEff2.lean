/- A part of the evaluator and its soundness: Eff2. No condition beside those that each theorem states. -/
import Derived.Test.YtjokcjlpciecoaaRxEff
set_option linter.unusedSimpArgs false
set_option linter.unusedVariables false
namespace Go.Proofs.Ytjokcjlpciecoaa.Rx

theorem freezeAll_eq : ∀ (l : List Id) (st : St), st.freezeAll l = { st with ice := fun n => st.ice n || l.contains n }
  | [], st => by simp [St.freezeAll]
  | id :: l, st => by
    simp only [St.freezeAll]
    rw [freezeAll_eq l]
    simp only [St.freeze]
    congr 1
    funext n
    by_cases h : n = id
    · subst h; simp
    · simp [h]

theorem killAll_eq : ∀ (l : List Id) (st : St), st.killAll l = { st with dead := fun n => st.dead n || l.contains n }
  | [], st => by simp [St.killAll]
  | id :: l, st => by
    simp only [St.killAll]
    rw [killAll_eq l]
    simp only [St.kill]
    congr 1
    funext n
    by_cases h : n = id
    · subst h; simp
    · simp [h]

theorem fresh_spec {st : St} {l : List AC} (h : st.fresh l = true) : ∀ id ∈ AC.ids l, st.dead id = false := by
  intro id hi
  unfold St.fresh at h
  have := List.all_eq_true.1 h id hi
  simpa using this

theorem rights_spec {st : St} {id : Id} (h : st.rights id = true) : st.dead id = false ∧ st.ice id = false := by
  unfold St.rights at h; simpa using h

section
variable {E : Env} {base : Nat} {Mod : Nat → Prop} {w0 : Org} {m : Emb} {st : St} {a : Act} {w : World} {key : Nat} {o : Oper} {R : Type} {K : AV → St → Option R} {r : R}

theorem ids_used {l : List AC} {vs : List Value} (h : All2 (RelAC m st w) l vs) : ∀ id ∈ AC.ids l, st.used id.1 = true := by
  induction l generalizing vs with
  | nil => intro id hi; simp [AC.ids] at hi
  | cons x l ih => cases vs with
    | nil => exact h.elim
    | cons v vs =>
      intro id hi
      rw [AC.ids_cons] at hi
      rcases List.mem_append.1 hi with hi | hi
      · cases x with
        | sl id' own vw e c xs src =>
          cases own with
          | true =>
            simp [AC.ids] at hi
            subst hi
            exact h.1.1 rfl
          | false => simp [AC.ids] at hi
        | _ => simp [AC.ids] at hi
      · exact ih h.2 id hi

def Emb.frozen (m : Emb) (ids : List Id) : Emb := { m with S := fun b => m.S b ∨ ∃ id ∈ ids, m.row id = some b }
def Emb.movedRow (m : Emb) (id id' : Id) (v : Value) : Emb := { m with row := fun i => if i = id' then m.row id else m.row i, val := fun i => if i = id' then v else m.val i }

/-- rows are shared from now on -/
theorem freeze_rel {ids : List Id} (h : Rel E.F base Mod w0 m st a w) (hu : ∀ id ∈ ids, st.used id.1 = true) (hd : ∀ id ∈ ids, st.dead id = false) :
    Rel E.F base Mod w0 (m.frozen ids) (st.freezeAll ids) a w ∧ Later m st w (m.frozen ids) (st.freezeAll ids) w := by
  have hlat : Later m st w (m.frozen ids) (st.freezeAll ids) w := by
    rw [freezeAll_eq]
    exact ⟨fun b hb => .inl hb, fun _ _ => rfl, fun _ h => h, fun id _ h2 => ⟨h2, rfl, rfl, fun _ _ => rfl⟩, fun k hk => ⟨hk, rfl⟩⟩
  refine ⟨⟨h.defers, h.size, fun t => ?_, ?_, h.frm, ⟨h.fix.1, fun b hb => .inl (h.fix.2.1 b hb), fun b hb => ?_⟩, h.glob⟩, hlat⟩
  rotate_left 2
  · rcases hb with hb | ⟨id, hi, hb⟩
    · exact h.fix.2.2 b hb
    · exact .inr (h.mem.row id b hb (hd id hi)).2.1
  · have hs : (st.freezeAll ids).slot = st.slot := by rw [freezeAll_eq]
    rw [hs]; exact RelAV.later hlat (h.slot t)
  · have hb : (st.freezeAll ids).box = st.box := by rw [freezeAll_eq]
    have hl : (st.freezeAll ids).lock = st.lock := by rw [freezeAll_eq]
    have hus : (st.freezeAll ids).used = st.used := by rw [freezeAll_eq]
    have hde : (st.freezeAll ids).dead = st.dead := by rw [freezeAll_eq]
    have hic : ∀ id, (st.freezeAll ids).ice id = (st.ice id || ids.contains id) := fun id => by rw [freezeAll_eq]
    refine ⟨fun k T l hk => ?_, fun k hk => ?_, fun k k' hk hk' => ?_, fun k hk => ?_, fun id b hr hd' => ?_, fun id id' b h1 h2 h3 h4 => ?_, fun id b hr hd' => ?_, fun id b hr => ?_, fun b hb' => ?_, fun id hi => ?_, fun id hi => ?_⟩
    · rw [hb] at hk
      obtain ⟨arr, h1, h2⟩ := h.mem.box k T l hk
      exact ⟨arr, h1, RelAC.laters hlat h2⟩
    · rw [hb] at hk
      rw [hl]
      refine ⟨fun hs => ?_, (h.mem.boxS k hk).2⟩
      rcases hs with hs | ⟨id, hi, hr⟩
      · exact (h.mem.boxS k hk).1 hs
      · exact (h.mem.row id _ hr (hd id hi)).2.2 k hk rfl
    · rw [hb] at hk hk'; rw [show (st.freezeAll ids).lock = st.lock by rw [freezeAll_eq]]; exact h.mem.boxI k k' hk hk'
    · rw [hb] at hk; rw [hus]; exact h.mem.boxU k hk
    · rw [hde] at hd'; rw [hb]; exact h.mem.row id b hr hd'
    · rw [hde] at h3 h4; exact h.mem.rowI id id' b h1 h2 h3 h4
    · rw [hde] at hd'
      rw [hic]
      have := h.mem.rowS id b hr hd'
      simp only [Emb.frozen, Bool.or_eq_true, List.contains_iff_mem]
      constructor
      · rintro (hs | ⟨id', hi', hr'⟩)
        · exact .inl (this.1 hs)
        · right; rwa [h.mem.rowI id id' b hr hr' hd' (hd id' hi')]
      · rintro (hs | hs)
        · exact .inl (this.2 hs)
        · exact .inr ⟨id, hs, hr⟩
    · rw [hus]; exact h.mem.rowU id b hr
    · rcases hb' with hb' | ⟨id, hi, hr⟩
      · exact h.mem.S b hb'
      · exact (h.mem.row id b hr (hd id hi)).1
    · rw [hic] at hi
      rw [hus]
      simp only [Bool.or_eq_true, List.contains_iff_mem] at hi
      rcases hi with hi | hi
      · exact h.mem.iceU id hi
      · exact hu id hi
    · rw [hde] at hi; rw [hus]; exact h.mem.deadU id hi

/-- a slot told otherwise -/
theorem Rel.tell (h : Rel E.F base Mod w0 m st a w) {t : Nat} {x : AV} (hx : RelAV m st w x (a.tmps.getD t undef)) : Rel E.F base Mod w0 m (st.put t x) a w := by
  have hlat : Later m st w m (st.put t x) w := ⟨fun _ h => h, fun _ _ => rfl, fun _ h => h, fun _ _ h => ⟨h, rfl, rfl, fun _ _ => rfl⟩, fun _ h => ⟨h, rfl⟩⟩
  refine ⟨h.defers, h.size, fun t' => ?_, ⟨h.mem.box, h.mem.boxS, h.mem.boxI, h.mem.boxU, h.mem.row, h.mem.rowI, h.mem.rowS, h.mem.rowU, h.mem.S, h.mem.iceU, h.mem.deadU⟩, h.frm, h.fix, h.glob⟩
  show RelAV m (st.put t x) w (if t' = t then x else st.slot t') _
  split
  · rename_i e; subst e; exact RelAV.later hlat hx
  · exact RelAV.later hlat (h.slot t')

/-- a box's cells told otherwise -/
theorem Rel.tellBox (h : Rel E.F base Mod w0 m st a w) {b : Nat} {T : TypeId} {l l' : List AC} (hb : st.box b = some (T, l)) (hx : ∀ arr, w.heap[m.bl b]? = some (.cells arr T (0, 0)) → All2 (RelAC m st w) l arr.toList → All2 (RelAC m st w) l' arr.toList) :
    Rel E.F base Mod w0 m (st.setBox b (T, l')) a w := by
  have hbs : (st.box b).isSome = true := by simp [hb]
  have hlat : Later m st w m (st.setBox b (T, l')) w := ⟨fun _ h => h, fun _ _ => rfl, fun _ h => h, fun _ _ h => ⟨h, rfl, rfl, fun _ _ => rfl⟩, fun k hk => ⟨by rw [setBox_some]; split <;> simp [hk], rfl⟩⟩
  have hbk : ∀ k, ((st.setBox b (T, l')).box k).isSome = true → (st.box k).isSome = true := fun k hk => by
    rw [setBox_some] at hk
    split at hk
    · rename_i e; rw [e]; exact hbs
    · exact hk
  refine ⟨h.defers, h.size, fun t' => RelAV.later hlat (h.slot t'), ⟨fun k T' l2 hk => ?_, fun k hk => h.mem.boxS k (hbk k hk), fun k k' hk hk' => h.mem.boxI k k' (hbk k hk) (hbk k' hk'), fun k hk => h.mem.boxU k (hbk k hk), fun id b' h1 h2 => ?_, h.mem.rowI, h.mem.rowS, h.mem.rowU, h.mem.S, h.mem.iceU, h.mem.deadU⟩, h.frm, h.fix, h.glob⟩
  · rw [setBox_some] at hk
    split at hk
    · rename_i e; subst e
      simp only [Option.some.injEq, Prod.mk.injEq] at hk
      obtain ⟨rfl, rfl⟩ := hk
      obtain ⟨arr, h1, h2⟩ := h.mem.box k T l hb
      exact ⟨arr, h1, RelAC.laters hlat (hx arr h1 h2)⟩
    · obtain ⟨arr, h1, h2⟩ := h.mem.box k T' l2 hk
      exact ⟨arr, h1, RelAC.laters hlat h2⟩
  · obtain ⟨h3, h4, h5⟩ := h.mem.row id b' h1 h2
    exact ⟨h3, h4, fun k hk => h5 k (hbk k hk)⟩

/-- a row is written: it gets another name, and what bore the elder one is not read any more -/
theorem moved_rel {id : Id} {g : Nat} {cs : Array Value} (v : Value) (h : Rel E.F base Mod w0 m st a w) (hu : st.used key = false) (hd : st.dead id = false) (hi : st.ice id = false) (hr : m.row id = some g) (hui : st.used id.1 = true) :
    Rel E.F base Mod w0 (m.movedRow id (key, 0) v) ((st.use key).kill id) a (w.setRow g cs) ∧ Later m st w (m.movedRow id (key, 0) v) ((st.use key).kill id) (w.setRow g cs) := by
  have hne : ∀ id', st.used id'.1 = true → id' ≠ (key, 0) := fun id' h1 h2 => by rw [h2] at h1; simp [hu] at h1
  have hgS : ¬ m.S g := fun hs => by have := (h.mem.rowS id g hr hd).1 hs; simp [hi] at this
  obtain ⟨hg1, hg2, hg3⟩ := h.mem.row id g hr hd
  have hdead : ∀ id', ((st.use key).kill id).dead id' = false → id' ≠ id ∧ st.dead id' = false := fun id' hd' => by
    simp only [St.kill, St.use] at hd'
    split at hd'
    · cases hd'
    · exact ⟨by assumption, hd'⟩
  have hlat : Later m st w (m.movedRow id (key, 0) v) ((st.use key).kill id) (w.setRow g cs) := by
    refine ⟨fun _ h => h, fun b hb => setRow_other w g b cs (fun e => hgS (e ▸ hb)), fun k hk => by simp [St.kill, St.use, hk], fun id' h1 h2 => ?_, fun k hk => ⟨hk, rfl⟩⟩
    obtain ⟨h3, h4⟩ := hdead id' h2
    exact ⟨h4, by simp [Emb.movedRow, hne id' h1], by simp [Emb.movedRow, hne id' h1], fun b hb => setRow_other w g b cs (fun e => h3 (h.mem.rowI id' id g (e ▸ hb) hr h4 hd))⟩
  refine ⟨⟨h.defers, h.size, fun t => RelAV.later hlat (h.slot t), ?_, ?_, h.fix, h.glob⟩, hlat⟩
  · have hrow : ∀ id' b, (m.movedRow id (key, 0) v).row id' = some b → ((st.use key).kill id).dead id' = false → (id' = (key, 0) ∧ b = g) ∨ (id' ≠ (key, 0) ∧ id' ≠ id ∧ m.row id' = some b ∧ st.dead id' = false) := fun id' b h1 h2 => by
      obtain ⟨h3, h4⟩ := hdead id' h2
      simp only [Emb.movedRow] at h1
      split at h1
      · rename_i e; rw [hr] at h1; cases h1; exact .inl ⟨e, rfl⟩
      · rename_i e; exact .inr ⟨e, h3, h1, h4⟩
    have hice : st.ice (key, 0) = false := by
      cases hc : st.ice (key, 0) with
      | false => rfl
      | true => have := h.mem.iceU _ hc; simp [hu] at this
    refine ⟨fun k T l hk => ?_, h.mem.boxS, h.mem.boxI, fun k hk => by simp [St.kill, St.use, h.mem.boxU k hk], fun id' b h1 h2 => ?_, fun id1 id2 b h1 h2 h3 h4 => ?_, fun id' b h1 h2 => ?_, fun id' b h1 => ?_, fun b hb => by rw [size_setRow]; exact h.mem.S b hb, fun id' hi' => by simp [St.kill, St.use, h.mem.iceU id' hi'], fun id' hi' => ?_⟩
    · obtain ⟨arr, h1, h2⟩ := h.mem.box k T l hk
      exact ⟨arr, (setRow_other w g _ cs (hg3 k (by rw [show st.box k = some (T, l) from hk]; rfl))).trans h1, RelAC.laters hlat h2⟩
    · rw [size_setRow]
      rcases hrow id' b h1 h2 with ⟨_, rfl⟩ | ⟨_, _, h3, h4⟩
      · exact ⟨hg1, hg2, hg3⟩
      · exact h.mem.row id' b h3 h4
    · rcases hrow id1 b h1 h3 with ⟨e1, rfl⟩ | ⟨e1, n1, r1, d1⟩ <;> rcases hrow id2 _ h2 h4 with ⟨e2, e3⟩ | ⟨e2, n2, r2, d2⟩
      · rw [e1, e2]
      · exact absurd (h.mem.rowI id2 id _ r2 hr d2 hd) n2
      · subst e3; exact absurd (h.mem.rowI id1 id _ r1 hr d1 hd) n1
      · exact h.mem.rowI id1 id2 b r1 r2 d1 d2
    · rcases hrow id' b h1 h2 with ⟨rfl, rfl⟩ | ⟨e1, n1, r1, d1⟩
      · constructor
        · intro hs; exact absurd hs hgS
        · intro hi'; rw [show ((st.use key).kill id).ice (key, 0) = st.ice (key, 0) from rfl, hice] at hi'; cases hi'
      · exact h.mem.rowS id' b r1 d1
    · simp only [Emb.movedRow] at h1
      split at h1
      · rename_i e; simp [St.kill, St.use, e]
      · simp [St.kill, St.use, h.mem.rowU id' b h1]
    · simp only [St.kill, St.use] at hi' ⊢
      split at hi'
      · rename_i e; subst e; simp [hui]
      · simp [h.mem.deadU id' hi']
  · refine ⟨h.frm.os, h.frm.tape, h.frm.output, h.frm.at0, by rw [size_setRow]; exact h.frm.size, fun k hk hm => ?_⟩
    rw [setRow_other w _ _ _ (fun e => by
      rcases hg2 with h1 | h1
      · omega
      · exact hm (e ▸ h1))]
    exact h.frm.block k hk hm
end
end Go.Proofs.Ytjokcjlpciecoaa.Rx
