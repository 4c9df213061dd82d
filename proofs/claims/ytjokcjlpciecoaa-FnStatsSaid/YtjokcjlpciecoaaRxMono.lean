/- A part of the evaluator and its soundness: Mono. No condition beside those that each theorem states. -/
import Derived.Test.YtjokcjlpciecoaaRxRel
set_option linter.unusedVariables false
set_option linter.unusedSimpArgs false
namespace Go.Proofs.Ytjokcjlpciecoaa.Rx

/-- from one state and world to a later one -/
structure Later (m : Emb) (st : St) (w : World) (m' : Emb) (st' : St) (w' : World) : Prop where
  S : ∀ b, m.S b → m'.S b
  keep : ∀ b, m.S b → w'.heap[b]? = w.heap[b]?
  used : ∀ k, st.used k = true → st'.used k = true
  row : ∀ id, st.used id.1 = true → st'.dead id = false → st.dead id = false ∧ m'.row id = m.row id ∧ m'.val id = m.val id ∧ ∀ b, m.row id = some b → w'.heap[b]? = w.heap[b]?
  box : ∀ k, (st.box k).isSome = true → (st'.box k).isSome = true ∧ m'.bl k = m.bl k

theorem Later.refl (m : Emb) (st : St) (w : World) : Later m st w m st w :=
  ⟨fun _ h => h, fun _ _ => rfl, fun _ h => h, fun _ _ h => ⟨h, rfl, rfl, fun _ _ => rfl⟩, fun _ h => ⟨h, rfl⟩⟩

section
variable {m m' : Emb} {st st' : St} {w w' : World}

theorem OwnBlk.later (h : Later m st w m' st' w') {id : Id} (hu : st.used id.1 = true) (hd : st'.dead id = false) {e : TypeId} {size : Nat} {a : Option Addr} {n cap : Nat}
    (ho : OwnBlk m w id e size a n cap) : OwnBlk m' w' id e size a n cap := by
  cases a with
  | none => exact ho
  | some ad =>
    obtain ⟨hr, cur, hc, hs⟩ := ho
    obtain ⟨_, h1, _, h3⟩ := h.row id hu hd
    exact ⟨h1.trans hr, cur, (h3 _ hr).trans hc, hs⟩

theorem OwnV.later (h : Later m st w m' st' w') {id : Id} (hu : st.used id.1 = true) (hd : st'.dead id = false) {vw : Bool} {e : TypeId} {c : CK} {xs : List c.T} {v : Value}
    (ho : OwnV m w id vw e c xs v) : OwnV m' w' id vw e c xs v := by
  obtain ⟨a, n, cap, rfl, hrd, hb, hv⟩ := ho
  obtain ⟨_, h1, h2, h3⟩ := h.row id hu hd
  exact ⟨a, n, cap, rfl, hrd.mono (fun b hb => h1.trans hb) (fun b hb => h3 b hb) (fun x l => RdT.mono h.S h.keep), hb.later h hu hd, fun he => (hv he).trans h2.symm⟩

theorem RoV.later (h : Later m st w m' st' w') {c : CK} {xs : List c.T} {v : Value} (ho : RoV m w c xs v) : RoV m' w' c xs v := by
  obtain ⟨a, n, cap, rfl, hrd⟩ := ho
  exact ⟨a, n, cap, rfl, hrd.mono h.S h.keep (fun x l => RdT.mono h.S h.keep)⟩

theorem RelAC.later (h : Later m st w m' st' w') {x : AC} {v : Value} (hx : RelAC m st w x v) : RelAC m' st' w' x v := by
  cases x with
  | int k n => exact hx
  | bool b => exact hx
  | str s => exact hx
  | nil => exact hx
  | bad => exact hx
  | undef => exact hx
  | sl id own vw e c xs src =>
    obtain ⟨hu, hs, ho⟩ := hx
    refine ⟨fun he => h.used _ (hu he), hs, ?_⟩
    cases own with
    | false => exact RoV.later h ho
    | true =>
      simp only [if_true] at ho ⊢
      cases hd : st'.dead id with
      | true => exact .inl rfl
      | false =>
        obtain ⟨hd0, _⟩ := h.row id (hu rfl) hd
        exact .inr ((ho.resolve_left (by simp [hd0])).later h (hu rfl) hd)
  | ptr b off =>
    obtain ⟨h1, h2⟩ := hx
    obtain ⟨h3, h4⟩ := h.box b h1
    exact ⟨h3, by rw [h4]; exact h2⟩
  | fn f fst caps =>
    obtain ⟨h1, h2⟩ := hx
    refine ⟨fun p hp => (h.box _ (h1 p hp)).1, h2.trans ?_⟩
    have : caps.map (ptrV m) = caps.map (ptrV m') := List.map_congr_left fun p hp => by simp [ptrV, (h.box _ (h1 p hp)).2]
    rw [this]

theorem RelAC.laters (h : Later m st w m' st' w') {l : List AC} {vs : List Value} (hx : All2 (RelAC m st w) l vs) : All2 (RelAC m' st' w') l vs :=
  hx.imp fun _ _ _ => RelAC.later h

theorem RelAV.later (h : Later m st w m' st' w') {x : AV} {v : Value} (hx : RelAV m st w x v) : RelAV m' st' w' x v := by
  cases x with
  | one x => exact RelAC.later h hx
  | agg l => obtain ⟨arr, h1, h2⟩ := hx; exact ⟨arr, h1, RelAC.laters h h2⟩
  | tup l =>
    obtain ⟨vs, h1, h2⟩ := hx
    refine ⟨vs, h1, h2.imp fun p v _ hp => ?_⟩
    unfold RelC at hp ⊢
    split at hp
    · rename_i hc; rw [if_pos hc]; obtain ⟨arr, h1, h2⟩ := hp; exact ⟨arr, h1, RelAC.laters h h2⟩
    · rename_i hc; rw [if_neg hc]; obtain ⟨x, h1, h2⟩ := hp; exact ⟨x, h1, RelAC.later h h2⟩
  | ep id e c xs i off src own =>
    obtain ⟨hu, hi, b, o, hv, ho⟩ := hx
    refine ⟨fun he => h.used _ (hu he), hi, b, o, hv, ?_⟩
    cases own with
    | false =>
      rcases ho with ⟨hf, _⟩ | ⟨ad, n, cap, hb, hoff, ho⟩
      · cases hf
      · exact .inr ⟨ad, n, cap, hb, hoff, RoV.later h ho⟩
    | true =>
      cases hd : st'.dead id with
      | true => exact .inl ⟨rfl, rfl⟩
      | false =>
        obtain ⟨hd0, _, h2, _⟩ := h.row id (hu rfl) hd
        rcases ho with ⟨_, hf⟩ | ⟨ad, n, cap, hb, hoff, ho⟩
        · simp [hd0] at hf
        · simp only [if_true] at ho
          refine .inr ⟨ad, n, cap, hb, hoff, ?_⟩
          simp only [if_true]
          exact ⟨ho.1.later h (hu rfl) hd, fun hs => h2.trans (ho.2 hs)⟩
  | pi b off n k j =>
    obtain ⟨h1, hj, h2⟩ := hx
    obtain ⟨h3, h4⟩ := h.box b h1
    exact ⟨h3, hj, by rw [h4]; exact h2⟩

theorem RelAV.bad (v : Value) : RelAV m st w .bad v := trivial

theorem RelAV.from {x : AV} {v : Value} (src : Loc) (h : RelAV m st w x v) : RelAV m st w (x.from src) v := by
  cases x with
  | one x => cases x <;> exact h
  | agg l => exact h
  | tup l => exact h
  | ep => exact h
  | pi => exact h

theorem rel_const (v : Value) : RelAV m st w (constAV v) v := by
  unfold constAV
  split <;> first | exact rfl | trivial
end

section
variable {base : Nat} {N : Rim} {Mod : Nat → Prop} {w0 : Org} {m : Emb} {st : St} {a : Act} {w : World}

theorem Rel.opnd (h : Rel N base Mod w0 m st a w) (x : Operand) : RelAV m st w (opnd st x) (a.eval x) := by
  cases x with
  | tmp t => exact h.slot t
  | const v => exact rel_const v
  | global g => exact RelAV.bad _
  | func f => exact ⟨fun p hp => by simp at hp, rfl⟩

theorem Later.use (key : Nat) : Later m st w m (st.use key) w :=
  ⟨fun _ h => h, fun _ _ => rfl, fun k hk => by simp [St.use, hk], fun _ _ hd => ⟨hd, rfl, rfl, fun _ _ => rfl⟩, fun _ hk => ⟨hk, rfl⟩⟩

theorem MemRel.use (h : MemRel m st w base Mod) (key : Nat) : MemRel m (st.use key) w base Mod where
  box k T l hk := by
    obtain ⟨arr, h1, h2⟩ := h.box k T l hk
    exact ⟨arr, h1, RelAC.laters (Later.use key) h2⟩
  boxS := h.boxS
  boxI := h.boxI
  boxU k hk := by simp [St.use, h.boxU k hk]
  row := h.row
  rowI := h.rowI
  rowS := h.rowS
  rowU id b hb := by simp [St.use, h.rowU id b hb]
  S := h.S
  iceU id hi := by simp [St.use, h.iceU id hi]
  deadU id hi := by simp [St.use, h.deadU id hi]

theorem Rel.use (h : Rel N base Mod w0 m st a w) (key : Nat) : Rel N base Mod w0 m (st.use key) a w :=
  ⟨h.defers, h.size, fun t => RelAV.later (Later.use key) (h.slot t), h.mem.use key, h.frm, h.fix, h.glob⟩

theorem Rel.put (h : Rel N base Mod w0 m st a w) {dst : Option Nat} (hd : ∀ d, dst = some d → d < N.1 ∧ N.2 d = false) {x : AV} {v : Value} (hx : RelAV m st w x v) : Rel N base Mod w0 m (st.put? dst x) (a.put dst v) w := by
  cases dst with
  | none => exact h
  | some d =>
    refine ⟨⟨h.defers.1, fun t v ht => ?_⟩, by simpa [Act.put] using h.size, fun t => ?_, ⟨h.mem.box, h.mem.boxS, h.mem.boxI, h.mem.boxU, h.mem.row, h.mem.rowI, h.mem.rowS, h.mem.rowU, h.mem.S, h.mem.iceU, h.mem.deadU⟩, h.frm, h.fix, h.glob⟩
    · obtain ⟨h1, h2⟩ := h.defers.2 t v ht
      refine ⟨h1, ?_⟩
      have hne : t ≠ d := fun e => by rw [e, (hd d rfl).2] at h1; cases h1
      simp only [Act.put, Array.getD_eq_getD_getElem?] at h2 ⊢
      rw [Array.getElem?_setIfInBounds_ne (by omega)]
      exact h2
    have hlt : d < a.tmps.size := by rw [h.size]; exact (hd d rfl).1
    show RelAV m (st.put d x) w ((st.put d x).slot t) _
    have key : RelAV m st w ((st.put d x).slot t) ((a.put (some d) v).tmps.getD t undef) := by
      simp only [St.put, Act.put]
      by_cases ht : t = d
      · subst ht
        simp [hlt, hx]
      · rw [if_neg ht]
        have := h.slot t
        simp only [Array.getD_eq_getD_getElem?] at this ⊢
        rw [Array.getElem?_setIfInBounds_ne (by omega)]
        exact this
    exact RelAV.later ⟨fun _ h => h, fun _ _ => rfl, fun _ h => h, fun _ _ h => ⟨h, rfl, rfl, fun _ _ => rfl⟩, fun _ h => ⟨h, rfl⟩⟩ key
end
end Go.Proofs.Ytjokcjlpciecoaa.Rx
