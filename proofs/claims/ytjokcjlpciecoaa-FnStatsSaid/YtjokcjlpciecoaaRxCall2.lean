/- A part of the evaluator and its soundness: Call2. No condition beside those that each theorem states. -/
import Derived.Test.YtjokcjlpciecoaaRxCall
set_option linter.unusedSimpArgs false
set_option linter.unusedVariables false
namespace Go.Proofs.Ytjokcjlpciecoaa.Rx

/-- data without shared rows do not mind which are shared -/
theorem own_shallow {S S' : Nat → Prop} {w : World} : ∀ {c : CK} {x : c.T} {l : List Value} {rows : List Row}, c.shallow = true → OwnT w S c x l rows → OwnT w S' c x l rows
  | .unit, _, _, _, _, h => h
  | .int _, _, _, _, _, h => h
  | .bool, _, _, _, _, h => h
  | .str, _, _, _, _, h => h
  | .sl e c, xs, _, _, hs, h => by
    obtain ⟨a, n, cap, rfl, rfl, h, ho⟩ := h
    exact ⟨a, n, cap, rfl, rfl, h.mono (fun _ h => h) (fun _ _ => rfl) fun x l => flat_any hs, ho⟩
  | .pair a b, x, _, _, hs, h => by
    obtain ⟨l1, l2, r1, r2, rfl, rfl, h1, h2⟩ := h
    simp only [CK.shallow, Bool.and_eq_true] at hs
    exact ⟨l1, l2, r1, r2, rfl, rfl, own_shallow hs.1 h1, own_shallow hs.2 h2⟩
  | .any, _, _, _, _, h => h
  | .arr _ _, _, _, _, _, h => h

theorem parts_shallow {S S' : Nat → Prop} {w : World} : ∀ {rs : List (CK × Bool)} {x : (CK.pairs (rs.map (·.1))).T} {l : List (List Value)} {rows : List Row}, (∀ r ∈ rs, (r.1.flat || (r.2 && r.1.shallow)) = true) → PartsRd w S rs x l rows → PartsRd w S' rs x l rows
  | [], _, _, _, _, h => h
  | [r], _, _, _, hr, h => by
    obtain ⟨vs, h1, h2⟩ := h
    exact ⟨vs, h1, part_shallow (hr r (by simp)) h2⟩
  | r :: q :: l, x, _, _, hr, h => by
    obtain ⟨vs, vss', r1, r2, rfl, rfl, h1, h2⟩ := h
    exact ⟨vs, vss', r1, r2, rfl, rfl, part_shallow (hr r (by simp)) h1, parts_shallow (fun r hh => hr r (List.mem_cons_of_mem _ hh)) h2⟩
where
  flat_shallow : ∀ {c : CK}, c.flat = true → c.shallow = true
  | .unit, _ | .int _, _ | .bool, _ | .str, _ | .arr _ _, _ => rfl
  | .any, h => by simp [CK.flat] at h
  | .sl _ _, h => by simp [CK.flat] at h
  | .pair a b, h => by
    simp only [CK.flat, Bool.and_eq_true] at h
    simp only [CK.shallow, flat_shallow h.1, flat_shallow h.2, Bool.and_self]
  part_shallow {S S' : Nat → Prop} {w : World} {r : CK × Bool} {x : r.1.T} {l : List Value} {rows : List Row} (hr : (r.1.flat || (r.2 && r.1.shallow)) = true) (h : PartRd w S r x l rows) : PartRd w S' r x l rows := by
    unfold PartRd at h ⊢
    cases ho : r.2 with
    | true =>
      simp only [ho, if_true, Bool.true_and, Bool.or_eq_true] at h hr ⊢
      exact own_shallow (hr.elim flat_shallow id) h
    | false =>
      simp only [ho, Bool.false_eq_true, if_false, Bool.false_and, Bool.or_false] at h hr ⊢
      exact ⟨flat_any hr h.1, h.2⟩

/-- what may be read of a call's parts -/
def Emb.lent (m : Emb) (ids : List Id) : Nat → Prop := fun b => m.S b ∨ ∃ id ∈ ids, m.row id = some b

section
variable {E : Env} {base : Nat} {Mod : Nat → Prop} {w0 : Org} {m : Emb} {st : St} {a : Act} {w : World} {key : Nat} {o : Oper} {R : Type} {r : R}

theorem nodup_filterMap {α β : Type} (f : α → Option β) : ∀ {l : List α}, l.Nodup → (∀ x y b, x ∈ l → y ∈ l → f x = some b → f y = some b → x = y) → (l.filterMap f).Nodup
  | [], _, _ => List.nodup_nil
  | x :: l, h, hf => by
    obtain ⟨h1, h2⟩ := List.nodup_cons.1 h
    have ih := nodup_filterMap f h2 fun x y b hx hy => hf x y b (List.mem_cons_of_mem _ hx) (List.mem_cons_of_mem _ hy)
    rw [List.filterMap_cons]
    split
    · exact ih
    · rename_i b hb
      refine List.nodup_cons.2 ⟨fun hm => ?_, ih⟩
      obtain ⟨y, hy, hyb⟩ := List.mem_filterMap.1 hm
      have := hf x y b (by simp) (List.mem_cons_of_mem _ hy) hb hyb
      exact h1 (this ▸ hy)

theorem nodup_map {α β : Type} (f : α → β) {l : List α} (h : l.Nodup) (hf : ∀ x y, x ∈ l → y ∈ l → f x = f y → x = y) : (l.map f).Nodup := by
  have := nodup_filterMap (fun x => some (f x)) h fun x y b hx hy h1 h2 => hf x y hx hy (by rw [← h2] at h1; injection h1)
  simpa using this

/-- the rows that a call gets, and what stands around them -/
theorem handed (hm : MemRel m st w base Mod) {rs : List (CK × Bool)} {ls : List (List AC)} {x : (CK.pairs (rs.map (·.1))).T} {vss : List (List Value)} (hp : partsOk st rs ls = true) (hx : ofParts rs ls = some x) (hr : All2 (All2 (RelAC m st w)) ls vss) :
    ∃ rows, PartsRd w (m.lent (roIds rs ls)) rs x vss rows ∧ (Blks rows).Nodup ∧ (∀ b ∈ Blks rows, ∃ id ∈ ownIds rs ls, m.row id = some b) ∧
      (∀ b, m.lent (roIds rs ls) b → b < w.heap.size) ∧
      (∀ b ∈ Blks rows, ¬ m.lent (roIds rs ls) b ∧ b < w.heap.size ∧ (base ≤ b ∨ Mod b) ∧ ∀ k, (st.box k).isSome = true → m.bl k ≠ b) ∧
      (∀ k, (st.box k).isSome = true → ¬ m.lent (roIds rs ls) (m.bl k)) ∧ (∀ id ∈ roIds rs ls, st.dead id = false ∧ st.used id.1 = true) ∧ (∀ id ∈ ownIds rs ls, st.dead id = false ∧ st.used id.1 = true) := by
  obtain ⟨h1, h2, h3, h4⟩ := partsOk_spec hp
  have hfr : ∀ (rs : List (CK × Bool)) (ls : List (List AC)) (vss : List (List Value)), ls.all st.fresh = true → All2 (All2 (RelAC m st w)) ls vss → (∀ id ∈ roIds rs ls, st.dead id = false ∧ st.used id.1 = true) ∧ (∀ id ∈ ownIds rs ls, st.dead id = false ∧ st.used id.1 = true) := by
    intro rs
    induction rs with
    | nil => intro ls vss _ _; simp [roIds, ownIds]
    | cons r rs ih =>
      intro ls vss hl hr
      match ls, vss, hr with
      | [], _, _ => simp [roIds, ownIds]
      | l :: ls, vs :: vss, hr =>
        simp only [List.all_cons, Bool.and_eq_true] at hl
        obtain ⟨i1, i2⟩ := ih ls vss hl.2 hr.2
        have hd := fresh_spec hl.1
        have hu := ids_used hr.1
        refine ⟨fun id hi => ?_, fun id hi => ?_⟩
        · simp only [roIds, List.mem_append] at hi
          rcases hi with hi | hi
          · split at hi
            · simp at hi
            · exact ⟨hd id hi, hu id hi⟩
          · exact i1 id hi
        · simp only [ownIds, List.mem_append] at hi
          rcases hi with hi | hi
          · split at hi
            · exact ⟨hd id hi, hu id hi⟩
            · simp at hi
          · exact i2 id hi
      | _ :: _, [], hr => exact hr.elim
  obtain ⟨hro, hown⟩ := hfr rs ls vss h1 hr
  obtain ⟨rows, g1, g2⟩ := parts_data (S' := m.lent (roIds rs ls)) (fun b h => .inl h) hx hr h1 h2 (fun id hi b hb => .inr ⟨id, hi, hb⟩)
  have hmem : ∀ b ∈ Blks rows, ∃ id ∈ ownIds rs ls, m.row id = some b := fun b hb => by
    obtain ⟨id, h5, h6⟩ := List.mem_filterMap.1 (g2.subset hb); exact ⟨id, h5, h6⟩
  refine ⟨rows, g1, ?_, hmem, ?_, ?_, ?_, hro, hown⟩
  · exact g2.nodup (nodup_filterMap _ h4 fun x y b hx hy h5 h6 => hm.rowI x y b h5 h6 (h3 x hx).1 (h3 y hy).1)
  · intro b hb
    rcases hb with hb | ⟨id, hi, hb⟩
    · exact hm.S b hb
    · exact (hm.row id b hb (hro id hi).1).1
  · intro b hb
    obtain ⟨id, hi, hid⟩ := hmem b hb
    obtain ⟨d1, d2, d3⟩ := h3 id hi
    obtain ⟨q1, q2, q3⟩ := hm.row id b hid d1
    refine ⟨?_, q1, q2, q3⟩
    rintro (hs | ⟨id', hi', hb'⟩)
    · have := (hm.rowS id b hid d1).1 hs
      rw [d2] at this; cases this
    · have := hm.rowI id id' b hid hb' d1 (hro id' hi').1
      exact d3 (this ▸ hi')
  · intro k hk hl
    rcases hl with hs | ⟨id, hi, hb⟩
    · exact (hm.boxS k hk).1 hs
    · exact (hm.row id _ hb (hro id hi).1).2.2 k hk rfl

theorem Frm.trans {base : Nat} {Mod Mod' : Nat → Prop} {w0 w w' : World} (h : Frm base Mod w0 w) (h' : Frm w.heap.size Mod' w w') (hM : ∀ b, Mod' b → base ≤ b ∨ Mod b) : Frm base Mod w0 w' where
  os := h'.os.trans h.os
  tape := h'.tape.trans h.tape
  output := h'.output.trans h.output
  at0 := h.at0
  size := Nat.le_trans h.size h'.size
  block k hk hm := by
    rw [h'.block k (by have := h.size; rw [← h.at0] at this; omega) (fun hc => by rcases hM k hc with h1 | h1; omega; exact hm h1), h.block k hk hm]

theorem row_some {rows : List Row} {j : Nat} {b : Nat} (h : (rows[j]?).bind (·.1) = some b) : b ∈ Blks rows := by
  obtain ⟨p, hp, hb⟩ := Option.bind_eq_some_iff.1 h
  exact List.mem_filterMap.2 ⟨p, List.mem_of_getElem? hp, hb⟩

theorem row_inj : ∀ {rows : List Row} {i j b : Nat}, (Blks rows).Nodup → (rows[i]?).bind (·.1) = some b → (rows[j]?).bind (·.1) = some b → i = j
  | [], i, j, b, _, h, _ => by simp at h
  | p :: rows, i, j, b, hn, h1, h2 => by
    have htail : (Blks rows).Nodup := by
      unfold Blks at hn ⊢
      rw [List.filterMap_cons] at hn
      split at hn
      · exact hn
      · exact (List.nodup_cons.1 hn).2
    have hne : p.1 = some b → b ∉ Blks rows := fun hp => by
      unfold Blks at hn ⊢
      rw [List.filterMap_cons, hp] at hn
      exact (List.nodup_cons.1 hn).1
    cases i with
    | zero => cases j with
      | zero => rfl
      | succ j =>
        simp only [List.getElem?_cons_zero, Option.bind_some, List.getElem?_cons_succ] at h1 h2
        exact absurd (row_some h2) (hne h1)
    | succ i => cases j with
      | zero =>
        simp only [List.getElem?_cons_zero, Option.bind_some, List.getElem?_cons_succ] at h1 h2
        exact absurd (row_some h1) (hne h2)
      | succ j =>
        simp only [List.getElem?_cons_succ] at h1 h2
        rw [row_inj htail h1 h2]

theorem withRows_row {rows : List Row} {id : Id} {b : Nat} (hb : (m.withRows key rows).row id = some b) : (id.1 ≠ key ∧ m.row id = some b) ∨ (id.1 = key ∧ (rows[id.2]?).bind (·.1) = some b) := by
  simp only [Emb.withRows] at hb
  split at hb
  · rename_i he; exact .inr ⟨he, hb⟩
  · rename_i he; exact .inl ⟨he, hb⟩

theorem withRows_get {rows : List Row} (j : Nat) (p : Row) (hp : rows[j]? = some p) : (m.withRows key rows).row (key, 0 + j) = p.1 ∧ (m.withRows key rows).val (key, 0 + j) = p.2 := by
  simp [Emb.withRows, hp]
end
end Go.Proofs.Ytjokcjlpciecoaa.Rx
