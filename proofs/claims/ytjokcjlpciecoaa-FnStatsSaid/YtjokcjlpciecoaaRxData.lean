/- A part of the evaluator and its soundness: Data. No condition beside those that each theorem states. -/
import Derived.Test.YtjokcjlpciecoaaRxEq
set_option linter.unusedSimpArgs false
set_option linter.unusedVariables false
namespace Go.Proofs.Ytjokcjlpciecoaa.Rx

/-- a row that is one's own, in a block -/
def OwnB (w : World) (e : TypeId) (size : Nat) (a : Option Addr) (n cap : Nat) : Prop :=
  match a with
  | none => n = 0 ∧ cap = 0
  | some ad => ∃ cur, w.heap[ad.block]? = some (.cells cur e (0, 0)) ∧ ad.off + cap * size ≤ cur.size ∧ ad.spot = none

abbrev Row := Option Nat × Value

/-- data each of whose slices is a row of its own -/
def OwnT (w : World) (S : Nat → Prop) : (c : CK) → c.T → List Value → List Row → Prop
  | .unit, _, l, rs => l = [] ∧ rs = []
  | .int k, n, l, rs => l = [.int k n] ∧ rs = []
  | .bool, b, l, rs => l = [.bool b] ∧ rs = []
  | .str, s, l, rs => l = [.string s] ∧ rs = []
  | .sl e c, xs, l, rs => ∃ a n cap, l = [.slice a n cap] ∧ rs = [(a.map (·.block), .slice a n cap)] ∧ RdRow w (fun b => a.map (·.block) = some b) (RdT w S c) c.size xs a n cap ∧ OwnB w e c.size a n cap
  | .pair a b, x, l, rs => ∃ l1 l2 r1 r2, l = l1 ++ l2 ∧ rs = r1 ++ r2 ∧ OwnT w S a x.1 l1 r1 ∧ OwnT w S b x.2 l2 r2
  | .any, _, l, rs => (∃ v, l = [v]) ∧ rs = []
  | .arr k n, xs, l, rs => (l = (List.range n).map fun i => Value.int k (xs.getD i 0)) ∧ rs = []

def Blks (rows : List Row) : List Nat := rows.filterMap (·.1)

theorem Blks_append (a b : List Row) : Blks (a ++ b) = Blks a ++ Blks b := List.filterMap_append

def PartRd (w : World) (S : Nat → Prop) (r : CK × Bool) (x : r.1.T) (vs : List Value) (rows : List Row) : Prop :=
  if r.2 then OwnT w S r.1 x vs rows else RdT w S r.1 x vs ∧ rows = []

def PartsRd (w : World) (S : Nat → Prop) : (rs : List (CK × Bool)) → (CK.pairs (rs.map (·.1))).T → List (List Value) → List Row → Prop
  | [], _, vss, rows => vss = [] ∧ rows = []
  | [r], x, vss, rows => ∃ vs, vss = [vs] ∧ PartRd w S r x vs rows
  | r :: q :: l, x, vss, rows => ∃ vs vss' r1 r2, vss = vs :: vss' ∧ rows = r1 ++ r2 ∧ PartRd w S r x.1 vs r1 ∧ PartsRd w S (q :: l) x.2 vss' r2

theorem OwnT.mono {w w' : World} {S S' : Nat → Prop} (hS : ∀ b, S b → S' b) (hw : ∀ b, S b → w'.heap[b]? = w.heap[b]?) : ∀ {c : CK} {x : c.T} {l : List Value} {rows : List Row},
    (∀ b ∈ Blks rows, w'.heap[b]? = w.heap[b]?) → OwnT w S c x l rows → OwnT w' S' c x l rows
  | .unit, _, _, _, _, h => h
  | .int _, _, _, _, _, h => h
  | .bool, _, _, _, _, h => h
  | .str, _, _, _, _, h => h
  | .sl e c, xs, _, _, hr, h => by
    obtain ⟨a, n, cap, rfl, rfl, h, ho⟩ := h
    have hb : ∀ b, a.map (·.block) = some b → w'.heap[b]? = w.heap[b]? := fun b hb => hr b (by simp [Blks, hb])
    refine ⟨a, n, cap, rfl, rfl, h.mono (fun _ h => h) hb fun x l => RdT.mono hS hw, ?_⟩
    cases a with
    | none => exact ho
    | some ad => unfold OwnB at ho ⊢; simp only [hb ad.block rfl]; exact ho
  | .pair a b, x, _, _, hr, h => by
    obtain ⟨l1, l2, r1, r2, rfl, rfl, h1, h2⟩ := h
    simp only [Blks_append, List.mem_append] at hr
    exact ⟨l1, l2, r1, r2, rfl, rfl, OwnT.mono hS hw (fun b hb => hr b (.inl hb)) h1, OwnT.mono hS hw (fun b hb => hr b (.inr hb)) h2⟩
  | .any, _, _, _, _, h => h
  | .arr _ _, _, _, _, _, h => h

theorem PartRd.mono {w w' : World} {S S' : Nat → Prop} (hS : ∀ b, S b → S' b) (hw : ∀ b, S b → w'.heap[b]? = w.heap[b]?) {r : CK × Bool} {x : r.1.T} {l : List Value} {rows : List Row}
    (hr : ∀ b ∈ Blks rows, w'.heap[b]? = w.heap[b]?) (h : PartRd w S r x l rows) : PartRd w' S' r x l rows := by
  unfold PartRd at h ⊢
  split
  · rename_i ho; rw [if_pos ho] at h; exact h.mono hS hw hr
  · rename_i ho; rw [if_neg ho] at h; exact ⟨h.1.mono hS hw, h.2⟩

theorem PartsRd.mono {w w' : World} {S S' : Nat → Prop} (hS : ∀ b, S b → S' b) (hw : ∀ b, S b → w'.heap[b]? = w.heap[b]?) : ∀ {rs : List (CK × Bool)} {x : (CK.pairs (rs.map (·.1))).T} {l : List (List Value)} {rows : List Row},
    (∀ b ∈ Blks rows, w'.heap[b]? = w.heap[b]?) → PartsRd w S rs x l rows → PartsRd w' S' rs x l rows
  | [], _, _, _, _, h => h
  | [r], _, _, _, hr, h => by obtain ⟨vs, h1, h2⟩ := h; exact ⟨vs, h1, h2.mono hS hw hr⟩
  | r :: q :: l, x, _, _, hr, h => by
    obtain ⟨vs, vss', r1, r2, rfl, rfl, h1, h2⟩ := h
    simp only [Blks_append, List.mem_append] at hr
    exact ⟨vs, vss', r1, r2, rfl, rfl, h1.mono hS hw (fun b hb => hr b (.inl hb)), PartsRd.mono hS hw (fun b hb => hr b (.inr hb)) h2⟩

section
variable {E : Env} {base : Nat} {Mod : Nat → Prop} {w0 : Org} {m : Emb} {st : St} {a : Act} {w : World} {key : Nat}

theorem filterMap_sub {α β : Type} (f : α → Option β) {l l' : List α} (h : l.Sublist l') : (l.filterMap f).Sublist (l'.filterMap f) := h.filterMap f

/-- cells of one's own, told as data -/
theorem ofCells_own {S' : Nat → Prop} (hS : ∀ b, m.S b → S' b) : ∀ {c : CK} {l rest : List AC} {x : c.T} {vs : List Value}, ofCells c l = some (x, rest) → All2 (RelAC m st w) l vs →
    AC.allOwn l = true → (∀ id ∈ AC.ids l, st.dead id = false) →
    ∃ l1 vs1 vs2 rows, l = l1 ++ rest ∧ vs = vs1 ++ vs2 ∧ OwnT w S' c x vs1 rows ∧ All2 (RelAC m st w) rest vs2 ∧ (Blks rows).Sublist ((AC.ids l1).filterMap m.row)
  | .unit, l, rest, x, vs, h, hr, _, _ => by
    obtain rfl := ofCells_unit h
    exact ⟨[], [], vs, [], rfl, rfl, ⟨rfl, rfl⟩, hr, by simp [Blks]⟩
  | .int k, l, rest, x, vs, h, hr, _, _ => by
    obtain rfl := ofCells_int h
    match vs, hr with
    | v :: vs, hr => exact ⟨[_], [v], vs, [], rfl, rfl, ⟨by have h1 : v = .int k x := hr.1; rw [h1], rfl⟩, hr.2, by simp [Blks]⟩
  | .bool, l, rest, x, vs, h, hr, _, _ => by
    obtain rfl := ofCells_bool h
    match vs, hr with
    | v :: vs, hr => exact ⟨[_], [v], vs, [], rfl, rfl, ⟨by have h1 : v = .bool x := hr.1; rw [h1], rfl⟩, hr.2, by simp [Blks]⟩
  | .str, l, rest, x, vs, h, hr, _, _ => by
    obtain rfl := ofCells_str h
    match vs, hr with
    | v :: vs, hr => exact ⟨[_], [v], vs, [], rfl, rfl, ⟨by have h1 : v = .string x := hr.1; rw [h1], rfl⟩, hr.2, by simp [Blks]⟩
  | .sl e c, l, rest, x, vs, h, hr, ho, hd => by
    cases l with
    | nil => simp [ofCells] at h
    | cons y l =>
      match vs, hr with
      | v :: vs, hr =>
        cases y with
        | nil =>
          simp only [ofCells, Option.some.injEq, Prod.mk.injEq] at h
          obtain ⟨rfl, rfl⟩ := h
          have h1 : v = .slice none 0 0 := hr.1
          subst h1
          exact ⟨[_], [_], vs, [_], rfl, rfl, ⟨none, 0, 0, rfl, rfl, ⟨rfl, Nat.le_refl _, rfl⟩, ⟨rfl, rfl⟩⟩, hr.2, by simp [Blks]⟩
        | sl id own vw e' c' xs src =>
          simp only [ofCells] at h
          split at h
          case isFalse => cases h
          rename_i he
          subst he
          obtain ⟨ys, hc, h2⟩ := Option.map_eq_some_iff.1 h
          obtain ⟨hcc, rfl⟩ := castList_spec hc
          subst hcc
          simp only [Prod.mk.injEq] at h2
          obtain ⟨rfl, rfl⟩ := h2
          simp only [AC.allOwn, Bool.and_eq_true] at ho
          obtain ⟨rfl, ho⟩ := ho
          obtain ⟨_, _, hh⟩ := hr.1
          have hdd : st.dead id = false := hd id (by simp [AC.ids])
          simp only [hdd, if_true, Bool.false_eq_true, false_or] at hh
          obtain ⟨a, n, cap, rfl, hrd, hb, _⟩ := hh
          refine ⟨[_], [_], vs, [_], rfl, rfl, ⟨a, n, cap, rfl, rfl, ?_, ?_⟩, hr.2, ?_⟩
          · cases a with
            | none => exact ⟨hrd.1, hrd.2.1, hrd.2.2⟩
            | some ad =>
              refine ⟨hrd.1, hrd.2.1, hrd.2.2.1, fun i x hx => ?_⟩
              obtain ⟨_, l, h1, h2, h3⟩ := hrd.2.2.2 i x hx
              exact ⟨rfl, l, h1, h2.mono hS (fun _ _ => rfl), h3⟩
          · cases a with
            | none => exact hb
            | some ad => exact hb.2
          · cases a with
            | none => simp [Blks]
            | some ad => simp [Blks, AC.ids, hb.1]
        | _ => simp [ofCells] at h
  | .pair c d, l, rest, x, vs, h, hr, ho, hd => by
    simp only [ofCells] at h
    obtain ⟨⟨x1, r1⟩, h1, h⟩ := Option.bind_eq_some_iff.1 h
    obtain ⟨⟨x2, r2⟩, h2, h⟩ := Option.bind_eq_some_iff.1 h
    simp only [Option.some.injEq, Prod.mk.injEq] at h
    obtain ⟨rfl, rfl⟩ := h
    obtain ⟨l1, v1, v2, rows1, rfl, rfl, a1, a2, a3⟩ := ofCells_own hS h1 hr ho hd
    have hsplit : ∀ (l l' : List AC), AC.allOwn (l ++ l') = true → AC.allOwn l' = true := by
      intro l l' h
      induction l with
      | nil => exact h
      | cons y l ih => cases y <;> simp [AC.allOwn] at h <;> first | exact ih h | exact ih h.2
    obtain ⟨l2, v3, v4, rows2, rfl, rfl, b1, b2, b3⟩ := ofCells_own hS h2 a2 (hsplit _ _ ho) (fun id hi => hd id (by rw [AC.ids_append]; simp [hi]))
    exact ⟨l1 ++ l2, v1 ++ v3, v4, rows1 ++ rows2, by simp, by simp, ⟨v1, v3, rows1, rows2, rfl, rfl, a1, b1⟩, b2, by rw [Blks_append, AC.ids_append, List.filterMap_append]; exact a3.append b3⟩
  | .any, l, rest, x, vs, h, hr, _, _ => by
    obtain ⟨y, rfl⟩ := ofCells_anyc h
    match vs, hr with
    | v :: vs, hr => exact ⟨[_], [v], vs, [], rfl, rfl, ⟨⟨v, rfl⟩, rfl⟩, hr.2, by simp [Blks]⟩
  | .arr k n, l, rest, x, vs, h, hr, _, _ => by
    obtain ⟨l1, v1, v2, h1, h5, h2, h3, h4⟩ := ofCells_arr_rd h hr
    exact ⟨l1, v1, v2, [], h1, h2, ⟨h3 w S', rfl⟩, h4, by simp [Blks]⟩

theorem part_data {S' : Nat → Prop} (hS : ∀ b, m.S b → S' b) {r : CK × Bool} {l : List AC} {x : r.1.T} {vs : List Value} (h : ofCells r.1 l = some (x, [])) (hr : All2 (RelAC m st w) l vs)
    (hf : st.fresh l = true) (ho : (!r.2 || AC.allOwn l) = true) (hro : ∀ id ∈ (if r.2 then [] else AC.ids l), ∀ b, m.row id = some b → S' b) :
    ∃ rows, PartRd w S' r x vs rows ∧ (Blks rows).Sublist ((if r.2 then AC.ids l else []).filterMap m.row) := by
  have hd := fresh_spec hf
  unfold PartRd
  cases hown : r.2 with
  | true =>
    simp only [hown, Bool.not_true, Bool.false_or] at ho
    obtain ⟨l1, vs1, vs2, rows, h1, h2, h3, h4, h5⟩ := ofCells_own hS h hr ho hd
    simp only [List.append_nil] at h1; subst h1
    match vs2, h4 with
    | [], _ => simp only [List.append_nil] at h2; subst h2; exact ⟨rows, by simpa using h3, by simpa using h5⟩
    | _ :: _, h4 => exact h4.elim
  | false =>
    simp only [hown, Bool.false_eq_true, if_false] at hro
    exact ⟨[], by simpa using ofCells_rd_all hS h hr (fun id hi => ⟨hd id hi, hro id hi⟩), by simp [Blks]⟩

theorem parts_data {S' : Nat → Prop} (hS : ∀ b, m.S b → S' b) : ∀ {rs : List (CK × Bool)} {ls : List (List AC)} {x : (CK.pairs (rs.map (·.1))).T} {vss : List (List Value)}, ofParts rs ls = some x →
    All2 (All2 (RelAC m st w)) ls vss → ls.all st.fresh = true → allOwnP rs ls = true → (∀ id ∈ roIds rs ls, ∀ b, m.row id = some b → S' b) →
    ∃ rows, PartsRd w S' rs x vss rows ∧ (Blks rows).Sublist ((ownIds rs ls).filterMap m.row)
  | [], [], x, vss, h, hr, _, _, _ => by
    match vss, hr with
    | [], _ => exact ⟨[], ⟨rfl, rfl⟩, by simp [Blks]⟩
    | _ :: _, hr => exact hr.elim
  | [r], [l], x, vss, h, hr, hf, ho, hro => by
    match vss, hr with
    | [vs], hr =>
      simp only [ofParts] at h
      split at h <;> try cases h
      rename_i h1
      simp only [List.all_cons, List.all_nil, Bool.and_true, allOwnP, roIds, List.append_nil] at hf ho hro
      obtain ⟨rows, h2, h3⟩ := part_data hS h1 hr.1 hf ho hro
      exact ⟨rows, ⟨vs, rfl, h2⟩, by simpa [ownIds] using h3⟩
    | [], hr => exact hr.elim
    | _ :: _ :: _, hr => exact hr.2.elim
  | r :: q :: rs, l :: ls, x, vss, h, hr, hf, ho, hro => by
    match vss, hr with
    | vs :: vss, hr =>
      simp only [ofParts] at h
      split at h <;> try cases h
      rename_i x1 y1 h1 h2
      simp only [List.all_cons, Bool.and_eq_true] at hf
      rw [allOwnP, Bool.and_eq_true] at ho
      rw [roIds] at hro
      obtain ⟨rows1, h3, h4⟩ := part_data hS h1 hr.1 hf.1 ho.1 fun id hi => hro id (List.mem_append_left _ hi)
      obtain ⟨rows2, h5, h6⟩ := parts_data hS h2 hr.2 hf.2 ho.2 fun id hi => hro id (List.mem_append_right _ hi)
      refine ⟨rows1 ++ rows2, ⟨vs, vss, rows1, rows2, rfl, rfl, h3, h5⟩, ?_⟩
      rw [Blks_append, ownIds, List.filterMap_append]
      exact h4.append h6
    | [], hr => exact hr.elim
  | [], _ :: _, _, _, h, _, _, _, _ => by simp [ofParts] at h
  | [_], [], _, _, h, _, _, _, _ => by simp [ofParts] at h
  | [_], _ :: _ :: _, _, _, h, _, _, _, _ => by simp [ofParts] at h
  | _ :: _ :: _, [], _, _, h, _, _, _, _ => by simp [ofParts] at h

/-- rows that come in under one key -/
def Emb.withRows (m : Emb) (key : Nat) (rows : List Row) : Emb :=
  { m with row := fun id => if id.1 = key then (rows[id.2]?).bind (·.1) else m.row id, val := fun id => if id.1 = key then ((rows[id.2]?).map (·.2)).getD undef else m.val id }

theorem own_rel (hu : st.used key = true) : ∀ {c : CK} {x : c.T} {vs : List Value} {rows : List Row} (n : Nat), OwnT w m.S c x vs rows →
    (∀ j p, rows[j]? = some p → m.row (key, n + j) = p.1 ∧ m.val (key, n + j) = p.2) →
    All2 (RelAC m st w) (ownCells c x (key, n)).1 vs ∧ (ownCells c x (key, n)).2 = (key, n + rows.length)
  | .unit, _, _, _, n, h, _ => by obtain ⟨rfl, rfl⟩ := h; exact ⟨trivial, rfl⟩
  | .int _, _, _, _, n, h, _ => by obtain ⟨rfl, rfl⟩ := h; exact ⟨⟨rfl, trivial⟩, rfl⟩
  | .bool, _, _, _, n, h, _ => by obtain ⟨rfl, rfl⟩ := h; exact ⟨⟨rfl, trivial⟩, rfl⟩
  | .str, _, _, _, n, h, _ => by obtain ⟨rfl, rfl⟩ := h; exact ⟨⟨rfl, trivial⟩, rfl⟩
  | .sl e c, xs, _, _, n, h, hr => by
    obtain ⟨a, k, cap, rfl, rfl, hrd, hb⟩ := h
    obtain ⟨h1, h2⟩ := hr 0 _ rfl
    refine ⟨⟨⟨fun _ => hu, ?_, .inr ?_⟩, trivial⟩, rfl⟩
    · refine ⟨a, cap, by rw [hrd.1], hrd.1 ▸ hrd.2.1, ?_⟩
      cases a with
      | none => exact hrd.2.2
      | some ad => exact hrd.2.2.1
    · refine ⟨a, k, cap, rfl, ?_, ?_, fun _ => h2.symm⟩
      · cases a with
        | none => exact hrd
        | some ad => exact ⟨hrd.1, hrd.2.1, hrd.2.2.1, fun i x hx => by
            obtain ⟨h3, h4⟩ := hrd.2.2.2 i x hx
            exact ⟨by simpa using h1, h4⟩⟩
      · cases a with
        | none => exact hb
        | some ad => exact ⟨by simpa using h1, hb⟩
  | .pair a b, x, _, _, n, h, hr => by
    obtain ⟨l1, l2, r1, r2, rfl, rfl, h1, h2⟩ := h
    obtain ⟨p1, p2⟩ := own_rel hu n h1 fun j p hj => hr j p (by
      rw [List.getElem?_append_left]; exact hj
      exact (List.getElem?_eq_some_iff.1 hj).1)
    obtain ⟨q1, q2⟩ := own_rel hu (n + r1.length) h2 fun j p hj => by
      have := hr (r1.length + j) p (by rw [List.getElem?_append_right (by omega)]; simpa using hj)
      rwa [← Nat.add_assoc] at this
    simp only [ownCells]
    rw [p2, q2]
    exact ⟨All2.append p1 q1, by simp; omega⟩
  | .any, _, _, _, n, h, _ => by obtain ⟨⟨v, rfl⟩, rfl⟩ := h; exact ⟨⟨trivial, trivial⟩, rfl⟩
  | .arr k l, xs, _, _, n, h, _ => by obtain ⟨rfl, rfl⟩ := h; exact ⟨arrC_rel k l xs, rfl⟩

theorem part_rel (hu : st.used key = true) {r : CK × Bool} {x : r.1.T} {vs : List Value} {rows : List Row} (n : Nat) (h : PartRd w m.S r x vs rows)
    (hr : ∀ j p, rows[j]? = some p → m.row (key, n + j) = p.1 ∧ m.val (key, n + j) = p.2) :
    All2 (RelAC m st w) (cellsO r.2 r.1 x (key, n)).1 vs ∧ (cellsO r.2 r.1 x (key, n)).2 = (key, n + rows.length) := by
  unfold PartRd at h
  unfold cellsO
  cases hown : r.2 with
  | true => simp only [hown, if_true] at h ⊢; exact own_rel hu n h hr
  | false =>
    simp only [hown, Bool.false_eq_true, if_false] at h ⊢
    obtain ⟨h1, rfl⟩ := h
    exact ⟨toCells_rel rfl h1, rfl⟩

theorem parts_abs (hu : st.used key = true) : ∀ {rs : List (CK × Bool)} {x : (CK.pairs (rs.map (·.1))).T} {vss : List (List Value)} {rows : List Row} (n : Nat), PartsRd w m.S rs x vss rows →
    (∀ j p, rows[j]? = some p → m.row (key, n + j) = p.1 ∧ m.val (key, n + j) = p.2) → All2 (All2 (RelAC m st w)) (splitCells rs x (key, n)) vss
  | [], _, _, _, n, h, _ => by obtain ⟨rfl, _⟩ := h; trivial
  | [r], x, _, _, n, h, hr => by
    obtain ⟨vs, rfl, h⟩ := h
    exact ⟨(part_rel hu n h hr).1, trivial⟩
  | r :: q :: l, x, _, _, n, h, hr => by
    obtain ⟨vs, vss, r1, r2, rfl, rfl, h1, h2⟩ := h
    obtain ⟨p1, p2⟩ := part_rel hu n h1 fun j p hj => hr j p (by
      rw [List.getElem?_append_left]; exact hj
      exact (List.getElem?_eq_some_iff.1 hj).1)
    refine ⟨p1, ?_⟩
    rw [p2]
    exact parts_abs hu (n + r1.length) h2 fun j p hj => by
      have := hr (r1.length + j) p (by rw [List.getElem?_append_right (by omega)]; simpa using hj)
      rwa [← Nat.add_assoc] at this
end
end Go.Proofs.Ytjokcjlpciecoaa.Rx
