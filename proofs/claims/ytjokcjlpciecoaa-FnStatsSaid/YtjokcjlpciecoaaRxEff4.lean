/- A part of the evaluator and its soundness: Eff4. No condition beside those that each theorem states. -/
import Derived.Test.YtjokcjlpciecoaaRxEff3
set_option linter.unusedSimpArgs false
set_option linter.unusedVariables false
namespace Go.Proofs.Ytjokcjlpciecoaa.Rx

section
variable {E : Env} {base : Nat} {Mod : Nat → Prop} {w0 : Org} {m : Emb} {st : St} {a : Act} {w : World} {key : Nat} {o : Oper} {R : Type} {K : AV → St → Option R} {r : R}

theorem Later.drew : Later m st w m st w.drew := ⟨fun _ h => h, fun _ _ => rfl, fun _ h => h, fun _ _ h => ⟨h, rfl, rfl, fun _ _ => rfl⟩, fun _ h => ⟨h, rfl⟩⟩

theorem Rel.drew (h : Rel E.F base Mod w0 m st a w) : Rel E.F base Mod w0 m st a w.drew := by
  refine ⟨h.defers, h.size, fun t => RelAV.later Later.drew (h.slot t), ⟨fun k T l hk => ?_, h.mem.boxS, h.mem.boxI, h.mem.boxU, h.mem.row, h.mem.rowI, h.mem.rowS, h.mem.rowU, h.mem.S, h.mem.iceU, h.mem.deadU⟩, ⟨h.frm.os, h.frm.tape, h.frm.output, h.frm.at0, h.frm.size, h.frm.block⟩, h.fix, h.glob⟩
  obtain ⟨arr, h1, h2⟩ := h.mem.box k T l hk
  exact ⟨arr, h1, RelAC.laters Later.drew h2⟩

theorem Later.kill (id : Id) : Later m st w m (st.kill id) w := ⟨fun _ h => h, fun _ _ => rfl, fun _ h => h, fun id' _ h2 => by
  simp only [St.kill] at h2
  split at h2
  · cases h2
  · exact ⟨h2, rfl, rfl, fun _ _ => rfl⟩, fun _ h => ⟨h, rfl⟩⟩

theorem Rel.kill (h : Rel E.F base Mod w0 m st a w) {id : Id} (hu : st.used id.1 = true) : Rel E.F base Mod w0 m (st.kill id) a w := by
  have hd : ∀ id', (st.kill id).dead id' = false → st.dead id' = false := fun id' h2 => by
    simp only [St.kill] at h2
    split at h2
    · cases h2
    · exact h2
  refine ⟨h.defers, h.size, fun t => RelAV.later (Later.kill id) (h.slot t), ⟨fun k T l hk => ?_, h.mem.boxS, h.mem.boxI, h.mem.boxU, fun id' b h1 h2 => h.mem.row id' b h1 (hd id' h2), fun id1 id2 b h1 h2 h3 h4 => h.mem.rowI id1 id2 b h1 h2 (hd _ h3) (hd _ h4), fun id' b h1 h2 => h.mem.rowS id' b h1 (hd _ h2), h.mem.rowU, h.mem.S, h.mem.iceU, fun id' hi => ?_⟩, h.frm, h.fix, h.glob⟩
  · obtain ⟨arr, h1, h2⟩ := h.mem.box k T l hk
    exact ⟨arr, h1, RelAC.laters (Later.kill id) h2⟩
  · simp only [St.kill] at hi
    split at hi
    · rename_i e; rw [e]; exact hu
    · exact h.mem.deadU id' hi

theorem app_spec {α : Type} {lim : Nat} {xs ys zs : List α} (h : app? lim xs ys = some zs) : xs.length + ys.length ≤ lim ∧ zs = xs ++ ys := by
  unfold app? at h
  split at h
  · simp only [Option.some.injEq] at h; exact ⟨by assumption, h.symm⟩
  · cases h

/-- a row's cells, one behind the other -/
theorem RdRow.flat {α : Type} {top : Nat → Prop} {rd : α → List Value → Prop} {size : Nat} {xs : List α} {ad : Addr} {n cap : Nat} (h : RdRow w top rd size xs (some ad) n cap) (hpos : 0 < size) :
    ∃ L : List Value, L.length = n * size ∧ (∀ (j : Nat) (v : Value), L[j]? = some v → w.cell? ⟨ad.block, ad.off + j, none⟩ = some v) ∧
      ∀ (i : Nat) (x : α), xs[i]? = some x → ∃ l, l.length = size ∧ rd x l ∧ ∀ (j : Nat) (v : Value), l[j]? = some v → L[i * size + j]? = some v := by
  obtain ⟨hn, hle, hsp, hc⟩ := h
  have hlt : ∀ i j, i < n → j < size → i * size + j < n * size := fun i j hi hj => by
    have : (i + 1) * size ≤ n * size := Nat.mul_le_mul_right _ (by omega)
    rw [Nat.add_mul] at this; omega
  have hex : ∀ j, j < n * size → ∃ v, w.cell? ⟨ad.block, ad.off + j, none⟩ = some v := fun j hj => by
    have hi : j / size < n := Nat.div_lt_of_lt_mul (by rwa [Nat.mul_comm])
    obtain ⟨x, hx⟩ : ∃ x, xs[j / size]? = some x := ⟨_, List.getElem?_eq_getElem (by omega)⟩
    obtain ⟨_, l, hl, _, hcl⟩ := hc _ x hx
    have hr : j % size < l.length := by rw [hl]; exact Nat.mod_lt _ hpos
    have := hcl (j % size) _ (List.getElem?_eq_getElem hr)
    have e : j / size * size + j % size = j := by
      have := Nat.div_add_mod j size
      rw [Nat.mul_comm] at this; exact this
    rw [show ad.off + j / size * size + j % size = ad.off + j from by omega] at this
    exact ⟨_, this⟩
  refine ⟨(List.range (n * size)).map fun j => (w.cell? ⟨ad.block, ad.off + j, none⟩).getD undef, by simp, fun j v hv => ?_, fun i x hx => ?_⟩
  · rw [List.getElem?_map] at hv
    obtain ⟨q, hq, rfl⟩ := Option.map_eq_some_iff.1 hv
    obtain ⟨h1, h2⟩ := List.getElem?_eq_some_iff.1 hq
    simp only [List.getElem_range] at h2
    subst h2
    obtain ⟨v, hv'⟩ := hex j (by simpa using h1)
    rw [hv']; rfl
  · obtain ⟨_, l, hl, hrd, hcl⟩ := hc i x hx
    refine ⟨l, hl, hrd, fun j v hv => ?_⟩
    have hj : j < size := by rw [← hl]; exact (List.getElem?_eq_some_iff.1 hv).1
    have hi : i < n := by rw [hn]; exact (List.getElem?_eq_some_iff.1 hx).1
    have := hcl j v hv
    rw [List.getElem?_map, List.getElem?_range (hlt i j hi hj)]
    simp only [Option.map_some]
    rw [show ad.off + (i * size + j) = ad.off + i * size + j from by omega, this]; rfl

/-- the appended part, as cells -/
structure News (m : Emb) (w : World) (c : CK) (ys : List c.T) (v : Value) (L : List Value) : Prop where
  len : L.length = ys.length * c.size
  one : ∀ u ∈ L, u.oneCell' = true
  get : ∀ (i : Nat) (x : c.T), ys[i]? = some x → ∃ l, l.length = c.size ∧ RdT w m.S c x l ∧ ∀ (j : Nat) (u : Value), l[j]? = some u → L[i * c.size + j]? = some u
  val : (v = .slice none 0 0 ∧ ys = [] ∧ L = []) ∨ ∃ ad cap, v = .slice (some ad) ys.length cap ∧ ∀ (j : Nat) (u : Value), L[j]? = some u → w.cell? (ad.add j) = some u

theorem news_of {id : Id} {own vw : Bool} {e : TypeId} {c : CK} {ys : List c.T} {src : Loc} {v : Value} (h : RelAC m st w (.sl id own vw e c ys src) v) (hd : (own && st.dead id) = false) (hpos : 0 < c.size) (hw : c.whole = true) : ∃ L, News m w c ys v L := by
  have key : ∃ top a n cap, v = .slice a n cap ∧ RdRow w top (RdT w m.S c) c.size ys a n cap := by
    obtain ⟨_, _, hh⟩ := h
    cases own with
    | false => obtain ⟨a, n, cap, rfl, hrd⟩ := hh; exact ⟨_, a, n, cap, rfl, hrd⟩
    | true =>
      simp only [if_true] at hh
      rcases hh with hh | ⟨a, n, cap, rfl, hrd, _⟩
      · simp [hh] at hd
      · exact ⟨_, a, n, cap, rfl, hrd⟩
  obtain ⟨top, a, n, cap, rfl, hrd⟩ := key
  cases a with
  | none =>
    obtain ⟨h1, h2, h3⟩ := hrd
    simp only at h3; subst h3
    have h0 : n = 0 := by omega
    subst h0
    have hy : ys = [] := List.eq_nil_of_length_eq_zero h1.symm
    subst hy
    exact ⟨[], by simp, by simp, fun i x hx => by simp at hx, .inl ⟨rfl, rfl, rfl⟩⟩
  | some ad =>
    obtain ⟨L, h1, h2, h3⟩ := hrd.flat hpos
    obtain ⟨hn, hle, hsp, _⟩ := hrd
    refine ⟨L, by rw [h1, hn], fun u hu => ?_, h3, .inr ⟨ad, cap, ?_, fun j u hu => ?_⟩⟩
    · obtain ⟨j, hj, rfl⟩ := List.getElem_of_mem hu
      rw [h1] at hj
      have hi : j / c.size < n := Nat.div_lt_of_lt_mul (by rwa [Nat.mul_comm])
      obtain ⟨x, hx⟩ : ∃ x, ys[j / c.size]? = some x := ⟨_, List.getElem?_eq_getElem (by omega)⟩
      obtain ⟨l, hl, hrd, hcl⟩ := h3 _ x hx
      have hr : j % c.size < l.length := by rw [hl]; exact Nat.mod_lt _ hpos
      have := hcl (j % c.size) _ (List.getElem?_eq_getElem hr)
      have e : j / c.size * c.size + j % c.size = j := by
        have := Nat.div_add_mod j c.size
        rw [Nat.mul_comm] at this; exact this
      rw [e, List.getElem?_eq_getElem (by omega)] at this
      simp only [Option.some.injEq] at this
      rw [this]
      exact hrd.one hw _ (List.getElem_mem hr)
    · rw [hn]
    · have hj := (List.getElem?_eq_some_iff.1 hu).1
      have hcp : 0 < cap := by
        rcases Nat.eq_zero_or_pos cap with h0 | h0
        · exfalso
          have : n = 0 := by omega
          rw [h1, this, Nat.zero_mul] at hj; omega
        · exact h0
      have hsp := hsp hcp
      have : ad = ⟨ad.block, ad.off, none⟩ := by cases ad; simp at hsp; simp [hsp]
      rw [this, addr_add]; exact h2 j u hu

theorem news_nil {c : CK} : News m w c ([] : List c.T) (.slice none 0 0) [] := ⟨by simp, by simp, fun i x hx => by simp at hx, .inl ⟨rfl, rfl, rfl⟩⟩

/-- room in the row's own block -/
theorem run_append_room' {P : Program} (w : World) (t ty e : TypeId) (i : TypeInfo) (ht : P.underlying t = some (.slice e)) (hi : P.info? e = some i)
    (g o sLen sCap : Nat) (cur : Array Value) (hg : w.heap[g]? = some (.cells cur e (0, 0)))
    (a : Addr) (m c : Nat) (news : List Value) (hl : news.length = m * i.size) (hnews : ∀ j u, news[j]? = some u → w.cell? (a.add j) = some u) (h1 : ∀ u ∈ news, u.oneCell' = true)
    (hroom : sLen + m ≤ sCap) (hfit : o + sLen * i.size + news.length ≤ cur.size) :
    (Builtin.append_ #[t, t] ty #[.slice (some ⟨g, o, none⟩) sLen sCap, .slice (some a) m c]).run P w =
      .ok (.slice (some ⟨g, o, none⟩) (sLen + m) sCap) (w.setRow g (cur.toList.take (o + sLen * i.size) ++ news ++ cur.toList.drop (o + sLen * i.size + news.length)).toArray) := by
  have hf := run_firstCells_some (P := P) w i.size m a m c news hl hnews
  have hst := run_storeCells_at P g (o + sLen * i.size) e news 0 cur w hg (by simpa using hfit) h1
  simp only [Nat.add_zero] at hst
  simp [Builtin.append_, run_underlying ht, sizeOf, typeInfo, hi, Builtin.lenOf, hroom, hf, addr_add, hst]

/-- nothing is appended -/
theorem run_append_none' {P : Program} (w : World) (t ty e : TypeId) (i : TypeInfo) (ht : P.underlying t = some (.slice e)) (hi : P.info? e = some i)
    (s : Option Addr) (n cap : Nat) (hle : n ≤ cap) :
    (Builtin.append_ #[t, t] ty #[.slice s n cap, .slice none 0 0]).run P w = .ok (.slice s n cap) w := by
  cases s with
  | none => simp [Builtin.append_, run_underlying ht, sizeOf, typeInfo, hi, Builtin.lenOf, hle, Builtin.firstCells]
  | some ad => simp [Builtin.append_, run_underlying ht, sizeOf, typeInfo, hi, Builtin.lenOf, hle, Builtin.firstCells, storeCells]


theorem get_append_block {α : Type} {xs ys : List α} {size : Nat} {X Y : List Value} {i : Nat} {x : α} (rd : α → List Value → Prop) (hX : X.length = xs.length * size)
    (h1 : ∀ (i : Nat) (x : α), xs[i]? = some x → ∃ l, l.length = size ∧ rd x l ∧ ∀ (j : Nat) (v : Value), l[j]? = some v → X[i * size + j]? = some v)
    (h2 : ∀ (i : Nat) (x : α), ys[i]? = some x → ∃ l, l.length = size ∧ rd x l ∧ ∀ (j : Nat) (v : Value), l[j]? = some v → Y[i * size + j]? = some v)
    (h : (xs ++ ys)[i]? = some x) : ∃ l, l.length = size ∧ rd x l ∧ ∀ (j : Nat) (v : Value), l[j]? = some v → (X ++ Y)[i * size + j]? = some v := by
  by_cases hi : i < xs.length
  · rw [List.getElem?_append_left hi] at h
    obtain ⟨l, hl, hr, hc⟩ := h1 i x h
    refine ⟨l, hl, hr, fun j v hv => ?_⟩
    have := hc j v hv
    rw [List.getElem?_append_left (List.getElem?_eq_some_iff.1 this).1]; exact this
  · rw [List.getElem?_append_right (by omega)] at h
    obtain ⟨l, hl, hr, hc⟩ := h2 _ x h
    refine ⟨l, hl, hr, fun j v hv => ?_⟩
    have := hc j v hv
    have e : i * size + j = xs.length * size + ((i - xs.length) * size + j) := by
      have : i * size = xs.length * size + (i - xs.length) * size := by rw [← Nat.add_mul]; congr 1; omega
      omega
    rw [e, ← hX, List.getElem?_append_right (by omega)]
    simpa using this

/-- an append that makes a new block -/
theorem append_new {e : TypeId} {c : CK} {xs ys : List c.T} {X Y : List Value} {cap : Nat} {Z : List Value} (h : Rel E.F base Mod w0 m st a w) (hu : st.used key = false)
    (hX : X.length = xs.length * c.size) (hY : Y.length = ys.length * c.size)
    (h1 : ∀ (i : Nat) (x : c.T), xs[i]? = some x → ∃ l, l.length = c.size ∧ RdT w m.S c x l ∧ ∀ (j : Nat) (v : Value), l[j]? = some v → X[i * c.size + j]? = some v)
    (h2 : ∀ (i : Nat) (x : c.T), ys[i]? = some x → ∃ l, l.length = c.size ∧ RdT w m.S c x l ∧ ∀ (j : Nat) (v : Value), l[j]? = some v → Y[i * c.size + j]? = some v)
    (hle : xs.length + ys.length ≤ cap) (hZ : cap * c.size ≤ X.length + Y.length + Z.length) :
    Rel E.F base Mod w0 (m.newRow (key, 0) w.heap.size (.slice (some ⟨w.heap.size, 0, none⟩) (xs.length + ys.length) cap)) (st.use key) a (w.drew.alloc (.cells (X ++ Y ++ Z).toArray e)) ∧
    RelAV (m.newRow (key, 0) w.heap.size (.slice (some ⟨w.heap.size, 0, none⟩) (xs.length + ys.length) cap)) (st.use key) (w.drew.alloc (.cells (X ++ Y ++ Z).toArray e)) (.one (.sl (key, 0) true false e c (xs ++ ys) .no)) (.slice (some ⟨w.heap.size, 0, none⟩) (xs.length + ys.length) cap) := by
  have := alloc_row (key := key) (e := e) (c := c) (xs := xs ++ ys) (arr := (X ++ Y ++ Z).toArray) (cap := cap) h.drew hu (by simpa using hle) (by simpa [Nat.add_assoc] using hZ) (fun i x hx => by
    obtain ⟨l, hl, hr, hc⟩ := get_append_block (RdT w m.S c) hX h1 h2 hx
    refine ⟨l, hl, RdT.mono (w := w) (w' := w.drew) (fun _ h => h) (fun _ _ => rfl) hr, fun j v hv => ?_⟩
    have := hc j v hv
    have hlt := (List.getElem?_eq_some_iff.1 this).1
    simp only [List.getElem?_toArray]
    rw [List.getElem?_append_left hlt]; exact this)
  simpa using this

theorem grownCap_fits {P : Program} {w : World} {need old : Nat} {e : TypeId} : need ≤ grownCap w need old e := grownCap_ge w need old e

/-- a row without elements -/
theorem nil_row {e : TypeId} {c : CK} (h : Rel E.F base Mod w0 m st a w) (hu : st.used key = false) :
    ∃ m', RelAV m' (st.use key) w (.one (.sl (key, 0) true false e c [] .no)) (.slice none 0 0) ∧ Rel E.F base Mod w0 m' (st.use key) a w := by
  refine ⟨{ m with val := fun q => if q = (key, 0) then .slice none 0 0 else m.val q }, ?_, ?_⟩
  · refine ⟨fun _ => by simp [St.use], ⟨none, 0, rfl, Nat.le_refl _, rfl⟩, ?_⟩
    simp only [if_true]
    exact .inr ⟨none, 0, 0, rfl, ⟨rfl, Nat.le_refl _, rfl⟩, ⟨rfl, rfl⟩, fun _ => by simp⟩
  · have hlat : Later m st w { m with val := fun q => if q = (key, 0) then .slice none 0 0 else m.val q } (st.use key) w :=
      ⟨fun _ h => h, fun _ _ => rfl, fun k hk => by simp [St.use, hk], fun id h1 h2 => ⟨h2, rfl, by
        have : id ≠ (key, 0) := fun e => by rw [e] at h1; simp [hu] at h1
        simp [this], fun _ _ => rfl⟩, fun k hk => ⟨hk, rfl⟩⟩
    refine ⟨h.defers, h.size, fun t => RelAV.later hlat (h.slot t), ⟨fun k T l hk => ?_, h.mem.boxS, h.mem.boxI, fun k hk => by simp [St.use, h.mem.boxU k hk], h.mem.row, h.mem.rowI, h.mem.rowS, fun id b hb => by simp [St.use, h.mem.rowU id b hb], h.mem.S, fun id hi => by simp [St.use, h.mem.iceU id hi], fun id hi => by simp [St.use, h.mem.deadU id hi]⟩, h.frm, h.fix, h.glob⟩
    obtain ⟨arr, h1, h2⟩ := h.mem.box k T l hk
    exact ⟨arr, h1, RelAC.laters hlat h2⟩

theorem eff_append_nil {t e : TypeId} {S X : Operand} {c : CK} {ys : List c.T} {L : List Value} (ho : o.op = .call { callee := .builtin .append, args := #[S, X], argTypes := #[t, t] })
    (h : Rel E.F base Mod w0 m st a w) (hu : st.used key = false) (he : elemT E t = some e) {z : List AC} (hz : zeroCells E e = some z) (hzs : z.length = c.size) (hsz : sizeT E e = c.size)
    (hS : a.eval S = .slice none 0 0) (hX : News m w c ys (a.eval X) L)
    (hK : ((app? (limOf (E.P.bytesOf e)) ([] : List c.T) ys).bind fun zs => K (.one (.sl (key, 0) true false e c zs .no)) (st.use key)) = some r) :
    Effs E base Mod w0 o a w fun av st' => K av st' = some r := by
  obtain ⟨zs, hzs', hK⟩ := Option.bind_eq_some_iff.1 hK
  obtain ⟨hlim, hzq⟩ := app_spec hzs'
  simp only [List.nil_append] at hzq
  subst zs
  obtain ⟨i, zv, hi, hiz, hzc⟩ := zeroCells_spec hz
  have hsi : i.size = c.size := by rw [← hsz]; unfold sizeT Program.cellsOf; simp [hi]
  have hbi : E.P.bytesOf e = i.bytes := by unfold Program.bytesOf; simp [hi]
  have hzsz : zv.cells.size = c.size := by rw [hzc] at hzs; simpa using hzs
  simp only [List.length_nil, Nat.zero_add] at hlim
  by_cases hm : ys.length = 0
  · obtain rfl : ys = [] := List.eq_nil_of_length_eq_zero hm
    obtain rfl : L = [] := List.eq_nil_of_length_eq_zero (by rw [hX.len]; simp)
    obtain ⟨m', h1, h2⟩ := nil_row (key := key) (e := e) (c := c) h hu
    rcases hX.val with ⟨hv, _⟩ | ⟨ad2, cap, hv, hc⟩
    · have hrun := run_append_none' (P := E.P) w t o.type e i (elemT_spec he) hi none 0 0 (Nat.le_refl _)
      exact ⟨_, .slice none 0 0, w, m', _, st.use key, by simp [execOp, ho, resolve, invoke, builtin, hS, hv, hrun], .inl rfl, hK, h1, h2⟩
    · have hrun : (Builtin.append_ #[t, t] o.type #[.slice none 0 0, .slice (some ad2) 0 cap]).run E.P w = .ok (.slice none 0 0) w := by
        simp [Builtin.append_, run_underlying (elemT_spec he), sizeOf, typeInfo, hi, Builtin.lenOf, Builtin.firstCells, loadCells, loadCellsFrom]
      exact ⟨_, .slice none 0 0, w, m', _, st.use key, by simp [execOp, ho, resolve, invoke, builtin, hS, hv, hrun], .inl rfl, hK, h1, h2⟩
  · rcases hX.val with ⟨hv, rfl, rfl⟩ | ⟨ad2, cap, hv, hc⟩
    · simp at hm
    rw [hbi] at hlim
    have hby := limOf_spec hlim
    have hmx := limOf_max hlim
    have hrun := run_append_nil (P := E.P) w t o.type e i zv (elemT_spec he) hi hiz ad2 ys.length cap L (by rw [hX.len, hsi]) hc (by omega) (by omega) (by rw [Nat.mul_comm]; omega)
    have hge := grownCap_ge w ys.length 0 e
    obtain ⟨h1, h2⟩ := append_new (E := E) (e := e) (c := c) (xs := []) (ys := ys) (X := []) (Y := L) (cap := grownCap w ys.length 0 e) (Z := (Builtin.zeroCells zv.cells (grownCap w ys.length 0 e - ys.length)).toList) h hu (by simp) hX.len (fun i x hx => by simp at hx) hX.get (by simpa using hge)
      (by
        simp only [List.length_nil, Nat.zero_add, Array.length_toList, size_zeroCells, hzsz, hX.len, ← Nat.add_mul]
        apply Nat.mul_le_mul_right; omega)
    simp only [List.nil_append, List.length_nil, Nat.zero_add] at h1 h2
    have hw : (L ++ (Builtin.zeroCells zv.cells (grownCap w ys.length 0 e - ys.length)).toList).toArray = L.toArray ++ Builtin.zeroCells zv.cells (grownCap w ys.length 0 e - ys.length) := by
      apply Array.toList_inj.1; simp
    rw [hw] at h1 h2
    refine ⟨_, _, _, _, _, st.use key, ?_, .inl rfl, hK, h2, h1⟩
    simp only [execOp, ho]
    simp [resolve, invoke, builtin, hS, hv, hrun]

/-- onto a row of the call's own -/
theorem eff_append_own {t e : TypeId} {S X : Operand} {c : CK} {id : Id} {vw : Bool} {src : Loc} {xs ys : List c.T} {L : List Value} (ho : o.op = .call { callee := .builtin .append, args := #[S, X], argTypes := #[t, t] })
    (h : Rel E.F base Mod w0 m st a w) (hu : st.used key = false) (he : elemT E t = some e) {z : List AC} (hz : zeroCells E e = some z) (hzs : z.length = c.size) (hsz : sizeT E e = c.size) (hpos : 0 < c.size)
    (hS : RelAC m st w (.sl id true vw e c xs src) (a.eval S)) (hr : st.rights id = true) (hX : News m w c ys (a.eval X) L)
    (hK : ((app? (limOf (E.P.bytesOf e)) xs ys).bind fun zs => K (.one (.sl (key, 0) true false e c zs .no)) ((st.use key).kill id)) = some r) :
    Effs E base Mod w0 o a w fun av st' => K av st' = some r := by
  obtain ⟨zs, hzs', hK⟩ := Option.bind_eq_some_iff.1 hK
  obtain ⟨hlim, hzq⟩ := app_spec hzs'
  subst hzq
  obtain ⟨hd, hi'⟩ := rights_spec hr
  obtain ⟨hui, _, hh⟩ := hS
  have hui := hui rfl
  simp only [if_true] at hh
  have hh := hh.resolve_left (by simp [hd])
  obtain ⟨ab, n, cap, hSv, hrd, hbk, hexv⟩ := hh
  obtain ⟨i, zv, hi, hiz, hzc⟩ := zeroCells_spec hz
  have hsi : i.size = c.size := by rw [← hsz]; unfold sizeT Program.cellsOf; simp [hi]
  have hbi : E.P.bytesOf e = i.bytes := by unfold Program.bytesOf; simp [hi]
  have hzsz : zv.cells.size = c.size := by rw [hzc] at hzs; simpa using hzs
  have hn := hrd.1
  have hncap := hrd.2.1
  -- nothing of the call's own behind it, and nothing comes
  cases ab with
  | none =>
    obtain ⟨rfl, rfl⟩ := hbk
    obtain rfl : xs = [] := List.eq_nil_of_length_eq_zero hn.symm
    have hk : (st.use key).kill id = (st.kill id).use key := by simp [St.use, St.kill]
    have hK' : ((app? (limOf (E.P.bytesOf e)) ([] : List c.T) ys).bind fun zs => (fun av st' => K av st') (.one (.sl (key, 0) true false e c zs .no)) ((st.kill id).use key)) = some r := by
      rw [hzs']; simp only [Option.bind_some, List.nil_append]; rw [← hk]; simpa using hK
    have hXk : News m w c ys (a.eval X) L := hX
    exact eff_append_nil (st := st.kill id) (K := K) ho (h.kill hui) (by simpa [St.kill] using hu) he hz hzs hsz hSv hXk hK'
  | some ad =>
    obtain ⟨hrow, cur, hcur, hcap, hsp⟩ := hbk
    obtain ⟨X0, hX1, hX2, hX3⟩ := hrd.flat hpos
    have had : ad = ⟨ad.block, ad.off, none⟩ := by cases ad; simp at hsp; simp [hsp]
    have hmulcap : n * c.size ≤ cap * c.size := Nat.mul_le_mul_right _ hncap
    by_cases hroom : n + ys.length ≤ cap
    · -- room
      have hmul2 : (n + ys.length) * c.size ≤ cap * c.size := Nat.mul_le_mul_right _ hroom
      rw [Nat.add_mul] at hmul2
      have hrun : (Builtin.append_ #[t, t] o.type #[a.eval S, a.eval X]).run E.P w = .ok (.slice (some ad) (n + ys.length) cap) (w.setRow ad.block (cur.toList.take (ad.off + n * c.size) ++ L ++ cur.toList.drop (ad.off + n * c.size + L.length)).toArray) := by
        rcases hX.val with ⟨hv, rfl, rfl⟩ | ⟨ad2, cap', hv, hc⟩
        · rw [hSv, hv, run_append_none' (P := E.P) w t o.type e i (elemT_spec he) hi (some ad) n cap hncap]
          congr 1
          simp only [List.append_nil, List.length_nil, Nat.add_zero, List.take_append_drop, Array.toArray_toList]
          exact (setRow_self w ad.block cur e (0, 0) hcur).symm
        · rw [hSv, hv, had]
          have := run_append_room' (P := E.P) w t o.type e i (elemT_spec he) hi ad.block ad.off n cap cur hcur ad2 ys.length cap' L (by rw [hX.len, hsi]) hc hX.one hroom (by rw [hsi, hX.len]; omega)
          rw [hsi] at this
          exact this
      obtain ⟨h2, hl2⟩ := moved_rel (key := key) (id := id) (g := ad.block) (cs := (cur.toList.take (ad.off + n * c.size) ++ L ++ cur.toList.drop (ad.off + n * c.size + L.length)).toArray) (v := .slice (some ad) (n + ys.length) cap) h hu hd hi' hrow hui
      have hnew := setRow_heap w ad.block cur (cur.toList.take (ad.off + n * c.size) ++ L ++ cur.toList.drop (ad.off + n * c.size + L.length)).toArray e (0, 0) hcur
      refine ⟨_, .slice (some ad) (n + ys.length) cap, _, _, _, (st.use key).kill id, ?_, .inl rfl, hK, ?_, h2⟩
      · simp only [execOp, ho]
        simp only [resolve, invoke, builtin, Sem.run_bind]
        simp [hrun]
      · refine ⟨fun _ => by simp [St.kill, St.use], ⟨some ad, cap, by rw [List.length_append, hn], by rw [List.length_append, ← hn]; exact hroom, fun _ => hsp⟩, ?_⟩
        simp only [if_true]
        right
        refine ⟨_, _, _, rfl, ⟨by rw [List.length_append, hn], hroom, fun _ => hsp, fun j x hx => ⟨by simp [Emb.movedRow, hrow], ?_⟩⟩, ⟨by simp [Emb.movedRow, hrow], _, hnew, by simp [hX.len]; omega, hsp⟩, fun _ => by simp [Emb.movedRow]⟩
        obtain ⟨l, hl, hrdl, hcl⟩ := get_append_block (RdT w m.S c) (by rw [hX1, hn]) hX3 hX.get hx
        refine ⟨l, hl, RdT.mono hl2.S hl2.keep hrdl, fun q v hq => ?_⟩
        have hq' := hcl q v hq
        rw [cell_of_row _ _ _ _ _ _ hnew]
        have hlen0 : X0.length = n * c.size := hX1
        have hp := laid_get cur.toList L (ad.off + n * c.size) (ad.off + j * c.size + q) (by simp [hX.len]; omega)
        simp only [List.getElem?_toArray]
        rw [hp]
        by_cases c1 : j * c.size + q < n * c.size
        · rw [List.getElem?_append_left (by omega)] at hq'
          have := hX2 _ _ hq'
          rw [if_pos (by omega)]
          rw [cell_of_row w _ _ _ _ _ hcur] at this
          rw [show ad.off + j * c.size + q = ad.off + (j * c.size + q) from by omega]
          simpa using this
        · rw [List.getElem?_append_right (by omega), hlen0] at hq'
          have hlt := (List.getElem?_eq_some_iff.1 hq').1
          rw [if_neg (by omega), if_pos (by omega)]
          rw [show ad.off + j * c.size + q - (ad.off + n * c.size) = j * c.size + q - n * c.size from by omega]; exact hq'
    · -- a new block
      rw [hbi] at hlim
      have hby := limOf_spec hlim
      have hmx := limOf_max hlim
      rcases hX.val with ⟨hv, rfl, rfl⟩ | ⟨ad2, cap', hv, hc⟩
      · exfalso; simp at hroom; omega
      have hrun := run_append_grow (P := E.P) w t o.type e i zv (elemT_spec he) hi hiz ad n cap X0 (by rw [hX1, hsi]) (fun j u hu => by rw [had, addr_add]; exact hX2 j u hu) ad2 ys.length cap' L (by rw [hX.len, hsi]) hc (by omega) (by omega)
        (growslice_fits (by omega) (by rw [Nat.mul_comm]; rw [hn]; omega))
      have hge := grownCap_ge w (n + ys.length) cap e
      obtain ⟨h1, h2⟩ := append_new (E := E) (key := key) (st := st) (e := e) (c := c) (xs := xs) (ys := ys) (X := X0) (Y := L) (cap := grownCap w (n + ys.length) cap e) (Z := (Builtin.zeroCells zv.cells (grownCap w (n + ys.length) cap e - (n + ys.length))).toList) h hu (by rw [hX1, hn]) hX.len hX3 hX.get (by rw [← hn]; exact hge)
        (by
          simp only [Array.length_toList, size_zeroCells, hzsz, hX.len, hX1, ← Nat.add_mul]
          apply Nat.mul_le_mul_right; omega)
      have hw : (X0 ++ L ++ (Builtin.zeroCells zv.cells (grownCap w (n + ys.length) cap e - (n + ys.length))).toList).toArray = X0.toArray ++ L.toArray ++ Builtin.zeroCells zv.cells (grownCap w (n + ys.length) cap e - (n + ys.length)) := by
        apply Array.toList_inj.1; simp
      rw [hw] at h1 h2
      rw [← hn] at h1 h2
      have hne : (key, 0) ≠ id := fun e => by rw [← e] at hui; simp [hu] at hui
      refine ⟨_, .slice (some ⟨w.heap.size, 0, none⟩) (n + ys.length) (grownCap w (n + ys.length) cap e), _, _, _, (st.use key).kill id, ?_, .inl rfl, hK, RelAV.later (Later.kill id) h2, h1.kill (by simp [St.use, hui])⟩
      simp only [execOp, ho]
      simp only [resolve, invoke, builtin, Sem.run_bind]
      simp [hSv, hv, hrun]
end
end Go.Proofs.Ytjokcjlpciecoaa.Rx
