/- A part of the evaluator and its soundness: Quiet3. No condition beside those that each theorem states. -/
import Derived.Test.YtjokcjlpciecoaaRxQuiet2
import Derived.Laws.MakeOwn
set_option linter.unusedVariables false
set_option linter.unusedSimpArgs false
namespace Go.Proofs.Ytjokcjlpciecoaa.Rx

section
variable {E : Env} {base : Nat} {Mod : Nat → Prop} {w0 : Org} {m : Emb} {st : St} {a : Act} {w : World} {key : Nat} {o : Oper} {R : Type} {K : AV → Option R} {r : R}

def Emb.newRow (m : Emb) (id : Id) (b : Nat) (v : Value) : Emb := { m with row := fun i => if i = id then some b else m.row i, val := fun i => if i = id then v else m.val i }

/-- a row of the call's own comes to be in a new block -/
theorem alloc_row {e : TypeId} {c : CK} {xs : List c.T} {arr : Array Value} {cap : Nat} (h : Rel E.F base Mod w0 m st a w) (hu : st.used key = false)
    (hle : xs.length ≤ cap) (hcap : cap * c.size ≤ arr.size)
    (hx : ∀ i x, xs[i]? = some x → ∃ l, l.length = c.size ∧ RdT w m.S c x l ∧ ∀ j v, l[j]? = some v → arr[i * c.size + j]? = some v) :
    Rel E.F base Mod w0 (m.newRow (key, 0) w.heap.size (.slice (some ⟨w.heap.size, 0, none⟩) xs.length cap)) (st.use key) a (w.alloc (.cells arr e)) ∧
    RelAV (m.newRow (key, 0) w.heap.size (.slice (some ⟨w.heap.size, 0, none⟩) xs.length cap)) (st.use key) (w.alloc (.cells arr e)) (.one (.sl (key, 0) true false e c xs .no)) (.slice (some ⟨w.heap.size, 0, none⟩) xs.length cap) := by
  have hold : ∀ b, b < w.heap.size → (w.alloc (.cells arr e)).heap[b]? = w.heap[b]? := fun b hb => heap_alloc_old w _ b hb
  have hnew : (w.alloc (.cells arr e)).heap[w.heap.size]? = some (.cells arr e (0, 0)) := heap_alloc_new w _
  have hid : ∀ id, st.used id.1 = true → id ≠ (key, 0) := fun id h1 h2 => by rw [h2] at h1; simp [hu] at h1
  have hlat : Later m st w (m.newRow (key, 0) w.heap.size (.slice (some ⟨w.heap.size, 0, none⟩) xs.length cap)) (st.use key) (w.alloc (.cells arr e)) := by
    refine ⟨fun _ hb => hb, fun b hb => hold b (h.mem.S b hb), fun k hk => by simp [St.use, hk], fun id h1 h2 => ?_, fun k hk => ⟨hk, rfl⟩⟩
    refine ⟨h2, by simp [Emb.newRow, hid id h1], by simp [Emb.newRow, hid id h1], fun b hb => hold b ?_⟩
    exact (h.mem.row id b hb h2).1
  have hsz : (w.alloc (.cells arr e)).heap.size = w.heap.size + 1 := by show (w.heap.push _).size = _; simp
  refine ⟨⟨h.defers, h.size, fun t => RelAV.later hlat (h.slot t), ?_, ?_, h.fix, h.glob⟩, ?_⟩
  · refine ⟨fun k T l hk => ?_, h.mem.boxS, h.mem.boxI, fun k hk => by simp [St.use, h.mem.boxU k hk], fun id b hb hd => ?_, fun id id' b hb hb' hd hd' => ?_, fun id b hb hd => ?_, fun id b hb => ?_, fun b hb => ?_, ?_, ?_⟩
    · obtain ⟨arr', h1, h2⟩ := h.mem.box k T l hk
      exact ⟨arr', (hold _ (Array.getElem?_eq_some_iff.1 h1).1).trans h1, RelAC.laters hlat h2⟩
    · simp only [Emb.newRow] at hb
      split at hb
      · simp only [Option.some.injEq] at hb; subst hb
        refine ⟨by omega, .inl (by rw [h.frm.at0]; exact h.frm.size), fun k hk he => ?_⟩
        obtain ⟨⟨T, l⟩, hkk⟩ := Option.isSome_iff_exists.1 hk
        obtain ⟨arr', h1, _⟩ := h.mem.box k T l hkk
        have h2 : m.bl k < w.heap.size := (Array.getElem?_eq_some_iff.1 h1).1
        have h3 : m.bl k = w.heap.size := he
        omega
      · obtain ⟨h1, h2, h3⟩ := h.mem.row id b hb hd
        exact ⟨by omega, h2, h3⟩
    · simp only [Emb.newRow] at hb hb'
      split at hb <;> split at hb'
      · simp_all
      · simp only [Option.some.injEq] at hb; subst hb
        have := (h.mem.row id' _ hb' hd').1; omega
      · simp only [Option.some.injEq] at hb'; subst hb'
        have := (h.mem.row id _ hb hd).1; omega
      · exact h.mem.rowI id id' b hb hb' hd hd'
    · simp only [Emb.newRow] at hb
      split at hb
      · simp only [Option.some.injEq] at hb; subst hb
        rename_i he
        constructor
        · intro hs; have := h.mem.S _ hs; omega
        · intro hi; have := h.mem.iceU id hi; rw [he] at this; simp [hu] at this
      · exact h.mem.rowS id b hb hd
    · simp only [Emb.newRow] at hb
      split at hb
      · rename_i he; simp [St.use, he]
      · simp [St.use, h.mem.rowU id b hb]
    · have := h.mem.S b hb; omega
    · intro id hi; simp [St.use, h.mem.iceU id hi]
    · intro id hi; simp [St.use, h.mem.deadU id hi]
  · refine ⟨h.frm.os, h.frm.tape, h.frm.output, h.frm.at0, by have := h.frm.size; omega, fun k hk hm => ?_⟩
    rw [hold k (by have := h.frm.size; have := h.frm.at0; omega)]
    exact h.frm.block k hk hm
  · refine ⟨fun _ => by simp [St.use], ⟨_, _, rfl, hle, fun _ => rfl⟩, ?_⟩
    simp only [if_true]
    right
    refine ⟨_, _, _, rfl, ⟨rfl, hle, fun _ => rfl, fun i x hxi => ⟨by simp [Emb.newRow], ?_⟩⟩, ⟨by simp [Emb.newRow], arr, hnew, by simpa using hcap, rfl⟩, fun _ => by simp [Emb.newRow]⟩
    obtain ⟨l, hl, hr, hc⟩ := hx i x hxi
    refine ⟨l, hl, RdT.mono (fun _ hb => hb) (fun b hb => hold b (h.mem.S b hb)) hr, fun j v hv => ?_⟩
    rw [cell_of_row _ _ _ _ _ _ hnew]
    simpa using hc j v hv

theorem eqCells_eq : ∀ {l m : List AC} {b : Bool}, eqCells l m = some b → (b = true ↔ l = m)
  | [], [], b, h => by simp [eqCells] at h; simp [← h]
  | .int k x :: l, .int k' y :: m, b, h => by
    simp only [eqCells] at h
    split at h
    · rename_i hk; subst hk
      obtain ⟨b', h1, h2⟩ := Option.map_eq_some_iff.1 h
      have := eqCells_eq h1
      subst h2; simp [this]
    · cases h
  | .bool x :: l, .bool y :: m, b, h => by
    simp only [eqCells] at h
    obtain ⟨b', h1, h2⟩ := Option.map_eq_some_iff.1 h
    have := eqCells_eq h1
    subst h2; simp [this]
  | .str x :: l, .str y :: m, b, h => by
    simp only [eqCells] at h
    obtain ⟨b', h1, h2⟩ := Option.map_eq_some_iff.1 h
    have := eqCells_eq h1
    subst h2; simp [this]
  | [], _ :: _, _, h => by simp [eqCells] at h
  | .int _ _ :: _, [], _, h | .bool _ :: _, [], _, h | .str _ :: _, [], _, h | .nil :: _, _, _, h | .sl .. :: _, _, _, h | .ptr .. :: _, _, _, h | .fn .. :: _, _, _, h | .bad :: _, _, _, h => by simp [eqCells] at h
  | .int _ _ :: _, .bool _ :: _, _, h | .int _ _ :: _, .str _ :: _, _, h | .int _ _ :: _, .nil :: _, _, h | .int _ _ :: _, .sl .. :: _, _, h | .int _ _ :: _, .ptr .. :: _, _, h | .int _ _ :: _, .fn .. :: _, _, h | .int _ _ :: _, .bad :: _, _, h => by simp [eqCells] at h
  | .bool _ :: _, .int _ _ :: _, _, h | .bool _ :: _, .str _ :: _, _, h | .bool _ :: _, .nil :: _, _, h | .bool _ :: _, .sl .. :: _, _, h | .bool _ :: _, .ptr .. :: _, _, h | .bool _ :: _, .fn .. :: _, _, h | .bool _ :: _, .bad :: _, _, h => by simp [eqCells] at h
  | .str _ :: _, .int _ _ :: _, _, h | .str _ :: _, .bool _ :: _, _, h | .str _ :: _, .nil :: _, _, h | .str _ :: _, .sl .. :: _, _, h | .str _ :: _, .ptr .. :: _, _, h | .str _ :: _, .fn .. :: _, _, h | .str _ :: _, .bad :: _, _, h => by simp [eqCells] at h

def cellOf (v : Value) : AC := match constAV v with | .one x => x | _ => .bad

theorem cellOf_int {k : IntKind} {n : Int} {v : Value} (h : cellOf v = .int k n) : v = .int k n := by
  unfold cellOf constAV at h
  split at h
  · rename_i y he
    subst h
    split at he <;> first | (cases he; rfl) | (cases he; done)
  · cases h

theorem flat_rd {S : Nat → Prop} : ∀ {c : CK} (x : c.T) {vs : List Value}, c.flat = true → vs.map cellOf = toCells c x → RdT w S c x vs
  | .unit, _, vs, _, h => by simpa [toCells, RdT] using h
  | .int k, n, vs, _, h => by
    match vs, h with
    | [v], h =>
      simp only [List.map_cons, List.map_nil, toCells, List.cons.injEq, and_true] at h
      unfold cellOf constAV at h
      split at h
      · rename_i y he
        subst h
        split at he <;> first | (cases he; rfl) | (cases he; done)
      · cases h
    | [], h => simp [toCells] at h
    | _ :: _ :: _, h => simp [toCells] at h
  | .bool, n, vs, _, h => by
    match vs, h with
    | [v], h =>
      simp only [List.map_cons, List.map_nil, toCells, List.cons.injEq, and_true] at h
      unfold cellOf constAV at h
      split at h
      · rename_i y he
        subst h
        split at he <;> first | (cases he; rfl) | (cases he; done)
      · cases h
    | [], h => simp [toCells] at h
    | _ :: _ :: _, h => simp [toCells] at h
  | .str, n, vs, _, h => by
    match vs, h with
    | [v], h =>
      simp only [List.map_cons, List.map_nil, toCells, List.cons.injEq, and_true] at h
      unfold cellOf constAV at h
      split at h
      · rename_i y he
        subst h
        split at he <;> first | (cases he; rfl) | (cases he; done)
      · cases h
    | [], h => simp [toCells] at h
    | _ :: _ :: _, h => simp [toCells] at h
  | .sl _ _, _, _, hf, _ => by simp [CK.flat] at hf
  | .pair a b, x, vs, hf, h => by
    simp only [CK.flat, Bool.and_eq_true] at hf
    simp only [toCells] at h
    obtain ⟨l1, l2, rfl, h1, h2⟩ := List.map_eq_append_iff.1 h
    exact ⟨l1, l2, rfl, flat_rd x.1 hf.1 h1, flat_rd x.2 hf.2 h2⟩
  | .any, _, _, hf, _ => by simp [CK.flat] at hf
  | .arr k n, xs, vs, _, h => by
    simp only [toCells, arrC] at h
    show vs = _
    generalize List.range n = L at h
    induction L generalizing vs with
    | nil => simpa using h
    | cons i L ih =>
      cases vs with
      | nil => simp at h
      | cons v vs =>
        simp only [List.map_cons, List.cons.injEq] at h
        rw [List.map_cons, ih vs h.2, cellOf_int h.1]

theorem zeroCells_spec {t : TypeId} {l : List AC} (h : zeroCells E t = some l) : ∃ i z, E.P.info? t = some i ∧ i.zero = some z ∧ l = z.cells.toList.map cellOf := by
  unfold zeroCells at h
  cases hi : E.P.info? t with
  | none => simp [hi] at h
  | some i =>
    cases hz : i.zero with
    | none => simp [hi, hz] at h
    | some z =>
      refine ⟨i, z, rfl, hz, ?_⟩
      simp only [hi, Option.bind_some, hz] at h
      split at h
      · rename_i cs he
        simp only [Option.some.injEq] at he h; subst he; subst h
        rfl
      · rename_i v hne he
        simp only [Option.some.injEq] at he h; subst he; subst h
        have : z.cells = #[z] := by cases z <;> first | rfl | (exfalso; exact hne _ rfl)
        rw [this]; rfl
      · cases h

theorem mk_spec {α : Type} {lim : Nat} {n : Int} {z : α} {xs : List α} (h : mk? lim n z = some xs) : 0 ≤ n ∧ n ≤ lim ∧ xs = List.replicate n.toNat z := by
  unfold mk? at h
  split at h
  · simp only [Option.some.injEq] at h; subst h; rename_i hc; exact ⟨hc.1, hc.2, rfl⟩
  · cases h

theorem limOf_spec {bytes n : Nat} (h : n ≤ limOf bytes) : bytes * n ≤ 140737488355328 := by
  unfold limOf at h
  have := Nat.mul_le_mul_left bytes h
  exact Nat.le_trans this (Nat.mul_div_le _ _)

theorem limOf_max {bytes n : Nat} (h : n ≤ limOf bytes) : n ≤ 140737488355328 := by
  unfold limOf at h
  exact Nat.le_trans h (Nat.div_le_self _ _)

theorem madeCells_get {z : Array Value} {s n i j : Nat} {v : Value} (hs : z.size = s) (hi : i < n) (hv : z[j]? = some v) : (madeCells z (n * s))[i * s + j]? = some v := by
  have hj : j < s := by rw [← hs]; exact (Array.getElem?_eq_some_iff.1 hv).1
  have hlt : i * s + j < n * s := by
    have : (i + 1) * s ≤ n * s := Nat.mul_le_mul_right s (by omega)
    rw [Nat.add_mul] at this; omega
  have hm : (i * s + j) % s = j := by rw [Nat.mul_comm, Nat.mul_add_mod]; exact Nat.mod_eq_of_lt hj
  unfold madeCells
  rw [Array.getElem?_map, Array.getElem?_range, if_pos hlt]
  simp only [Option.map_some, hs, hm]
  obtain ⟨h1, h2⟩ := Array.getElem?_eq_some_iff.1 hv
  simp [getElem!_pos, h1, h2]

theorem quiet_makeSlice {t e : TypeId} {L C : Operand} {n : Int} {c : CK} (ho : o.op = .makeSlice t L C) (h : Rel E.F base Mod w0 m st a w) (hu : st.used key = false) (hLC : sameOp L C = true)
    (he : elemT E t = some e) (hL : opnd st L = .one (.int .i64 n)) (hsz : sizeT E e = c.size) (hpos : 0 < c.size) (hf : c.flat = true) (hz : zeroFits E e c = true)
    (hK : ((mk? (limOf (E.P.bytesOf e)) n c.zero).bind fun xs => K (.one (.sl (key, 0) true false e c xs .no))) = some r) :
    Vals E base Mod w0 (st.use key) o a w fun av => K av = some r := by
  obtain ⟨xs, hxs, hK⟩ := Option.bind_eq_some_iff.1 hK
  obtain ⟨h0, h1, rfl⟩ := mk_spec hxs
  have hl := h.opnd L
  rw [hL] at hl
  have hl' : a.eval L = .int .i64 n := hl
  have hc' : a.eval C = .int .i64 n := by
    unfold sameOp at hLC
    split at hLC
    · simp only [beq_iff_eq] at hLC; subst hLC; exact hl'
    · simp only [Bool.and_eq_true, beq_iff_eq] at hLC; obtain ⟨rfl, rfl⟩ := hLC; exact hl'
    · cases hLC
  unfold zeroFits at hz
  cases hzc : zeroCells E e with
  | none => simp [hzc] at hz
  | some l =>
    rw [hzc] at hz
    simp only at hz
    split at hz
    case h_2 => cases hz
    rename_i b hb
    obtain rfl := (eqCells_eq hb).1 hz
    obtain ⟨i, z, hi, hiz, hlz⟩ := zeroCells_spec hzc
    have hrd : ∀ S, RdT w S c c.zero z.cells.toList := fun S => flat_rd c.zero hf hlz.symm
    have hsi : i.size = c.size := by rw [← hsz]; unfold sizeT Program.cellsOf; simp [hi]
    have hbi : E.P.bytesOf e = i.bytes := by unfold Program.bytesOf; simp [hi]
    have hzs : z.cells.size = c.size := by simpa using (hrd fun _ => True).length
    have hlim : n.toNat ≤ limOf i.bytes := by rw [← hbi]; omega
    have hby := limOf_spec hlim
    have hmx := limOf_max hlim
    have hrun := run_make (P := E.P) w t e i z (elemT_spec he) hi hiz .i64 .i64 n n h0 (Int.le_refl _) (by
      have : ((i.bytes * n.toNat : Nat) : Int) ≤ 281474976710656 := by omega
      rw [Int.natCast_mul, Int.toNat_of_nonneg h0] at this; exact this) (by omega)
    rw [hsi] at hrun
    obtain ⟨h1', h2'⟩ := alloc_row (key := key) (e := e) (c := c) (xs := List.replicate n.toNat c.zero) (arr := madeCells z.cells (n.toNat * c.size)) (cap := n.toNat) h hu (by simp) (by simp [size_madeCells])
      (fun j x hx => by
        have hj : j < n.toNat := by
          have := (List.getElem?_eq_some_iff.1 hx).1; simpa using this
        rw [List.getElem?_replicate, if_pos hj] at hx
        simp only [Option.some.injEq] at hx; subst hx
        exact ⟨z.cells.toList, by simpa using hzs, hrd _, fun q v hv => madeCells_get hzs hj (by simpa using hv)⟩)
    refine ⟨.slice (some ⟨w.heap.size, 0, none⟩) n.toNat n.toNat, _, _, _, ?_, hK, ?_, h1'⟩
    · simp only [execOp, ho, hl', hc']
      simp [hrun]
    · simpa using h2'
end
end Go.Proofs.Ytjokcjlpciecoaa.Rx
