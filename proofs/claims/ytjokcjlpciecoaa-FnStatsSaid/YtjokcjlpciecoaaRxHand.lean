/- A part of the evaluator and its soundness: Hand. No condition beside those that each theorem states. -/
import Derived.Test.YtjokcjlpciecoaaRxFlat
import Derived.KernelRfl
import Derived.WalkKit
import Derived.Shelf.RegionOpenPlain
import Derived.Lib.Walk
import Derived.Deep.LoopGhost
import Derived.Sort.WalkB12
set_option linter.unusedVariables false
set_option linter.unusedSimpArgs false
namespace Go.Proofs.Ytjokcjlpciecoaa.Rx
open Go.Proofs Go.Shelf Go.RowKit Go.Lib

/-- what an insertion leaves -/
def InsPost (e : TypeId) (size : Nat) (w : World) (b : Option Nat) (Z : List Value) (n : Nat) (en : Ending) (w' : World) : Prop :=
  ∃ b' off' cap' cur', en = .returned (.slice (some ⟨b', off', none⟩) n cap') ∧ n ≤ cap' ∧ w'.heap[b']? = some (.cells cur' e (0, 0)) ∧ off' + cap' * size ≤ cur'.size ∧
    (∀ (j : Nat) (v : Value), Z[j]? = some v → cur'[off' + j]? = some v) ∧ Frm w.heap.size (fun x => some x = b) w w' ∧ (b = some b' ∨ w.heap.size ≤ b')

theorem InsPost.new {w w1 : World} {b : Option Nat} {Z pad : List Value} {n cap size : Nat} {e : TypeId} (h1 : w1 = w.drew.alloc (.cells (Z ++ pad).toArray e)) (hn : n ≤ cap) (hs : cap * size ≤ Z.length + pad.length) :
    InsPost e size w b Z n (.returned (.slice (some ⟨w.heap.size, 0, none⟩) n cap)) w1 := by
  subst h1
  refine ⟨w.heap.size, 0, cap, (Z ++ pad).toArray, rfl, hn, (by show (w.heap.push _)[w.heap.size]? = _; simp), by simpa using hs, fun j v hj => ?_, ⟨rfl, rfl, rfl, rfl, (by show w.heap.size ≤ (w.heap.push _).size; simp), fun k hk _ => ?_⟩, .inr (Nat.le_refl _)⟩
  · simp only [Nat.zero_add, List.getElem?_toArray]
    rw [List.getElem?_append_left (List.getElem?_eq_some_iff.1 hj).1]; exact hj
  · show (w.heap.push _)[k]? = _
    simp [Array.getElem?_push, Nat.ne_of_lt hk]

/-- a row of one's own: its cells -/
theorem own_cells {w : World} {S : Nat → Prop} {e : TypeId} {c : CK} {xs : List c.T} {l : List Value} {rows : List Row} (h : OwnT w S (.sl e c) xs l rows) (hpos : 0 < c.size) :
    ∃ a cap X, l = [.slice a xs.length cap] ∧ rows = [(a.map (·.block), .slice a xs.length cap)] ∧ xs.length ≤ cap ∧ (a = none → xs = [] ∧ cap = 0) ∧ X.length = xs.length * c.size ∧ FlatR (RdT w S c) c.size xs X ∧
      ∀ ad, a = some ad → ad.spot = none ∧ ∃ cur, w.heap[ad.block]? = some (.cells cur e (0, 0)) ∧ ad.off + cap * c.size ≤ cur.size ∧ ∀ (j : Nat) (v : Value), X[j]? = some v → cur[ad.off + j]? = some v := by
  obtain ⟨a, n, cap, rfl, rfl, hrd, ho⟩ := h
  obtain rfl := hrd.1
  cases a with
  | none =>
    obtain ⟨h1, h2⟩ := ho
    obtain rfl : xs = [] := List.eq_nil_of_length_eq_zero h1
    exact ⟨none, cap, [], rfl, rfl, hrd.2.1, fun _ => ⟨rfl, h2⟩, by simp, FlatR.nil, fun ad h => by cases h⟩
  | some ad =>
    obtain ⟨cur, hcur, hfit, hsp⟩ := ho
    obtain ⟨X, h1, h2, h3⟩ := hrd.flatR hpos
    refine ⟨some ad, cap, X, rfl, rfl, hrd.2.1, (fun h => nomatch h), h1, h3, fun ad' h => ?_⟩
    cases h
    refine ⟨hsp, cur, hcur, hfit, fun j v hj => ?_⟩
    have := h2 j v hj
    rwa [cell_of_row w ad.block _ cur e (0, 0) hcur] at this

/-- what a turned row gives back -/
theorem ins_back {w w' : World} {S : Nat → Prop} {e : TypeId} {c : CK} {ys : List c.T} {Z : List Value} {b : Option Nat} {n : Nat} {en : Ending} {rows : List Row} (hp : InsPost e c.size w b Z n en w') (hz : FlatR (RdT w S c) c.size ys Z) (hn : n = ys.length)
    (hS : ∀ x, S x → x < w.heap.size) (hb : ∀ x, b = some x → x ∈ Blks rows) (hrows : ∀ x ∈ Blks rows, ¬ S x ∧ x < w.heap.size) {rs : List (CK × Bool)} (hrs : rs = [(.sl e c, true)]) :
    ∃ rv rows', en = .returned rv ∧ Frm w.heap.size (fun x => x ∈ ([] : List Nat) ∨ x ∈ Blks rows) w w' ∧ (∀ x, S x → x < w'.heap.size) ∧ PartsRd w' S [((.sl e c : CK), true)] ys ([[rv]] ++ []) rows' ∧
      (Blks rows').Nodup ∧ ∀ x ∈ Blks rows', ¬ S x ∧ x < w'.heap.size ∧ x ∉ ([] : List Nat) ∧ (x ∈ Blks rows ∨ w.heap.size ≤ x) := by
  obtain ⟨b', off', cap', cur', rfl, hc, hcur, hfit, hcells, hfrm, hwhere⟩ := hp
  have hkeep : ∀ x, S x → w'.heap[x]? = w.heap[x]? := fun x hx => hfrm.block x (hS x hx) fun he => (hrows x (hb x he.symm)).1 hx
  have hlt : b' < w'.heap.size := (Array.getElem?_eq_some_iff.1 hcur).1
  have hnS : ¬ S b' ∧ (b' ∈ Blks rows ∨ w.heap.size ≤ b') := by
    rcases hwhere with h | h
    · exact ⟨(hrows b' (hb b' h)).1, .inl (hb b' h)⟩
    · exact ⟨fun hs => by have := hS b' hs; omega, .inr h⟩
  refine ⟨_, [(some b', .slice (some ⟨b', off', none⟩) n cap')], rfl, ⟨hfrm.os, hfrm.tape, hfrm.output, hfrm.at0, hfrm.size, fun k hk hm => hfrm.block k hk fun he => hm (.inr (hb k he.symm))⟩, fun x hx => Nat.lt_of_lt_of_le (hS x hx) hfrm.size, ?_, by simp [Blks], ?_⟩
  · refine ⟨_, rfl, ?_⟩
    show OwnT w' S (.sl e c) ys _ _
    refine ⟨some ⟨b', off', none⟩, n, cap', rfl, rfl, (hz.mono fun x l => RdT.mono (fun _ h => h) hkeep).row hn hc rfl (fun j v hj => ?_), ⟨cur', hcur, hfit, rfl⟩⟩
    rw [cell_of_row w' b' _ cur' e (0, 0) hcur]
    exact hcells j v hj
  · intro x hx
    simp only [Blks, List.filterMap_cons, List.filterMap_nil, List.mem_singleton] at hx
    subst hx
    exact ⟨hnS.1, hlt, by simp, hnS.2⟩

theorem body_there {P : Program} {g : FuncId} {fn : Func} (h1 : P.funcs[g]? = some fn) (h2 : (fn.name == "runtime.NumGoroutine") = false) (h3 : fn.body.isSome = true) : ∃ fn c, P.funcs[g]? = some fn ∧ (fn.name == "runtime.NumGoroutine") = false ∧ fn.body = some c := by
  obtain ⟨c, hc⟩ := Option.isSome_iff_exists.1 h3
  exact ⟨fn, c, h1, h2, hc⟩

theorem list3 {α : Type} : ∀ {l : List α}, l.length = 3 → ∃ a b c, l = [a, b, c]
  | [a, b, c], _ => ⟨a, b, c, rfl⟩

/-- an append whose run is known, as a step of a region that draws -/
theorem step_append_runI {P : Program} {ops : Array Oper} {o : Oper} {a : Act} {w : World} {K : Act → World → Prop} {Q : Exit → Act → World → Prop} {E : Prop}
    (hg : o.guard = none) (d x : Operand) (dT sT : TypeId) (hop : o.op = Op.call { callee := Callee.builtin Builtin.append, args := #[d, x], argTypes := #[dT, sT] })
    (v u : Value) (hd : a.eval d = v) (hx : a.eval x = u) {v' : Value} {w' : World} (hr : (Builtin.append_ #[dT, sT] o.type #[v, u]).run P w = .ok v' w') (hK : K (a.put o.dst v') w') :
    if Region.wanted o (yielded ops a.tmps) = true then Oper.wp P o a w K Q else E := by
  have hw : Region.wanted o (yielded ops a.tmps) = true := by simp [Region.wanted, hg]
  rw [if_pos hw]
  unfold Oper.wp
  simp [execOp, hop, resolve, invoke, builtin, hd, hx, hr, Result.andThen]
  exact hK

theorem InsPost.same {w : World} {e : TypeId} {size n cap : Nat} {ad : Addr} {cur : Array Value} {X : List Value} (hsp : ad.spot = none) (hn : n ≤ cap) (hcur : w.heap[ad.block]? = some (.cells cur e (0, 0))) (hfit : ad.off + cap * size ≤ cur.size)
    (hX : ∀ (j : Nat) (v : Value), X[j]? = some v → cur[ad.off + j]? = some v) : InsPost e size w (some ad.block) X n (.returned (.slice (some ad) n cap)) w := by
  obtain ⟨b, off, sp⟩ := ad
  simp only at hsp
  subst hsp
  exact ⟨b, off, cap, cur, rfl, hn, hcur, hfit, hX, ⟨rfl, rfl, rfl, rfl, Nat.le_refl _, fun _ _ _ => rfl⟩, .inl rfl⟩

/-- an empty row that comes back as it is -/
theorem nil_back {w : World} {S : Nat → Prop} {e : TypeId} {c : CK} {n cap : Nat} (hn : n = 0) (hc : cap = 0) (hS : ∀ x, S x → x < w.heap.size) (Mod : Nat → Prop) :
    ∃ rv rows', (.returned (.slice none n cap) : Ending) = .returned rv ∧ Frm w.heap.size Mod w w ∧ (∀ x, S x → x < w.heap.size) ∧ PartsRd w S [((.sl e c : CK), true)] ([] : List c.T) ([[rv]] ++ []) rows' ∧
      (Blks rows').Nodup ∧ ∀ x ∈ Blks rows', ¬ S x ∧ x < w.heap.size ∧ x ∉ ([] : List Nat) ∧ (False ∨ w.heap.size ≤ x) := by
  subst hn; subst hc
  refine ⟨_, [(none, .slice none 0 0)], rfl, ⟨rfl, rfl, rfl, rfl, Nat.le_refl _, fun _ _ _ => rfl⟩, hS, ?_, by simp [Blks], by simp [Blks]⟩
  refine ⟨_, rfl, ?_⟩
  show OwnT w S (.sl e c) ([] : List c.T) _ _
  exact ⟨none, 0, 0, rfl, rfl, ⟨rfl, Nat.le_refl _, rfl⟩, ⟨rfl, rfl⟩⟩

theorem Frm.cell0 {W w' : World} (h : Frm W.heap.size (fun _ => False) W w') {a : Addr} {v : Value} (hv : W.cell? a = some v) : w'.cell? a = some v := by
  have hlt : a.block < W.heap.size := by
    rcases Nat.lt_or_ge a.block W.heap.size with h' | h'
    · exact h'
    · simp [World.cell?, Array.getElem?_eq_none h'] at hv
  rw [World.cell?_of_block (w := W) (a := a) (h.block _ hlt id)]
  exact hv

theorem list2 {α : Type} : ∀ {l : List α}, l.length = 2 → ∃ a b, l = [a, b]
  | [a, b], _ => ⟨a, b, rfl⟩

/-! flat elements: a row's cells are those of its elements -/
section
variable {α : Type} {rd : α → List Value → Prop} {size : Nat} {cv : α → List Value}
theorem FlatR.of_flat (hl : ∀ x, (cv x).length = size) : ∀ {xs : List α}, (∀ x ∈ xs, rd x (cv x)) → FlatR rd size xs (xs.flatMap cv)
  | [], _ => FlatR.nil
  | x :: xs, h => by
    have h1 : FlatR rd size [x] (cv x) := ⟨by simp [hl], fun i y hy => by
      cases i with
      | zero => simp only [List.getElem?_cons_zero, Option.some.injEq] at hy; subst hy; exact ⟨cv x, hl x, h x (by simp), fun j v hj => by simpa using hj⟩
      | succ i => simp at hy⟩
    simpa using h1.append (FlatR.of_flat hl fun y hy => h y (by simp [hy]))

theorem FlatR.flat (hl : ∀ x, (cv x).length = size) (hd : ∀ x l, rd x l → l = cv x) : ∀ {xs : List α} {X : List Value}, FlatR rd size xs X → X = xs.flatMap cv
  | [], X, h => by
    have := h.1
    simp only [List.length_nil, Nat.zero_mul] at this
    simpa using List.eq_nil_of_length_eq_zero this
  | x :: xs, X, h => by
    have h1 := h.drop 1 (by simp)
    simp only [List.drop_one, List.tail_cons, Nat.one_mul] at h1
    obtain ⟨l, e1, e2, e3⟩ := h.2 0 x rfl
    have hXl : X.length = (xs.length + 1) * size := by simpa using h.1
    obtain rfl := hd x l e2
    have e : X.take size = cv x := by
      apply List.ext_getElem?
      intro j
      rw [List.getElem?_take]
      by_cases hj : j < size
      · have hj' : j < (cv x).length := by rw [e1]; exact hj
        have := e3 j _ (List.getElem?_eq_getElem hj')
        rw [if_pos hj, List.getElem?_eq_getElem hj']
        simpa using this
      · rw [if_neg hj, List.getElem?_eq_none (by rw [e1]; omega)]
    rw [← List.take_append_drop size X, e, FlatR.flat hl hd h1]
    simp

theorem flat_len (hl : ∀ x, (cv x).length = size) : ∀ (xs : List α), (xs.flatMap cv).length = xs.length * size
  | [] => by simp
  | x :: xs => by rw [List.flatMap_cons, List.length_append, hl, flat_len hl xs, List.length_cons, Nat.add_mul]; omega

theorem flat_get (hl : ∀ x, (cv x).length = size) {xs : List α} {i j : Nat} {x : α} {v : Value} (hx : xs[i]? = some x) (hj : (cv x)[j]? = some v) : (xs.flatMap cv)[i * size + j]? = some v := by
  obtain ⟨l, e1, e2, e3⟩ := (FlatR.of_flat (rd := fun x l => l = cv x) hl (xs := xs) (fun _ _ => rfl)).2 i x hx
  subst e2
  exact e3 j v hj
end

/-! cells set one by one -/
def setArr (cur : Array Value) : Nat → List Value → Array Value
  | _, [] => cur
  | o, v :: l => setArr (cur.setIfInBounds o v) (o + 1) l

theorem setArr_size : ∀ (l : List Value) (o : Nat) (cur : Array Value), (setArr cur o l).size = cur.size
  | [], _, _ => rfl
  | v :: l, o, cur => by rw [setArr, setArr_size l]; simp

theorem setArr_get : ∀ (l : List Value) (o : Nat) (cur : Array Value) (q : Nat), o + l.length ≤ cur.size → (setArr cur o l)[q]? = if o ≤ q ∧ q < o + l.length then l[q - o]? else cur[q]?
  | [], o, cur, q, _ => by rw [if_neg (by simp only [List.length_nil]; omega)]; rfl
  | v :: l, o, cur, q, h => by
    simp only [List.length_cons] at h ⊢
    rw [setArr, setArr_get l (o + 1) _ q (by simp; omega)]
    by_cases h1 : o + 1 ≤ q ∧ q < o + 1 + l.length
    · rw [if_pos h1, if_pos (by omega), show q - o = q - (o + 1) + 1 by omega, List.getElem?_cons_succ]
    · rw [if_neg h1, Array.getElem?_setIfInBounds]
      by_cases h2 : o = q
      · subst h2
        rw [if_pos rfl, if_pos (by omega), if_pos (by omega), Nat.sub_self]; rfl
      · rw [if_neg h2, if_neg (by omega)]

theorem setCells_row {b : Nat} {e : TypeId} {z : Nat × Nat} : ∀ (l : List Value) (o : Nat) (w : World) (cur : Array Value), w.heap[b]? = some (.cells cur e z) → (w.setCells b o l).heap[b]? = some (.cells (setArr cur o l) e z)
  | [], _, _, _, h => h
  | v :: l, o, w, cur, h => by
    rw [World.setCells, setArr]
    exact setCells_row l (o + 1) _ _ (by simp [World.setCell, Array.getElem?_modify, h])

theorem setCells_frm {b : Nat} : ∀ (l : List Value) (o : Nat) (w : World), Frm w.heap.size (fun x => x = b) w (w.setCells b o l)
  | [], _, w => ⟨rfl, rfl, rfl, rfl, Nat.le_refl _, fun _ _ _ => rfl⟩
  | v :: l, o, w => by
    have h := setCells_frm (b := b) l (o + 1) (w.setCell ⟨b, o, none⟩ v)
    have hs : (w.setCell ⟨b, o, none⟩ v).heap.size = w.heap.size := by simp [World.setCell]
    refine ⟨h.os, h.tape, h.output, rfl, by have := h.size; rw [World.setCells]; omega, fun k hk hm => ?_⟩
    rw [World.setCells, h.block k (by omega) hm]
    simp only [World.setCell, Array.getElem?_modify]
    rw [if_neg (fun e => hm e.symm)]

/-! slices.DeleteFunc: the row as it is at place j, with what was kept so far -/
section
variable {α : Type} {cv : α → List Value} {size : Nat} {e : TypeId}
structure DInv (e : TypeId) (size : Nat) (cv : α → List Value) (w : World) (b off sz : Nat) (xs ks : List α) (j : Nat) (W : World) : Prop where
  frm : Frm w.heap.size (fun x => x = b) w W
  row : ∃ cur', W.heap[b]? = some (.cells cur' e (0, 0)) ∧ cur'.size = sz ∧ (∀ q v, (ks.flatMap cv)[q]? = some v → cur'[off + q]? = some v) ∧ (∀ q v, j * size ≤ q → (xs.flatMap cv)[q]? = some v → cur'[off + q]? = some v)

variable {w W W' : World} {b off sz j : Nat} {xs ks : List α}
theorem DInv.lt (h : DInv e size cv w b off sz xs ks j W) : b < W.heap.size := by
  obtain ⟨cur', h1, _⟩ := h.row
  exact (Array.getElem?_eq_some_iff.1 h1).1

theorem DInv.call (h : DInv e size cv w b off sz xs ks j W) {o : Obj} (hf : Frm (W.alloc o).heap.size (fun _ => False) (W.alloc o) W') : DInv e size cv w b off sz xs ks j W' := by
  have hs : (W.alloc o).heap.size = W.heap.size + 1 := by show (W.heap.push o).size = _; simp
  have hold : ∀ k, k < W.heap.size → W'.heap[k]? = W.heap[k]? := fun k hk => by
    rw [hf.block k (by omega) id]
    show (W.heap.push o)[k]? = _
    rw [Array.getElem?_push, if_neg (by omega)]
  have hsz := h.frm.size
  refine ⟨⟨hf.os.trans h.frm.os, hf.tape.trans h.frm.tape, hf.output.trans h.frm.output, rfl, by have := hf.size; omega, fun k hk hm => (hold k (by omega)).trans (h.frm.block k hk hm)⟩, ?_⟩
  obtain ⟨cur', h1, h2⟩ := h.row
  exact ⟨cur', (hold b h.lt).trans h1, h2⟩

theorem DInv.skip (h : DInv e size cv w b off sz xs ks j W) : DInv e size cv w b off sz xs ks (j + 1) W := by
  obtain ⟨cur', h1, h2, h3, h4⟩ := h.row
  exact ⟨h.frm, cur', h1, h2, h3, fun q v hq => h4 q v (by rw [Nat.add_mul] at hq; omega)⟩

theorem DInv.keep (h : DInv e size cv w b off sz xs ks j W) (hcv : ∀ x, (cv x).length = size) {c : Nat} (x : α) (hij : ks.length < j) (hj : j < c) (hfit : off + c * size ≤ sz) :
    DInv e size cv w b off sz xs (ks ++ [x]) (j + 1) (W.setCells b (off + ks.length * size) (cv x)) := by
  obtain ⟨cur', h1, h2, h3, h4⟩ := h.row
  have m1 : (ks.length + 1) * size ≤ j * size := Nat.mul_le_mul_right _ (by omega)
  have m2 : (j + 1) * size ≤ c * size := Nat.mul_le_mul_right _ (by omega)
  rw [Nat.add_mul] at m1 m2
  have hf := setCells_frm (b := b) (cv x) (off + ks.length * size) W
  have hsz := h.frm.size
  refine ⟨⟨hf.os.trans h.frm.os, hf.tape.trans h.frm.tape, hf.output.trans h.frm.output, rfl, by have := hf.size; omega, fun k hk hm => (hf.block k (by omega) hm).trans (h.frm.block k hk hm)⟩, ?_⟩
  refine ⟨_, setCells_row _ _ _ _ h1, by rw [setArr_size, h2], fun q v hq => ?_, fun q v hq hv => ?_⟩
  · have hkl := flat_len hcv ks
    rw [setArr_get _ _ _ _ (by rw [hcv, h2]; omega), hcv]
    rw [List.flatMap_append, List.flatMap_cons, List.flatMap_nil, List.append_nil] at hq
    by_cases hlt : q < ks.length * size
    · rw [if_neg (by omega)]
      rw [List.getElem?_append_left (by omega)] at hq
      exact h3 q v hq
    · rw [List.getElem?_append_right (by omega), hkl] at hq
      have := (List.getElem?_eq_some_iff.1 hq).1
      rw [hcv] at this
      rw [if_pos (by omega), show off + q - (off + ks.length * size) = q - ks.length * size by omega]; exact hq
  · rw [Nat.add_mul] at hq
    rw [setArr_get _ _ _ _ (by rw [hcv, h2]; omega), hcv, if_neg (by omega)]
    exact h4 q v (by omega) hv

theorem DInv.read (h : DInv e size cv w b off sz xs ks j W) (hcv : ∀ x, (cv x).length = size) {x : α} (hx : xs[j]? = some x) {t : Nat} {v : Value} (ht : (cv x)[t]? = some v) : W.cell? ⟨b, off + j * size + t, none⟩ = some v := by
  obtain ⟨cur', h1, h2, h3, h4⟩ := h.row
  rw [cell_of_row W b _ cur' e (0, 0) h1, Nat.add_assoc]
  exact h4 _ v (by omega) (flat_get hcv hx ht)

/-- what is kept behind place i0 -/
def keptTo (q : α → Bool) (xs : List α) (i0 d : Nat) : List α := xs.take i0 ++ ((xs.drop (i0 + 1)).take d).filter fun x => !q x

theorem keptTo_succ {q : α → Bool} {i0 d : Nat} {x : α} (hx : xs[i0 + 1 + d]? = some x) : keptTo q xs i0 (d + 1) = bif q x then keptTo q xs i0 d else keptTo q xs i0 d ++ [x] := by
  unfold keptTo
  rw [List.take_add_one, List.getElem?_drop, hx, List.filter_append, ← List.append_assoc]
  cases hq : q x <;> simp [hq]

theorem keptTo_len {q : α → Bool} {i0 d : Nat} : (keptTo q xs i0 d).length ≤ i0 + d := by
  unfold keptTo
  rw [List.length_append, List.length_take]
  have := List.length_filter_le (fun x => !q x) ((xs.drop (i0 + 1)).take d)
  rw [List.length_take] at this
  omega
end

/-- a call that gives back one flat value -/
theorem one_out {w : World} {S : Nat → Prop} {c : CK} {own : Bool} {x : c.T} {v : Value} {rows : List Row} (hc : c = .bool ∨ ∃ k, c = .int k) (h : PartsRd w S [(c, own)] x [[v]] rows) : RdT w S c x [v] := by
  obtain ⟨vs, h1, h2⟩ := h
  simp only [List.cons.injEq, and_true] at h1
  subst h1
  unfold PartRd at h2
  cases own with
  | false => exact h2.1
  | true => rcases hc with rfl | ⟨k, rfl⟩ <;> exact h2.1
end Go.Proofs.Ytjokcjlpciecoaa.Rx
