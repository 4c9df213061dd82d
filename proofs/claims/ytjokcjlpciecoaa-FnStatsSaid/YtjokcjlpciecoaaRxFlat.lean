/- A part of the evaluator and its soundness: Flat. No condition beside those that each theorem states. -/
import Derived.Test.YtjokcjlpciecoaaRxLib
import Derived.Lib.Overlaps
import Derived.Lib.AppendZerosOnto
import Derived.Shelf.Spec.SlicesInsert
set_option linter.unusedVariables false
set_option linter.unusedSimpArgs false
namespace Go.Proofs.Ytjokcjlpciecoaa.Rx

/-! a row's elements as its cells, one behind the other -/
def FlatR {α : Type} (rd : α → List Value → Prop) (size : Nat) (xs : List α) (L : List Value) : Prop :=
  L.length = xs.length * size ∧ ∀ (i : Nat) (x : α), xs[i]? = some x → ∃ l, l.length = size ∧ rd x l ∧ ∀ (j : Nat) (v : Value), l[j]? = some v → L[i * size + j]? = some v

section
variable {α : Type} {rd rd' : α → List Value → Prop} {size : Nat} {xs ys : List α} {X Y : List Value}

theorem FlatR.nil : FlatR rd size [] [] := ⟨by simp, fun i x h => by simp at h⟩

theorem FlatR.append (h1 : FlatR rd size xs X) (h2 : FlatR rd size ys Y) : FlatR rd size (xs ++ ys) (X ++ Y) :=
  ⟨by rw [List.length_append, List.length_append, h1.1, h2.1, Nat.add_mul], fun i x hx => get_append_block rd h1.1 h1.2 h2.2 hx⟩

theorem FlatR.mono (h : FlatR rd size xs X) (hm : ∀ x l, rd x l → rd' x l) : FlatR rd' size xs X :=
  ⟨h.1, fun i x hx => by obtain ⟨l, h1, h2, h3⟩ := h.2 i x hx; exact ⟨l, h1, hm _ _ h2, h3⟩⟩

theorem FlatR.take (h : FlatR rd size xs X) (n : Nat) : FlatR rd size (xs.take n) (X.take (n * size)) := by
  refine ⟨?_, fun i x hx => ?_⟩
  · rw [List.length_take, List.length_take, h.1]
    rcases Nat.le_total n xs.length with hl | hl
    · have := Nat.mul_le_mul_right size hl; rw [Nat.min_eq_left hl, Nat.min_eq_left this]
    · have := Nat.mul_le_mul_right size hl; rw [Nat.min_eq_right hl, Nat.min_eq_right this]
  · rw [List.getElem?_take] at hx
    split at hx
    · rename_i hi
      obtain ⟨l, h1, h2, h3⟩ := h.2 i x hx
      refine ⟨l, h1, h2, fun j v hv => ?_⟩
      have hj : j < size := by rw [← h1]; exact (List.getElem?_eq_some_iff.1 hv).1
      have : (i + 1) * size ≤ n * size := Nat.mul_le_mul_right _ hi
      rw [Nat.add_mul] at this
      rw [List.getElem?_take, if_pos (by omega)]
      exact h3 j v hv
    · cases hx

theorem FlatR.drop (h : FlatR rd size xs X) (n : Nat) (hn : n ≤ xs.length) : FlatR rd size (xs.drop n) (X.drop (n * size)) := by
  refine ⟨?_, fun i x hx => ?_⟩
  · rw [List.length_drop, List.length_drop, h.1, Nat.sub_mul]
  · rw [List.getElem?_drop] at hx
    obtain ⟨l, h1, h2, h3⟩ := h.2 _ x hx
    refine ⟨l, h1, h2, fun j v hv => ?_⟩
    rw [List.getElem?_drop]
    have := h3 j v hv
    rw [Nat.add_mul] at this
    rw [show n * size + (i * size + j) = n * size + i * size + j by omega]; exact this

theorem RdRow.flatR {top : Nat → Prop} {w : World} {ad : Addr} {n cap : Nat} (h : RdRow w top rd size xs (some ad) n cap) (hpos : 0 < size) :
    ∃ L : List Value, L.length = n * size ∧ (∀ (j : Nat) (v : Value), L[j]? = some v → w.cell? ⟨ad.block, ad.off + j, none⟩ = some v) ∧ FlatR rd size xs L := by
  obtain ⟨L, h1, h2, h3⟩ := h.flat hpos
  exact ⟨L, h1, h2, by rw [h1, h.1], h3⟩

theorem FlatR.row (h : FlatR rd size xs X) {top : Nat → Prop} {w : World} {b off n cap : Nat} (hn : n = xs.length) (hc : n ≤ cap) (ht : top b) (hX : ∀ (j : Nat) (v : Value), X[j]? = some v → w.cell? ⟨b, off + j, none⟩ = some v) :
    RdRow w top rd size xs (some ⟨b, off, none⟩) n cap := by
  refine ⟨hn, hc, fun _ => rfl, fun i x hx => ⟨ht, ?_⟩⟩
  obtain ⟨l, h1, h2, h3⟩ := h.2 i x hx
  refine ⟨l, h1, h2, fun j v hv => ?_⟩
  have := hX _ _ (h3 j v hv)
  rw [show off + i * size + j = off + (i * size + j) by omega]; exact this
end

/-- every cell of a row's elements is one cell -/
theorem FlatR.one {w : World} {S : Nat → Prop} {c : CK} {xs : List c.T} {X : List Value} (h : FlatR (RdT w S c) c.size xs X) (hpos : 0 < c.size) (hw : c.whole = true) : ∀ v ∈ X, v.oneCell' = true := by
  intro v hv
  obtain ⟨j, hj, rfl⟩ := List.getElem_of_mem hv
  rw [h.1] at hj
  have hi : j / c.size < xs.length := Nat.div_lt_of_lt_mul (by rwa [Nat.mul_comm])
  obtain ⟨l, hl, hrd, hcl⟩ := h.2 _ _ (List.getElem?_eq_getElem hi)
  have hr : j % c.size < l.length := by rw [hl]; exact Nat.mod_lt _ hpos
  have := hcl (j % c.size) _ (List.getElem?_eq_getElem hr)
  have e : j / c.size * c.size + j % c.size = j := by
    have := Nat.div_add_mod j c.size
    rw [Nat.mul_comm] at this; exact this
  rw [e, List.getElem?_eq_getElem (by rw [h.1]; omega)] at this
  simp only [Option.some.injEq] at this
  rw [this]
  exact hrd.one hw _ (List.getElem_mem hr)

/-! the runs of copy and clear, for elements of so many cells -/
section
variable {P : Program}
theorem run_copy_k (w : World) (dT sT ty elem : TypeId) (g o dLen dCap : Nat) (a : Addr) (sLen sCap : Nat) (cur : Array Value) (t : TypeId) (cs : List Value) (size : Nat)
    (hu : P.underlying dT = some (.slice elem)) (hs : (P.info? elem).map (·.size) = some size)
    (hg : w.heap[g]? = some (.cells cur t (0, 0))) (m : Nat) (hm : m = Nat.min sLen dLen) (hn : cs.length = m * size)
    (hsrc : ∀ j v, cs[j]? = some v → w.cell? (a.add j) = some v) (hfit : o + cs.length ≤ cur.size) (h1 : ∀ v ∈ cs, v.oneCell' = true) :
    (Builtin.copy_ #[dT, sT] ty #[.slice (some ⟨g, o, none⟩) dLen dCap, .slice (some a) sLen sCap]).run P w =
      .ok (goInt m) (w.setRow g (cur.toList.take o ++ cs ++ cur.toList.drop (o + cs.length)).toArray) := by
  have hl := run_loadCells_list (P := P) w a cs hsrc
  have hst := run_storeCells_at P g o t cs 0 cur w hg (by simpa using hfit) h1
  cases hq : P.info? elem with
  | none => simp [hq] at hs
  | some i =>
    have hi : i.size = size := by simpa [hq] using hs
    simp [Builtin.copy_, run_underlying hu, Builtin.lenOf, Builtin.firstCells, sizeOf, typeInfo, hq, hi, ← hm, ← hn, hl, hst]

theorem run_clear_k (w : World) (t e ty : TypeId) (z : Value) (ht : P.underlying t = some (.slice e)) (hv : ∀ w, (zeroValue e).run P w = .ok z w) (g o n c : Nat) (cur : Array Value) (T : TypeId) (hg : w.heap[g]? = some (.cells cur T (0, 0)))
    (hfit : o + (Builtin.zeroCells z.cells n).toList.length ≤ cur.size) (h1 : ∀ v ∈ (Builtin.zeroCells z.cells n).toList, v.oneCell' = true) (hn : 0 < n) :
    (Builtin.clear_ #[t] ty #[.slice (some ⟨g, o, none⟩) n c]).run P w = .ok (.tuple #[]) (w.setRow g (cur.toList.take o ++ (Builtin.zeroCells z.cells n).toList ++ cur.toList.drop (o + (Builtin.zeroCells z.cells n).toList.length)).toArray) := by
  have hst := run_storeCells_at P g o T (Builtin.zeroCells z.cells n).toList 0 cur w hg (by simpa using hfit) h1
  obtain ⟨m, rfl⟩ : ∃ m, n = m + 1 := ⟨n - 1, by omega⟩
  simp only [Nat.add_zero] at hst
  simp [Builtin.clear_, run_underlying ht, hv, hst]

theorem run_clear_0 (w : World) (t e ty : TypeId) (ht : P.underlying t = some (.slice e)) (a : Option Addr) (c : Nat) : (Builtin.clear_ #[t] ty #[.slice a 0 c]).run P w = .ok (.tuple #[]) w := by
  cases a <;> simp [Builtin.clear_, run_underlying ht]
end
end Go.Proofs.Ytjokcjlpciecoaa.Rx
