/- A part of the evaluator and its soundness: Card. No condition beside those that each theorem states. -/
import Derived.Test.YtgocmmfhglppjaaGreatDoorRxLaw
import Derived.ChangeVars
import Derived.ChangeReads
import Derived.JoinedOf
set_option linter.unusedSimpArgs false
set_option linter.unusedVariables false
namespace Go.Proofs.YtgocmmfhglppjaaGreatDoor.Rx
open Go.ChangeShapes

/-! a table among the package's variables: what the row's condition says of it -/
theorem int_of_trod {H : Type} {enc : TypeId × Value → H} {P : Program} {w : World} {base : Nat} {sp : Nat → Bool} {held : Bool} {fuel : Nat} {t : TypeId} {k : IntKind} {c : Value} {y : DataW H × List MemPlace}
    (ht : P.underlying t = some (.int k)) (h : DataW.trod enc P w base sp held fuel t [c] = some y) : ∃ n, c = .int k n ∧ y = (.lit (.int k n), []) := by
  cases fuel with
  | zero => simp [DataW.trod] at h
  | succ fuel =>
    cases c <;> simp [DataW.trod, ht] at h
    rename_i k' n
    obtain ⟨⟨rfl, _⟩, rfl⟩ := h
    exact ⟨n, rfl, rfl⟩

theorem mapM_all {α β : Type} {f : α → Option β} : ∀ {l : List α} {ys : List β}, l.mapM f = some ys → All2 (fun a y => f a = some y) l ys
  | [], ys, h => by simp at h; subst h; trivial
  | a :: l, ys, h => by
    simp only [List.mapM_cons, Option.bind_eq_bind, Option.bind_eq_some_iff, Option.pure_def, Option.some.injEq] at h
    obtain ⟨y, h1, ys', h2, rfl⟩ := h
    exact ⟨h1, mapM_all h2⟩

theorem ints_of_trod {H : Type} {enc : TypeId × Value → H} {P : Program} {w : World} {base : Nat} {sp : Nat → Bool} {held : Bool} {fuel : Nat} {t e : TypeId} {n : Nat} {k : IntKind} {cs : List Value} {xs : List Int} {q : List MemPlace}
    (ht : P.underlying t = some (.array n e)) (he : P.underlying e = some (.int k)) (hc : P.cellsOf e = 1) (hct : P.cellsOf t = n)
    (h : DataW.trod enc P w base sp held fuel t cs = some (.agg (xs.map fun x => .lit (.int k x)), q)) : cs = xs.map (Value.int k) := by
  cases fuel with
  | zero => simp [DataW.trod] at h
  | succ fuel =>
    simp only [DataW.trod, ht, hc, hct, Nat.mul_one] at h
    split at h
    · rename_i hl
      obtain ⟨ys, h1, h2⟩ := Option.map_eq_some_iff.1 h
      simp only [Prod.mk.injEq, DataW.agg.injEq] at h2
      have ha := mapM_all h1
      have hyl := ha.length
      simp only [List.length_range] at hyl
      have hxl : xs.length = ys.length := by have := congrArg List.length h2.1; simpa using this.symm
      apply List.ext_getElem?
      intro i
      by_cases hi : i < n
      · obtain ⟨y, hy, hf⟩ := ha.get (List.getElem?_range hi)
        have hci : (cs.drop i).take 1 = [cs[i]'(by omega)] := by
          rw [List.drop_eq_getElem_cons (by omega)]; rfl
        rw [hci] at hf
        obtain ⟨m, hm, hy2⟩ := int_of_trod he hf
        have h3 := congrArg (fun l : List (DataW H) => l[i]?) h2.1
        simp only [List.getElem?_map, hy, Option.map_some, hy2] at h3
        rw [List.getElem?_eq_getElem (show i < xs.length by omega)] at h3
        simp only [Option.map_some, Option.some.injEq, DataW.lit.injEq, Lit.int.injEq, true_and] at h3
        rw [List.getElem?_eq_getElem (show i < cs.length by omega), List.getElem?_map, List.getElem?_eq_getElem (show i < xs.length by omega), hm, h3]; rfl
      · rw [List.getElem?_eq_none (by omega), List.getElem?_eq_none (by simp; omega)]
    · cases h

def tabCells : Array Value := (shaTab.map (Value.int .u32)).toArray

theorem cells_of_laid {P : Program} {W : World} {n : String} {g : Nat} {t e : TypeId} {d : DataW Unit} (hg : P.globalNamed n = some g) (ht : (P.globals[g]?).map (·.type) = some t)
    (hu : P.underlying t = some (.array 64 e)) (he : P.underlying e = some (.int .u32)) (hc : P.cellsOf e = 1) (hct : P.cellsOf t = 64) (hd : d = .agg (shaTab.map fun x => .lit (.int .u32 x)))
    (h : laidMet P [(n, d)] W) : W.var? P n = some tabCells := by
  obtain ⟨ps, ⟨g', t', cs, fuel, p, q, hg', ht', hvar, hr, _, _⟩, _⟩ := h
  obtain rfl := Option.some.inj (hg.symm.trans hg')
  obtain rfl := Option.some.inj (ht.symm.trans ht')
  rw [hvar]
  subst hd
  have := ints_of_trod hu he hc hct hr
  congr 1
  unfold tabCells
  rw [← this]

theorem laidMet_of {P : Program} {W : World} {n : String} {g : Nat} {t : TypeId} {d : DataW Unit} (hg : P.globalNamed n = some g) (ht : (P.globals[g]?).map (·.type) = some t)
    (hh : W.heap[g]? = some (.cells tabCells t (0, 0))) (hr : DataW.trod (fun _ => ()) P W 0 (fun _ => true) false 8 t tabCells.toList = some (d, [])) : laidMet P [(n, d)] W := by
  have hv : W.var? P n = some tabCells := by simp [World.var?, hg, hh]
  refine ⟨_, ⟨g, t, tabCells, 8, [], [], hg, ht, hv, hr, rfl, rfl⟩, ?_, fun b off hm => ?_⟩
  · rw [List.append_nil, List.append_nil]
    unfold MemPlace.row
    refine List.Pairwise.map _ (fun a b (hab : a ≠ b) => ?_) List.nodup_range
    intro e
    simp only [MemPlace.cell.injEq] at e
    omega
  · rw [List.append_nil, List.append_nil] at hm
    obtain ⟨i, _, e⟩ := List.mem_map.1 hm
    simp only [MemPlace.cell.injEq] at e
    obtain ⟨rfl, _⟩ := e
    refine ⟨⟨_, _, hh⟩, fun u v hc => ?_⟩
    simp only [World.cell?, hh] at hc
    have hc' : tabCells[off]? = some (Value.iface u v) := by simpa using hc
    unfold tabCells at hc'
    rw [List.getElem?_toArray, List.getElem?_map] at hc'
    obtain ⟨x, _, hx⟩ := Option.map_eq_some_iff.1 hc'
    cases hx

theorem glob_of_var {P : Program} {W : World} {n : String} {g : Nat} (hg : P.globalNamed n = some g) (hv : W.var? P n = some tabCells) (hone : (List.range P.globals.size).all (fun i => !tabOf P i || i == g) = true) : GlobOk P W (fun b => b < W.heap.size) := by
  intro i hi
  have hlt : i < P.globals.size := by
    rcases Nat.lt_or_ge i P.globals.size with h1 | h1
    · exact h1
    · unfold tabOf at hi; rw [Array.getElem?_eq_none h1] at hi; cases hi
  have := List.all_eq_true.1 hone i (List.mem_range.2 hlt)
  rw [hi] at this
  have hig : i = g := by simpa using this
  subst hig
  have hw := hv
  simp only [World.var?, hg, Option.bind_some] at hw
  refine ⟨?_, fun j x hx => ?_⟩
  · split at hw
    · rename_i h; exact (Array.getElem?_eq_some_iff.1 h).1
    · cases hw
  · rw [World.var?_cell hg hv]
    unfold tabCells
    simp [hx]

theorem var_below {P : Program} {W W' : World} {n : String} {g : Nat} (hg : P.globalNamed n = some g) (hv : W.var? P n = some tabCells) (hb : RowKit.Below W.heap.size W W') : W'.var? P n = some tabCells := by
  simp only [World.var?, hg, Option.bind_some] at hv ⊢
  have hlt : g < W.heap.size := by
    split at hv
    · rename_i h; exact (Array.getElem?_eq_some_iff.1 h).1
    · cases hv
  rw [hb.block g hlt]; exact hv
end Go.Proofs.YtgocmmfhglppjaaGreatDoor.Rx
