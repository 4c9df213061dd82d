/- A part of the evaluator and its soundness: Law. No condition beside those that each theorem states. -/
import Derived.Test.YtjokcjlpciecoaaRxMkFn
import Derived.ProofKit
import Derived.Deep.Slices
set_option linter.unusedSimpArgs false
set_option linter.unusedVariables false
namespace Go.Proofs.Ytjokcjlpciecoaa.Rx
open Go.ChangeShapes Go.WideShapes Go.ChangeAt Go.RowKit

/-- the kind of a type's cells -/
def kindFs (P : Program) (g : TypeId → Option CK) : List Field → Nat → Option (List CK)
  | [], _ => some []
  | f :: fs, n => match g f.type with
    | some c => if f.offset = n ∧ P.cellsOf f.type = c.size then (kindFs P g fs (n + c.size)).map (c :: ·) else none
    | none => none

def kindT (P : Program) : Nat → TypeId → Option CK
  | 0, _ => none
  | n + 1, t => match P.underlying t with
    | some (.int k) => some (.int k)
    | some .bool => some .bool
    | some .string => some .str
    | some (.slice e) => match kindT P n e with | some c => if P.cellsOf e = c.size ∧ 0 < c.size then some (.sl e c) else none | none => none
    | some (.struct fs) => match kindFs P (kindT P n) fs.toList 0 with
      | some cs => if P.cellsOf t = (CK.pairs cs).size then some (CK.pairs cs) else none
      | none => none
    | _ => none

/-- data that a reading tells: numbers that fit, lengths that fit -/
def WfT : (c : CK) → c.T → Prop
  | .unit, _ => True
  | .any, _ => False
  | .arr _ _, _ => False
  | .int k, (n : Int) => k.min ≤ n ∧ n ≤ k.max
  | .bool, _ => True
  | .str, (s : ByteArray) => s.size ≤ 9223372036854775807
  | .sl _ c, (xs : List c.T) => xs.length ≤ 9223372036854775807 ∧ ∀ x ∈ xs, WfT c x
  | .pair a b, x => WfT a x.1 ∧ WfT b x.2

section
variable {H : Type} {enc : TypeId × Value → H} {P : Program} {w : World} {base : Nat} {spare : Nat → Bool} {held : Bool}

theorem read_fs {g : TypeId → Option CK} {fuel : Nat} {S : Nat → Prop} {cs : List Value}
    (hg : ∀ t c cells y, g t = some c → DataW.trod enc P w base spare held fuel t cells = some y → ∃ x : c.T, RdT w S c x cells ∧ WfT c x) :
    ∀ (fs : List Field) (n : Nat) (ks : List CK), kindFs P g fs n = some ks → cs.length = n + (CK.pairs ks).size →
      (∀ f ∈ fs, ∃ y, DataW.trod enc P w base spare held fuel f.type ((cs.drop f.offset).take (P.cellsOf f.type)) = some y) → ∃ x : (CK.pairs ks).T, RdT w S (CK.pairs ks) x (cs.drop n) ∧ WfT (CK.pairs ks) x
  | [], n, ks, hk, hl, _ => by
    simp only [kindFs, Option.some.injEq] at hk; subst hk
    refine ⟨(), ?_, trivial⟩
    simp only [CK.pairs, CK.size, Nat.add_zero] at hl
    simp only [CK.pairs, RdT]
    exact List.drop_eq_nil_of_le (by omega)
  | f :: fs, n, ks, hk, hl, hf => by
    simp only [kindFs] at hk
    split at hk <;> try cases hk
    rename_i c hc
    split at hk
    case isFalse => cases hk
    rename_i hcc
    obtain ⟨ks', hk', rfl⟩ := Option.map_eq_some_iff.1 hk
    obtain ⟨y, hy⟩ := hf f (by simp)
    rw [hcc.1, hcc.2] at hy
    obtain ⟨x, hx, hw⟩ := hg _ _ _ _ hc hy
    cases ks' with
    | nil =>
      refine ⟨x, ?_, hw⟩
      simp only [CK.pairs] at hl ⊢
      rwa [List.take_of_length_le (by simp; omega)] at hx
    | cons d ks' =>
      obtain ⟨x', hx', hw'⟩ := read_fs (cs := cs) hg fs (n + c.size) (d :: ks') hk' (by simp only [CK.pairs, CK.size] at hl ⊢; omega) (fun f hm => hf f (List.mem_cons_of_mem _ hm))
      refine ⟨(x, x'), ⟨(cs.drop n).take c.size, cs.drop (n + c.size), ?_, hx, hx'⟩, hw, hw'⟩
      rw [← List.drop_drop, List.take_append_drop]

theorem ofFn_of {α : Type} {n : Nat} {p : Nat → α → Prop} (h : ∀ i, i < n → ∃ x, p i x) : ∃ xs : List α, xs.length = n ∧ ∀ i x, xs[i]? = some x → p i x := by
  induction n with
  | zero => exact ⟨[], rfl, by simp⟩
  | succ n ih =>
    obtain ⟨xs, h1, h2⟩ := ih fun i hi => h i (by omega)
    obtain ⟨x, hx⟩ := h n (by omega)
    refine ⟨xs ++ [x], by simp [h1], fun i y hy => ?_⟩
    by_cases hi : i < n
    · rw [List.getElem?_append_left (by omega)] at hy; exact h2 i y hy
    · rw [List.getElem?_append_right (by omega)] at hy
      have : i - xs.length = 0 := by
        have := (List.getElem?_eq_some_iff.1 hy).1; simp at this; omega
      rw [this] at hy
      simp only [List.getElem?_cons_zero, Option.some.injEq] at hy
      subst hy
      rwa [show i = n by omega]

/-- what a reading of an argument tells -/
theorem read_rd : ∀ (n : Nat) (t : TypeId) (c : CK) (fuel : Nat) (cs : List Value) (y : DataW H × List MemPlace), kindT P n t = some c → DataW.trod enc P w base (fun _ => true) held fuel t cs = some y →
    ∃ x : c.T, RdT w (fun b => b < w.heap.size) c x cs ∧ WfT c x
  | 0, _, _, _, _, _, h, _ => by simp [kindT] at h
  | n + 1, t, c, fuel, cs, y, h, hy => by
    simp only [kindT] at h
    split at h
    · rename_i k hu
      simp only [Option.some.injEq] at h; subst h
      obtain ⟨z, rfl, _, hw⟩ := DataW.trod_int hu hy
      simp only [Lit.wf, Bool.and_eq_true, decide_eq_true_eq] at hw
      exact ⟨z, rfl, hw⟩
    · rename_i hu
      simp only [Option.some.injEq] at h; subst h
      obtain ⟨z, rfl, _⟩ := DataW.trod_bool hu hy
      exact ⟨z, rfl, trivial⟩
    · rename_i hu
      simp only [Option.some.injEq] at h; subst h
      obtain ⟨z, rfl, _, hw⟩ := DataW.trod_string hu hy
      exact ⟨z, rfl, hw⟩
    · rename_i e hu
      split at h <;> try cases h
      rename_i ce hce
      split at h
      case isFalse => cases h
      rename_i hcc
      simp only [Option.some.injEq] at h; subst h
      rcases Go.Deep.open_slice hu hy with ⟨rfl, _⟩ | ⟨a, len, cap, m, nn, D, Pl, rfl, hb, hl, hm, hmm, _, hx⟩
      · exact ⟨([] : List ce.T), ⟨none, 0, 0, rfl, rfl, Nat.le_refl _, rfl⟩, Nat.zero_le _, by simp⟩
      · simp only [if_true] at hmm
        subst hmm
        have hspot0 : 0 < m → a.spot = none := fun hm0 => by
          obtain ⟨cs', hcs, _⟩ := hx 0 hm0
          rw [hcc.1] at hcs
          unfold World.cells? at hcs
          split at hcs
          case isFalse => cases hcs
          have hlen := mapM_some_length hcs
          simp only [List.length_range] at hlen
          have h0 := mapM_some_get hcs 0 0 (by simp [hcc.2])
          rw [Nat.zero_mul, show ((a.add 0).add 0) = a by simp [Addr.add], List.getElem?_eq_getElem (by omega)] at h0
          cases hs : a.spot with
          | none => rfl
          | some q =>
            exfalso
            unfold World.cell? at h0
            split at h0
            · rw [if_pos (by simp [hs])] at h0; cases h0
            · cases h0
        have key : ∀ i, i < m → a.spot = none ∧ ∃ x : ce.T, a.block < w.heap.size ∧ (∃ l, l.length = ce.size ∧ RdT w (fun b => b < w.heap.size) ce x l ∧ ∀ j v, l[j]? = some v → w.cell? ⟨a.block, a.off + i * ce.size + j, none⟩ = some v) ∧ WfT ce x := by
          intro i hi
          obtain ⟨cs', hcs, htr⟩ := hx i hi
          rw [hcc.1] at hcs
          unfold World.cells? at hcs
          split at hcs
          case isFalse => cases hcs
          have hlen := mapM_some_length hcs
          have hget := mapM_some_get hcs
          simp only [List.length_range] at hlen
          have hspot : a.spot = none := hspot0 (by omega)
          have had : a = ⟨a.block, a.off, none⟩ := by cases a; simp at hspot; simp [hspot]
          have hcell : ∀ j v, cs'[j]? = some v → w.cell? ⟨a.block, a.off + i * ce.size + j, none⟩ = some v := fun j v hv => by
            have hj := (List.getElem?_eq_some_iff.1 hv).1
            have := hget j j (by rw [List.getElem?_range (by omega)])
            rw [hv, had, addr_add, addr_add] at this
            exact this
          obtain ⟨x, hx1, hx2⟩ := read_rd n e ce nn cs' _ hce htr
          refine ⟨hspot, x, ?_, ⟨cs', hlen, hx1, hcell⟩, hx2⟩
          have := hcell 0 _ (List.getElem?_eq_getElem (by omega))
          unfold World.cell? at this
          rcases Nat.lt_or_ge a.block w.heap.size with h | h
          · exact h
          · rw [Array.getElem?_eq_none h] at this; cases this
        obtain ⟨xs, hx1, hx2⟩ := ofFn_of (n := len) fun i hi => (key i (by omega)).2
        refine ⟨xs, ⟨some a, len, m, rfl, hx1.symm, hl, fun hlt => (key 0 hlt).1, fun i x hx => ⟨(hx2 i x hx).1, (hx2 i x hx).2.1⟩⟩, by unfold maxLen at hm; omega, fun x hx => ?_⟩
        obtain ⟨i, hi, rfl⟩ := List.getElem_of_mem hx
        exact (hx2 i _ (List.getElem?_eq_getElem hi)).2.2
    · rename_i fs hu
      split at h <;> try cases h
      rename_i ks hks
      split at h
      case isFalse => cases h
      rename_i hcc
      simp only [Option.some.injEq] at h; subst h
      obtain ⟨xs, nn, rfl, _, hlen, hxl, hf⟩ := DataW.trod_struct hu hy
      have := read_fs (cs := cs) (S := fun b => b < w.heap.size) (fun t c cells y h1 h2 => read_rd n t c nn cells y h1 h2) fs.toList 0 ks hks (by rw [hlen, hcc, Nat.zero_add]) (fun f hm => by
        obtain ⟨i, hi, rfl⟩ := List.getElem_of_mem hm
        have hi' : i < fs.size := by simpa using hi
        refine ⟨xs[i]'(by omega), ?_⟩
        rw [← List.getElem?_eq_getElem (by omega)]
        exact hf i _ (by rw [Array.getElem?_eq_getElem hi', Array.getElem_toList]))
      simpa using this
    · cases h

/-- an argument, as a call is given it -/
theorem arg_rd {n : Nat} {t : TypeId} {c : CK} {v : Value} {d : DataW H} {p : List MemPlace} {agg : Bool} {r : Reach} {b0 : Nat} (hk : kindT P n t = some c) (hagg : isStruct P t = agg) (hval : Value.okWide P w r b0 t v) (h : DataW.Trod enc P w base (fun _ => true) held t v d p) :
    ∃ (l : List Value) (x : c.T), (if agg then v = .agg l.toArray else l = [v]) ∧ RdT w (fun b => b < w.heap.size) c x l ∧ WfT c x := by
  obtain ⟨fuel, h⟩ := h
  obtain ⟨x, h1, h2⟩ := read_rd n t c fuel _ _ hk h
  refine ⟨v.cells.toList, x, ?_, h1, h2⟩
  cases n with
  | zero => simp [kindT] at hk
  | succ n =>
    simp only [kindT] at hk
    unfold isStruct at hagg
    split at hk
    · rename_i k hu; rw [hu] at hagg; subst hagg; obtain ⟨z, rfl⟩ := okWide_int hu hval; rfl
    · rename_i hu; rw [hu] at hagg; subst hagg; obtain ⟨z, rfl⟩ := okWide_bool hu hval; rfl
    · rename_i hu; rw [hu] at hagg; subst hagg; obtain ⟨z, rfl⟩ := okWide_string hu hval; rfl
    · rename_i e hu; rw [hu] at hagg; subst hagg; obtain ⟨a, l, cp, rfl⟩ := okWide_slice hu hval; rfl
    · rename_i fs hu; rw [hu] at hagg; subst hagg; obtain ⟨cs, rfl, _⟩ := okWide_struct hu hval; rfl
    · cases hk
end

theorem GlobOk.none {P : Program} (h : (List.range P.globals.size).all (fun g => !tabOf P g) = true) (w : World) (S : Nat → Prop) : GlobOk P w S := fun g hg => by
  have hlt : g < P.globals.size := by
    rcases Nat.lt_or_ge g P.globals.size with h1 | h1
    · exact h1
    · unfold tabOf at hg; rw [Array.getElem?_eq_none h1] at hg; cases hg
  have := List.all_eq_true.1 h g (List.mem_range.2 hlt)
  rw [hg] at this; cases this

/-- a call of a law's function: true, and nothing that was there has turned -/
theorem law_calls {P : Program} {k : Nat} {g : FuncId} {f : Fn} (hf : FnOk P k g f) (hq : (f.sig.params.all fun | .val _ _ => true | _ => false) = true) {own : Bool} (hres : f.sig.res = [⟨false, .bool, own⟩])
    {w : World} {vs : List Value} {vss : List (List Value)} {x : f.sig.inK.T} {r : f.sig.outK.T} (hsem : f.sem k x = some r) (hargs : ArgsAt w f.sig.params vs vss) (hparts : PartsRd w (fun b => b < w.heap.size) f.sig.ins x vss [])
    (hr : ∀ w S' v rows', PartsRd w S' f.sig.outs r [[v]] rows' → v = .bool true) (hgl : GlobOk P w (fun b => b < w.heap.size)) :
    Calls P g vs.toArray w fun e w' => e = .returned (.bool true) ∧ Below w.heap.size w w' := by
  have hno : ∀ (ps : List PK) (vs : List Value), (ps.all fun | .val _ _ => true | _ => false) = true → boxBlks ps vs = [] ∧ rwBlks ps vs = [] := by
    intro ps
    induction ps with
    | nil => intro vs _; exact ⟨by cases vs <;> rfl, by cases vs <;> rfl⟩
    | cons p ps ih =>
      intro vs h
      simp only [List.all_cons, Bool.and_eq_true] at h
      cases p with
      | box => simp at h
      | lent => simp at h
      | give => simp at h
      | clo => simp at h
      | val agg c => cases vs with
        | nil => exact ⟨rfl, rfl⟩
        | cons v vs => simpa [boxBlks, rwBlks] using ih vs h.2
  have hno2 : ∀ (ps : List PK) (vs : List Value) (w : World) (vo : List (List Value)), (ps.all fun | .val _ _ => true | _ => false) = true → OutsAt w ps vs vo → vo = [] := by
    intro ps
    induction ps with
    | nil => intro vs w vo _ h; cases vs with
      | nil => exact h
      | cons => exact h.elim
    | cons p ps ih =>
      intro vs w vo h ho
      simp only [List.all_cons, Bool.and_eq_true] at h
      cases p with
      | box => simp at h
      | lent => simp at h
      | give => simp at h
      | clo => simp at h
      | val agg c => cases vs with
        | nil => exact ho.elim
        | cons v vs => exact ih vs w vo h.2 ho
  obtain ⟨e1, e2⟩ := hno f.sig.params vs hq
  refine (hf.run w _ vs vss [] x r hsem hargs hparts (fun b h => h) (by rw [e2]; exact List.nodup_nil) (by rw [e2]; simp) (by rw [e1]; simp) List.nodup_nil (by simp [Blks]) hgl).mono ?_
  rintro e w' ⟨rv, S', vr, vo, rows', rfl, hfrm, _, _, _, hp, hra, ho, _⟩
  obtain rfl := hno2 _ _ _ _ hq ho
  rw [hres] at hra
  match vr, hra with
  | [l], hra =>
    have h1 := hra.1
    simp only [Bool.false_eq_true, if_false] at h1
    subst h1
    have := hr w' S' rv rows' (by simpa using hp)
    subst this
    exact ⟨rfl, hfrm.os, hfrm.tape, hfrm.output, hfrm.size, fun b hb => hfrm.block b hb (by rw [e2]; simp [Blks])⟩
  | [], hra => exact hra.elim
  | _ :: _ :: _, hra => exact hra.2.elim
end Go.Proofs.Ytjokcjlpciecoaa.Rx
