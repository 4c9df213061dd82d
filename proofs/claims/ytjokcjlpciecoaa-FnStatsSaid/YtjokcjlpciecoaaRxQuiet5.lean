/- A part of the evaluator and its soundness: Quiet5. No condition beside those that each theorem states. -/
import Derived.Test.YtjokcjlpciecoaaRxPack
set_option linter.unusedSimpArgs false
set_option linter.unusedVariables false
namespace Go.Proofs.Ytjokcjlpciecoaa.Rx

section
variable {E : Env} {base : Nat} {Mod : Nat → Prop} {w0 : Org} {m : Emb} {st : St} {a : Act} {w : World} {key : Nat} {o : Oper} {R : Type} {K : AV → Option R} {r : R}

theorem rowOf_part_size {c : CK} {ps : List (Nat × Operand)} {xs : List c.T} (h : Rel E.F base Mod w0 m st a w) (hp : ∀ p ∈ ps, (opnd st p.2).plain = true)
    (hr : rowOf c (ps.map fun p => (opnd st p.2).cells) = some xs) : ∀ p ∈ ps, (a.eval p.2).cells.size = c.size := by
  intro p hp'
  obtain ⟨x, hx⟩ := rowOf_sizes hr _ (List.mem_map.2 ⟨p, hp', rfl⟩)
  have hc := plain_cells (hp p hp') (h.opnd p.2)
  have key : ∀ {c : CK} {l rest : List AC} {x : c.T}, ofCells c l = some (x, rest) → l.length = c.size + rest.length := by
    intro c
    induction c with
    | unit => intro l rest x h; rw [ofCells_unit h]; simp [CK.size]
    | int k => intro l rest x h; rw [ofCells_int h]; simp [CK.size]; omega
    | bool => intro l rest x h; rw [ofCells_bool h]; simp [CK.size]; omega
    | str => intro l rest x h; rw [ofCells_str h]; simp [CK.size]; omega
    | any => intro l rest x h; obtain ⟨y, rfl⟩ := ofCells_anyc h; simp [CK.size]; omega
    | arr k n => intro l rest x h; obtain ⟨h1, rfl⟩ := ofCells_arr h; have e := List.length_map (as := (x : List Int)) (AC.int k); simp only [List.length_append, CK.size]; omega
    | sl e c _ =>
      intro l rest x h
      cases l with
      | nil => simp [ofCells] at h
      | cons y l =>
        cases y <;> simp only [ofCells] at h <;> try (cases h; done)
        · cases h; simp [CK.size]; omega
        · split at h
          · obtain ⟨_, _, h2⟩ := Option.map_eq_some_iff.1 h
            cases h2; simp [CK.size]; omega
          · cases h
    | pair a b iha ihb =>
      intro l rest x h
      simp only [ofCells] at h
      obtain ⟨⟨x1, r1⟩, h1, h⟩ := Option.bind_eq_some_iff.1 h
      obtain ⟨⟨x2, r2⟩, h2, h⟩ := Option.bind_eq_some_iff.1 h
      cases h
      have i1 := iha h1; have i2 := ihb h2; simp only at i1 i2; simp only [CK.size]; omega
  have h1 := key hx
  have h2 := hc.length
  simp at h1 h2; omega

theorem quiet_buildSlice {t e : TypeId} {n : Nat} {parts : Array (Nat × Operand)} {c : CK} {xs : List c.T} (ho : o.op = .buildSlice t n parts) (h : Rel E.F base Mod w0 m st a w) (hu : st.used key = false)
    (he : elemT E t = some e) (hf : c.flat = true) (hn : n = parts.size) (hsz : sizeT E e = c.size) (hpos : 0 < c.size) (hb : n * c.size ≤ 16777216) (hz : (zeroCells E e).isSome = true)
    (hidx : parts.toList.zipIdx.all (fun p => p.1.1 == p.2) = true) (hp : parts.all (fun p => (opnd st p.2).plain) = true)
    (hr : rowOf c (parts.toList.map fun p => (opnd st p.2).cells) = some xs) (hK : K (.one (.sl (key, 0) true false e c xs .no)) = some r) :
    Vals E base Mod w0 (st.use key) o a w fun av => K av = some r := by
  obtain ⟨z, hz⟩ := Option.isSome_iff_exists.1 hz
  have hp' : ∀ p ∈ parts.toList, (opnd st p.2).plain = true := fun p hp' => Array.all_eq_true_iff_forall_mem.1 hp p (by simpa using hp')
  have hids : ∀ l ∈ parts.toList.map (fun p => (opnd st p.2).cells), AC.ids l = [] := fun l hl => by
    obtain ⟨x, hx⟩ := rowOf_sizes hr l hl
    rw [ofCells_flat_ids hf hx]; rfl
  obtain ⟨hl, hrd⟩ := rowOf_rd (S' := m.S) (fun _ h => h) hr (parts_cells h parts.toList hp') fun l hl id hi => by rw [hids l hl] at hi; simp at hi
  obtain ⟨arr, hrun, hsa, hcell⟩ := run_buildSlice (w := w) (a := a) he hz hn hsz hpos hb hidx (rowOf_part_size h hp' hr)
  have hlen : xs.length = n := by rw [hl]; simp [hn]
  obtain ⟨h1, h2⟩ := alloc_row (key := key) (e := e) (c := c) (xs := xs) (arr := arr) (cap := n) h hu (by omega) (by omega) (fun i x hx => by
    obtain ⟨vs, hv, hrdx⟩ := hrd i x hx
    simp only [List.getElem?_map] at hv
    obtain ⟨p, hp1, hp2⟩ := Option.map_eq_some_iff.1 hv
    exact ⟨vs, hrdx.length, hrdx, fun j v hj => hcell i p hp1 j v (by rw [hp2]; exact hj)⟩)
  rw [hlen] at h1 h2
  exact ⟨_, _, _, _, by simp only [execOp, ho]; simp [hrun], hK, h2, h1⟩

theorem quiet_extract {X : Operand} {i : Nat} {l : List (Bool × List AC)} (ho : o.op = .extract X i) (h : Rel E.F base Mod w0 m st a w) (hX : opnd st X = .tup l)
    (hK : (match l[i]? with
      | some (true, m) => K (.agg m)
      | some (false, [y]) => K (.one y)
      | _ => none) = some r) : Vals E base Mod w0 st o a w fun av => K av = some r := by
  have hx := h.opnd X
  rw [hX] at hx
  obtain ⟨vs, hv, hr⟩ := hx
  split at hK
  · rename_i l' he
    obtain ⟨u, hu, hrel⟩ := hr.get he
    have hu' : vs[i]? = some u := by simpa using hu
    unfold RelC at hrel
    simp only [if_true] at hrel
    exact .now h (v := u) (by simp [execOp, ho, hv, Instr.extract, hu']) hK hrel
  · rename_i y he
    obtain ⟨u, hu, hrel⟩ := hr.get he
    have hu' : vs[i]? = some u := by simpa using hu
    unfold RelC at hrel
    simp only [Bool.false_eq_true, if_false] at hrel
    obtain ⟨x, h1, h2⟩ := hrel
    simp only [List.cons.injEq, and_true] at h1; subst h1
    exact .now h (v := u) (by simp [execOp, ho, hv, Instr.extract, hu']) hK h2
  · cases hK

theorem quiet_len {c : Call} {X : Operand} (ho : o.op = .call c) (hc : c.callee = .builtin .len) (ha : c.args.toList = [X]) {t : TypeId} (ht : c.argTypes.toList = [t]) (h : Rel E.F base Mod w0 m st a w)
    (hK : (match opnd st X with
        | .one (.str s) => if strT E t then K (.one (.int .i64 s.size)) else none
        | .one (.sl _ _ _ _ _ xs _) => if (elemT E t).isSome then K (.one (.int .i64 xs.length)) else none
        | .one .nil => if (elemT E t).isSome then K (.one (.int .i64 0)) else none
        | _ => none) = some r) : Vals E base Mod w0 st o a w fun av => K av = some r := by
  obtain ⟨callee, args, argTypes⟩ := c
  simp only at hc ha ht
  subst hc
  obtain rfl : args = #[X] := by apply Array.toList_inj.1; simpa using ha
  obtain rfl : argTypes = #[t] := by apply Array.toList_inj.1; simpa using ht
  have hx := h.opnd X
  have hrunS : ∀ v n, E.P.underlying t = some .string → a.eval X = .string v → n = v.size → (execOp a.eval o).run E.P w = .ok (.value (.int .i64 (n : Nat))) w := by
    intro v n hu hv hn; subst hn
    simp [execOp, ho, resolve, invoke, builtin, hv, Builtin.len_, run_underlying hu, goInt]
  have hrunL : ∀ e ad n cap, E.P.underlying t = some (.slice e) → a.eval X = .slice ad n cap → (execOp a.eval o).run E.P w = .ok (.value (.int .i64 (n : Nat))) w := by
    intro e ad n cap hu hv
    simp [execOp, ho, resolve, invoke, builtin, hv, Builtin.len_, run_underlying hu, goInt]
  have hstr : strT E t = true → E.P.underlying t = some .string := by
    intro hs; unfold strT at hs; split at hs
    · assumption
    · cases hs
  have hel : (elemT E t).isSome = true → ∃ e, E.P.underlying t = some (.slice e) := fun hs => by
    obtain ⟨e, he⟩ := Option.isSome_iff_exists.1 hs; exact ⟨e, elemT_spec he⟩
  split at hK
  · rename_i s hs; rw [hs] at hx
    split at hK
    · rename_i hst; exact .now h (hrunS s _ (hstr hst) hx rfl) hK rfl
    · cases hK
  · rename_i id own vw e c xs src hs; rw [hs] at hx
    split at hK
    · rename_i hst
      obtain ⟨e', he'⟩ := hel hst
      have hx' : RelAC m st w (.sl id own vw e c xs src) (a.eval X) := hx
      obtain ⟨_, ⟨ad, cap, hv, _⟩, _⟩ := hx'
      exact .now h (hrunL e' ad _ cap he' hv) hK rfl
    · cases hK
  · rename_i hs; rw [hs] at hx
    split at hK
    · rename_i hst
      obtain ⟨e', he'⟩ := hel hst
      exact .now h (hrunL e' none 0 0 he' hx) hK rfl
    · cases hK
  · cases hK

theorem quiet_minmax {c : Call} {X Y : Operand} {b : Bool} (ho : o.op = .call c) (hc : c.callee = .builtin (if b then .max else .min)) (ha : c.args.toList = [X, Y]) (h : Rel E.F base Mod w0 m st a w)
    {k k' : IntKind} {x y : Int} (hX : opnd st X = .one (.int k x)) (hY : opnd st Y = .one (.int k' y))
    (hK : K (.one (.int k (if b then (if y > x then y else x) else (if y < x then y else x)))) = some r) : Vals E base Mod w0 st o a w fun av => K av = some r := by
  obtain ⟨callee, args, argTypes⟩ := c
  simp only at hc ha
  subst hc
  obtain rfl : args = #[X, Y] := by apply Array.toList_inj.1; simpa using ha
  have hx := h.opnd X
  rw [hX] at hx
  have hx' : a.eval X = .int k x := hx
  have hy := h.opnd Y
  rw [hY] at hy
  have hy' : a.eval Y = .int k' y := hy
  refine .now h (v := .int k (if b then (if y > x then y else x) else (if y < x then y else x))) ?_ hK rfl
  cases b
  · simp [execOp, ho, resolve, invoke, builtin, hx', hy', Builtin.min_, Builtin.min2]
  · simp [execOp, ho, resolve, invoke, builtin, hx', hy', Builtin.max_, Builtin.max2]

theorem quiet_convert_int {s d : TypeId} {X : Operand} {k k' kk : IntKind} {n : Int} (ho : o.op = .convert s d X) (h : Rel E.F base Mod w0 m st a w) (hs : E.P.underlying s = some (.int kk)) (hd : E.P.underlying d = some (.int k))
    (hX : opnd st X = .one (.int k' n)) (hK : K (.one (.int k (k.wrap n))) = some r) : Vals E base Mod w0 st o a w fun av => K av = some r := by
  have hx := h.opnd X
  rw [hX] at hx
  have hx' : a.eval X = .int k' n := hx
  exact .now h (v := .int k (k.wrap n)) (by simp [execOp, ho, hx', convert, run_underlying hs, run_underlying hd, Conv.intToInt]) hK rfl

theorem quiet_convert_str {s d : TypeId} {X : Operand} {x : ByteArray} (ho : o.op = .convert s d X) (h : Rel E.F base Mod w0 m st a w) (hs : E.P.underlying s = some .string) (hd : E.P.underlying d = some .string)
    (hX : opnd st X = .one (.str x)) (hK : K (.one (.str x)) = some r) : Vals E base Mod w0 st o a w fun av => K av = some r := by
  have hx := h.opnd X
  rw [hX] at hx
  have hx' : a.eval X = .string x := hx
  exact .now h (v := .string x) (by simp [execOp, ho, hx', convert, run_underlying hs, run_underlying hd]) hK rfl

theorem quiet_convert_bytes {s d e : TypeId} {X : Operand} {id : Id} {own vw : Bool} {e' : TypeId} {c : CK} {xs : List c.T} {src : Loc} {l : List Int} (ho : o.op = .convert s d X) (h : Rel E.F base Mod w0 m st a w)
    (hs : E.P.underlying s = some (.slice e)) (hd : E.P.underlying d = some .string) (he : E.P.underlying e = some (.int .u8)) (hX : opnd st X = .one (.sl id own vw e' c xs src))
    (hdead : (own && st.dead id) = false) (hl : castList c (.int .u8) xs = some l) (hK : K (.one (.str (strOfNums l))) = some r) : Vals E base Mod w0 st o a w fun av => K av = some r := by
  have hx := h.opnd X
  rw [hX] at hx
  have hx' : RelAC m st w (.sl id own vw e' c xs src) (a.eval X) := hx
  obtain ⟨hc, rfl⟩ := castList_spec hl
  subst hc
  obtain ⟨ab, n, cap, hv, hrd⟩ := sl_rd (S' := fun b => m.S b ∨ m.row id = some b) (fun b hb => .inl hb) hx' fun ho => by
    subst ho
    exact ⟨by simpa using hdead, fun b hb => .inr hb⟩
  refine .now h (v := .string (strOfNums xs)) ?_ hK rfl
  cases ab with
  | none =>
    obtain ⟨h1, h2, h3⟩ := hrd
    simp only at h3
    subst h3
    obtain rfl : xs = [] := List.eq_nil_of_length_eq_zero (by omega)
    have hr := run_convert_bytes_nil (P := E.P) w s e hs he n 0 d hd
    simp [execOp, ho, hv, hr]
    rfl
  | some ad =>
    obtain ⟨h1, h2, h3, h4⟩ := hrd
    by_cases hcp : 0 < cap
    case neg =>
      obtain rfl : xs = [] := List.eq_nil_of_length_eq_zero (by omega)
      have hn0 : n = 0 := by omega
      subst hn0
      have hr := run_convert_bytes_string (P := E.P) w s d e (some ad) 0 cap hs he hd
      simp [execOp, ho, hv, hr, Conv.bytesToString, loadCells]
      rfl
    have h3 := h3 hcp
    have had : ad = ⟨ad.block, ad.off, none⟩ := by cases ad; simp at h3; simp [h3]
    rw [had] at hv
    have hr := run_convert_bytes_arg (P := E.P) w s e hs he ad.block ad.off n cap xs h1.symm (fun i hi => by
      obtain ⟨x, hx⟩ : ∃ x, xs[i]? = some x := ⟨_, List.getElem?_eq_getElem (show i < xs.length by omega)⟩
      have hg : List.getD (α := Int) xs i 0 = x := by
        unfold List.getD; exact congrArg (fun o : Option Int => o.getD 0) hx
      rw [hg]
      obtain ⟨_, l, hl1, hl2, hl3⟩ := h4 i _ hx
      simp only [RdT] at hl2; subst hl2
      have := hl3 0 _ rfl
      simpa [CK.size] using this) d hd
    simp [execOp, ho, hv, hr]

theorem quiet_convert_nil {s d e : TypeId} {X : Operand} (ho : o.op = .convert s d X) (h : Rel E.F base Mod w0 m st a w)
    (hs : E.P.underlying s = some (.slice e)) (hd : E.P.underlying d = some .string) (he : E.P.underlying e = some (.int .u8)) (hX : opnd st X = .one .nil)
    (hK : K (.one (.str ⟨#[]⟩)) = some r) : Vals E base Mod w0 st o a w fun av => K av = some r := by
  have hx := h.opnd X
  rw [hX] at hx
  have hx' : a.eval X = .slice none 0 0 := hx
  have hr := run_convert_bytes_nil (P := E.P) w s e hs he 0 0 d hd
  exact .now h (v := .string ⟨#[]⟩) (by simp [execOp, ho, hx', hr]; rfl) hK rfl
end
end Go.Proofs.Ytjokcjlpciecoaa.Rx
