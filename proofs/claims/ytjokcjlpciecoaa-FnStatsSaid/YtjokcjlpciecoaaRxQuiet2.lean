/- A part of the evaluator and its soundness: Quiet2. No condition beside those that each theorem states. -/
import Derived.Test.YtjokcjlpciecoaaRxQuiet
import Derived.Laws.BytesArg
set_option linter.unusedSimpArgs false
set_option linter.unusedVariables false
set_option linter.unusedSimpArgs false
namespace Go.Proofs.Ytjokcjlpciecoaa.Rx

section
variable {E : Env} {base : Nat} {Mod : Nat → Prop} {w0 : Org} {m : Emb} {st : St} {a : Act} {w : World} {key : Nat} {o : Oper} {R : Type} {K : AV → Option R} {r : R}

theorem elemT_spec {t e : TypeId} (h : elemT E t = some e) : E.P.underlying t = some (.slice e) := by
  unfold elemT at h
  split at h
  · rename_i e' he; simp at h; rw [he, h]
  · cases h

theorem sizeT_pos {t : TypeId} {n : Nat} (h : sizeT E t = n) (hn : 0 < n) (w : World) : (sizeOf t).run E.P w = .ok n w := by
  obtain ⟨i, hi, hs⟩ := info_of_cells (P := E.P) (t := t) (by unfold sizeT at h; omega)
  rw [run_sizeOf hi, hs]; exact congrArg (Result.ok · w) h

theorem inb_spec {n : Nat} {i : Int} {j : Nat} (h : inb? n i = some j) : 0 ≤ i ∧ i < n ∧ j = i.toNat ∧ j < n := by
  unfold inb? at h
  split at h
  · rename_i hc; simp at h; omega
  · cases h

theorem RelAC.slV {id : Id} {own vw : Bool} {e : TypeId} {c : CK} {xs : List c.T} {src : Loc} {v : Value} (h : RelAC m st w (.sl id own vw e c xs src) v) : SlV v xs.length := h.2.1

theorem quiet_indexAddr {t e : TypeId} {X I : Operand} {id : Id} {own vw : Bool} {c : CK} {xs : List c.T} {src : Loc} {k : IntKind} {n : Int}
    (ho : o.op = .indexAddr t X I) (h : Rel E.F base Mod w0 m st a w) (he : elemT E t = some e) (hX : opnd st X = .one (.sl id own vw e c xs src)) (hI : opnd st I = .one (.int k n))
    (hsz : sizeT E e = c.size) (hpos : 0 < c.size) (hK : ((inb? xs.length n).bind fun j => K (.ep id e c xs j 0 (cond vw .no src) own)) = some r) :
    Vals E base Mod w0 st o a w fun av => K av = some r := by
  have hx := h.opnd X
  rw [hX] at hx
  have hi := h.opnd I
  rw [hI] at hi
  have hi' : a.eval I = .int k n := hi
  obtain ⟨j, hj, hK⟩ := Option.bind_eq_some_iff.1 hK
  obtain ⟨h0, h1, rfl, h2⟩ := inb_spec hj
  have hx' : RelAC m st w (.sl id own vw e c xs src) (a.eval X) := hx
  obtain ⟨hu, ⟨ab, cap, hv, hle, hsp⟩, hd⟩ := hx'
  cases ab with
  | none => exfalso; simp only at hsp; omega
  | some ad =>
    simp only at hsp
    have hsp := hsp (by omega)
    have had : ad = ⟨ad.block, ad.off, none⟩ := by cases ad; simp at hsp; simp [hsp]
    have hrun : (execOp a.eval o).run E.P w = .ok (.value (.pointer (some ⟨ad.block, ad.off + n.toNat * c.size, none⟩))) w := by
      have := sizeT_pos hsz hpos w
      rw [had] at hv
      simp [execOp, ho, hv, hi', Instr.indexAt, run_underlying (elemT_spec he), asIntOf, h0, h1, this, addr_add]
    refine .now h hrun hK ⟨hu, h2, ad.block, ad.off + n.toNat * c.size, by simp, ?_⟩
    cases own with
    | false =>
      refine .inr ⟨ad, xs.length, cap, rfl, rfl, ?_⟩
      simp only [Bool.false_eq_true, if_false] at hd ⊢
      obtain ⟨a', n', c', he', hrd⟩ := hd
      rw [hv] at he'; simp only [Value.slice.injEq] at he'; obtain ⟨rfl, rfl, rfl⟩ := he'
      exact ⟨_, _, _, rfl, hrd⟩
    | true =>
      simp only [if_true] at hd
      rcases hd with hd | hd
      · exact .inl ⟨rfl, hd⟩
      · refine .inr ⟨ad, xs.length, cap, rfl, rfl, ?_⟩
        simp only [if_true]
        obtain ⟨a', n', c', he', hrd, hb, hex⟩ := hd
        rw [hv] at he' hex; simp only [Value.slice.injEq] at he'; obtain ⟨rfl, rfl, rfl⟩ := he'
        refine ⟨⟨_, _, _, rfl, hrd, hb, fun hf => by cases hf⟩, fun hs => ?_⟩
        cases vw with
        | true => simp at hs
        | false => exact (hex rfl).symm

theorem arrT_spec {t : TypeId} {k : IntKind} {n : Nat} (h : arrT E t = some (k, n)) : ∃ e, E.P.underlying t = some (.array n e) ∧ E.P.underlying e = some (.int k) ∧ sizeT E e = 1 := by
  unfold arrT at h
  split at h
  · rename_i n' e he
    split at h
    · rename_i k' hk
      split at h
      · rename_i hs
        simp only [Option.some.injEq, Prod.mk.injEq] at h
        obtain ⟨rfl, rfl⟩ := h
        exact ⟨e, he, hk, hs⟩
      · cases h
    · cases h
  · cases h

theorem quiet_indexAddr_pi {t : TypeId} {X I : Operand} {b off len : Nat} {k' : IntKind} {k : IntKind} {n : Int}
    (ho : o.op = .indexAddr t X I) (h : Rel E.F base Mod w0 m st a w) (he : arrT E t = some (k', len)) (hX : opnd st X = .one (.ptr b off)) (hI : opnd st I = .one (.int k n))
    (hK : ((inb? len n).bind fun j => K (.pi b off len k' j)) = some r) :
    Vals E base Mod w0 st o a w fun av => K av = some r := by
  have hx := h.opnd X
  rw [hX] at hx
  obtain ⟨hb, hv⟩ := hx
  have hi := h.opnd I
  rw [hI] at hi
  have hi' : a.eval I = .int k n := hi
  obtain ⟨j, hj, hK⟩ := Option.bind_eq_some_iff.1 hK
  obtain ⟨h0, h1, rfl, h2⟩ := inb_spec hj
  obtain ⟨e, hu, _, hs⟩ := arrT_spec he
  have hrun : (execOp a.eval o).run E.P w = .ok (.value (.pointer (some ⟨m.bl b, off + n.toNat, none⟩))) w := by
    have := sizeT_pos hs (by omega) w
    simp [execOp, ho, hv, hi', Instr.indexAt, run_underlying hu, asIntOf, Instr.sureAddr, h0, h1, this, addr_add]
  exact .now h hrun hK ⟨hb, h2, rfl⟩

theorem quiet_indexAddr_tab {t : TypeId} {g : Nat} {I : Operand} {k : IntKind} {n : Int}
    (ho : o.op = .indexAddr t (.global g) I) (h : Rel E.F base Mod w0 m st a w) (he : arrT E t = some (.u32, 64)) (hg : tabOf E.P g = true) (hI : opnd st I = .one (.int k n))
    (hK : ((inb? 64 n).bind fun j => K (.ep (0, 0) 0 (.int .u32) shaTab j 0 .no false)) = some r) :
    Vals E base Mod w0 st o a w fun av => K av = some r := by
  have hi := h.opnd I
  rw [hI] at hi
  have hi' : a.eval I = .int k n := hi
  obtain ⟨j, hj, hK⟩ := Option.bind_eq_some_iff.1 hK
  obtain ⟨h0, h1, rfl, h2⟩ := inb_spec hj
  obtain ⟨e, hu, _, hs⟩ := arrT_spec he
  have hrun : (execOp a.eval o).run E.P w = .ok (.value (.pointer (some ⟨g, 0 + n.toNat * 1 + 0, none⟩))) w := by
    have := sizeT_pos hs (by omega) w
    have h1 : n < 64 := h1
    have h64 : n < ((64 : Nat) : Int) := h1
    have hgl : a.eval (.global g) = .pointer (some ⟨g, 0, none⟩) := rfl
    simp [execOp, ho, hi', hgl, Instr.indexAt, run_underlying hu, asIntOf, Instr.sureAddr, h0, h1, this, addr_add]
  obtain ⟨g1, g2⟩ := h.globOk g hg
  refine .now h hrun hK ⟨fun hf => (by cases hf), h2, g, 0 + n.toNat * 1, rfl, .inr ⟨⟨g, 0, none⟩, 64, 64, rfl, rfl, ?_⟩⟩
  simp only [Bool.false_eq_true, if_false]
  refine ⟨_, _, _, rfl, rfl, Nat.le_refl _, fun _ => rfl, fun i x hx => ⟨g1, [.int .u32 x], rfl, rfl, fun j v hv => ?_⟩⟩
  cases j with
  | zero =>
    simp only [List.getElem?_cons_zero, Option.some.injEq] at hv
    subst hv
    simpa [CK.size] using g2 i x hx
  | succ j => simp at hv

theorem byteAt_spec {s : ByteArray} {j : Nat} (h : j < s.size) : ∃ b, s[j]? = some b ∧ byteAt s j = (b.toNat : Int) := by
  refine ⟨s[j], ?_, by simp [byteAt, h]⟩
  simp [h]

theorem quiet_index {t : TypeId} {X I : Operand} {s : ByteArray} {k : IntKind} {n : Int} (ho : o.op = .index t X I) (h : Rel E.F base Mod w0 m st a w)
    (ht : E.P.underlying t = some .string) (hX : opnd st X = .one (.str s)) (hI : opnd st I = .one (.int k n))
    (hK : ((inb? s.size n).bind fun j => K (.one (.int .u8 (byteAt s j)))) = some r) :
    Vals E base Mod w0 st o a w fun av => K av = some r := by
  have hx := h.opnd X
  rw [hX] at hx
  have hx' : a.eval X = .string s := hx
  have hi := h.opnd I
  rw [hI] at hi
  have hi' : a.eval I = .int k n := hi
  obtain ⟨j, hj, hK⟩ := Option.bind_eq_some_iff.1 hK
  obtain ⟨h0, h1, rfl, h2⟩ := inb_spec hj
  obtain ⟨b, hb, hbe⟩ := byteAt_spec h2
  refine .now h (v := .int .u8 b.toNat) ?_ hK (by show _ = _; rw [hbe])
  have hb' : s[n.toNat] = b := by simpa [h2] using hb
  simp [execOp, ho, hx', hi', Instr.index, run_underlying ht, asIntOf, h0, h2, hb']

theorem quiet_index_arr {t : TypeId} {X I : Operand} {l : List AC} {xs : List Int} {k k' : IntKind} {len : Nat} {n : Int} (ho : o.op = .index t X I) (h : Rel E.F base Mod w0 m st a w)
    (ht : arrT E t = some (k', len)) (hX : opnd st X = .agg l) (hI : opnd st I = .one (.int k n)) (hi : intsOf k' len l = some (xs, []))
    (hK : ((inb? len n).bind fun j => K (.one (.int k' (xs.getD j 0)))) = some r) :
    Vals E base Mod w0 st o a w fun av => K av = some r := by
  have hx := h.opnd X
  rw [hX] at hx
  obtain ⟨arr, hx', hr⟩ := hx
  have hii := h.opnd I
  rw [hI] at hii
  have hi' : a.eval I = .int k n := hii
  obtain ⟨j, hj, hK⟩ := Option.bind_eq_some_iff.1 hK
  obtain ⟨h0, h1, rfl, h2⟩ := inb_spec hj
  obtain ⟨e, hu, he, hs⟩ := arrT_spec ht
  obtain ⟨hlen, hl⟩ := intsOf_spec hi
  rw [List.append_nil] at hl
  rw [hl] at hr
  have ha : arr[n.toNat]? = some (.int k' (xs.getD n.toNat 0)) := by
    rw [← Array.getElem?_toList, ints_rel hr]
    simp [List.getD_eq_getElem?_getD, List.getElem?_eq_getElem (show n.toNat < xs.length by omega)]
  have hagg : isAggT E e = some false := by simp [isAggT, he]
  have hp := run_part (E := E) (t := e) (cs := arr) (off := n.toNat) w hagg
  rw [ha] at hp
  have hz := sizeT_pos hs (by omega) w
  refine .now h (v := .int k' (xs.getD n.toNat 0)) ?_ hK rfl
  simp only [Bool.false_eq_true, if_false] at hp
  simp [execOp, ho, hx', hi', Instr.index, run_underlying hu, asIntOf, h0, h1, hz, hp]

theorem cut_spec {n : Nat} {lo hi : Int} {p : Nat × Nat} (h : cut? n lo hi = some p) : 0 ≤ lo ∧ lo ≤ hi ∧ hi ≤ n ∧ p = (lo.toNat, hi.toNat) ∧ p.1 ≤ p.2 ∧ p.2 ≤ n := by
  unfold cut? at h
  split at h
  · rename_i hc
    simp only [Option.some.injEq] at h
    subst h
    refine ⟨hc.1, hc.2.1, hc.2.2, rfl, ?_, ?_⟩ <;> simp only <;> omega
  · cases h

theorem run_bounds {lo hi : Option Operand} {len cap : Nat} {l h' : Int} {p : Nat × Nat} {isS : Bool} (h : Rel E.F base Mod w0 m st a w) (hl : boundOf st 0 lo = some l) (hh : boundOf st len hi = some h')
    (hc : cut? len l h' = some p) (hcap : len ≤ cap) :
    (Instr.sliceBounds isS len cap (lo.map a.eval) (hi.map a.eval) none).run E.P w = .ok (p.1, p.2, cap) w := by
  obtain ⟨h0, h1, h2, rfl, h3, h4⟩ := cut_spec hc
  have key : ∀ (y : Operand) (d : Int) (z : Int), boundOf st d (some y) = some z → ∃ k, a.eval y = .int k z := by
    intro y d z hz
    have hy := h.opnd y
    simp only [boundOf] at hz
    split at hz
    · rename_i k n he; rw [he] at hy; simp at hz; subst hz; exact ⟨k, hy⟩
    · cases hz
  cases lo with
  | none =>
    simp only [boundOf, Option.some.injEq] at hl; subst hl
    cases hi with
    | none =>
      simp only [boundOf, Option.some.injEq] at hh; subst hh
      simp [Instr.sliceBounds]
    | some y =>
      obtain ⟨k, hk⟩ := key y _ _ hh
      have := run_sliceBound (P := E.P) w k h' cap (if isS then .sliceAcap else .sliceAlen) (by omega) (by omega)
      simp [Instr.sliceBounds, hk, this]
  | some x =>
    obtain ⟨kx, hkx⟩ := key x _ _ hl
    cases hi with
    | none =>
      simp only [boundOf, Option.some.injEq] at hh; subst hh
      have := run_sliceBound (P := E.P) w kx l len .sliceB (by omega) (by omega)
      simp [Instr.sliceBounds, hkx, this]
    | some y =>
      obtain ⟨k, hk⟩ := key y _ _ hh
      have h5 := run_sliceBound (P := E.P) w k h' cap (if isS then .sliceAcap else .sliceAlen) (by omega) (by omega)
      have h6 := run_sliceBound (P := E.P) w kx l h'.toNat .sliceB (by omega) (by omega)
      simp [Instr.sliceBounds, hk, hkx, h5, h6]

theorem quiet_slice_str {t : TypeId} {X : Operand} {lo hi : Option Operand} {s : ByteArray} {l h' : Int} (ho : o.op = .slice t X lo hi none) (h : Rel E.F base Mod w0 m st a w)
    (ht : E.P.underlying t = some .string) (hX : opnd st X = .one (.str s)) (hl : boundOf st 0 lo = some l) (hh : boundOf st s.size hi = some h')
    (hK : ((cut? s.size l h').bind fun p => K (.one (.str (s.extract p.1 p.2)))) = some r) :
    Vals E base Mod w0 st o a w fun av => K av = some r := by
  have hx := h.opnd X
  rw [hX] at hx
  have hx' : a.eval X = .string s := hx
  obtain ⟨p, hp, hK⟩ := Option.bind_eq_some_iff.1 hK
  have hb := run_bounds (isS := false) h hl hh hp (Nat.le_refl _)
  refine .now h (v := .string (s.extract p.1 p.2)) ?_ hK rfl
  simp [execOp, ho, hx', Instr.sliceAt, Instr.slice, run_underlying ht, hb]

theorem take_drop_get {α : Type} {xs : List α} {lo hi i : Nat} {x : α} (h : ((xs.take hi).drop lo)[i]? = some x) : xs[lo + i]? = some x ∧ lo + i < hi := by
  rw [List.getElem?_drop, List.getElem?_take] at h
  split at h
  · exact ⟨h, by assumption⟩
  · cases h

theorem RdRow.sub {α : Type} {top : Nat → Prop} {rd : α → List Value → Prop} {size : Nat} {xs : List α} {ab : Option Addr} {n cap lo hi : Nat}
    (h : RdRow w top rd size xs ab n cap) (h1 : lo ≤ hi) (h2 : hi ≤ n) :
    RdRow w top rd size ((xs.take hi).drop lo) (if cap = lo then ab else ab.map (·.add (lo * size))) (hi - lo) (cap - lo) := by
  obtain ⟨rfl, hle, h3⟩ := h
  refine ⟨by simp; omega, by omega, ?_⟩
  cases ab with
  | none => simp only at h3; subst h3; simp
  | some ad =>
    simp only at h3
    obtain ⟨hs, h3⟩ := h3
    by_cases hc : cap = lo
    · rw [if_pos hc]
      refine ⟨fun hlt => by omega, fun i x hx => ?_⟩
      obtain ⟨hx, hlt⟩ := take_drop_get hx
      omega
    · rw [if_neg hc]
      have hs := hs (by omega)
      have had : ad = ⟨ad.block, ad.off, none⟩ := by cases ad; simp at hs; simp [hs]
      have e1 : (some ad).map (·.add (lo * size)) = some ⟨ad.block, ad.off + lo * size, none⟩ := by
        rw [had]; simp [addr_add]
      rw [e1]
      refine ⟨fun _ => rfl, fun i x hx => ?_⟩
      obtain ⟨hx, hlt⟩ := take_drop_get hx
      obtain ⟨t, l, hl, hr, hcell⟩ := h3 _ x hx
      refine ⟨t, l, hl, hr, fun j v hv => ?_⟩
      have := hcell j v hv
      rw [Nat.add_mul] at this
      simpa [Nat.add_assoc] using this

theorem SlV.sub {n : Nat} {ab : Option Addr} {cap lo hi size : Nat} (hle : n ≤ cap) (h3 : match ab with | none => cap = 0 | some ad => 0 < cap → ad.spot = none) (h1 : lo ≤ hi) (h2 : hi ≤ n) :
    SlV (.slice (if cap = lo then ab else ab.map (·.add (lo * size))) (hi - lo) (cap - lo)) (hi - lo) := by
  refine ⟨_, _, rfl, by omega, ?_⟩
  cases ab with
  | none => simp only at h3; subst h3; simp
  | some ad =>
    simp only at h3
    by_cases hc : cap = lo
    · rw [if_pos hc]; intro hlt; omega
    · rw [if_neg hc]; intro hlt
      have h3 := h3 (by omega)
      have had : ad = ⟨ad.block, ad.off, none⟩ := by cases ad; simp at h3; simp [h3]
      show (ad.add (lo * size)).spot = none
      rw [had, addr_add]

theorem OwnBlk.sub {id : Id} {e : TypeId} {size : Nat} {ab : Option Addr} {n cap lo hi : Nat} (h : OwnBlk m w id e size ab n cap) (h1 : lo ≤ hi) (h2 : hi ≤ n) (hle : n ≤ cap) :
    OwnBlk m w id e size (if cap = lo then ab else ab.map (·.add (lo * size))) (hi - lo) (cap - lo) := by
  cases ab with
  | none => obtain ⟨rfl, rfl⟩ := h; simp only [Option.map_none, ite_self]; exact ⟨by omega, by omega⟩
  | some ad =>
    obtain ⟨hr, cur, hc, hs, hsp⟩ := h
    have had : ad = ⟨ad.block, ad.off, none⟩ := by cases ad; simp at hsp; simp [hsp]
    by_cases hcl : cap = lo
    · rw [if_pos hcl]
      exact ⟨hr, cur, hc, by rw [hcl]; simp; omega, hsp⟩
    · rw [if_neg hcl]
      show OwnBlk m w id e size (some (ad.add (lo * size))) _ _
      rw [had, addr_add]
      refine ⟨hr, cur, hc, ?_, rfl⟩
      have : (cap - lo) * size + lo * size = cap * size := by rw [← Nat.add_mul]; congr 1; omega
      simp only; omega

theorem quiet_slice_sl {t : TypeId} {X : Operand} {lo hi : Option Operand} {id : Id} {own vw : Bool} {e : TypeId} {c : CK} {xs : List c.T} {src : Loc} {l h' : Int} (ho : o.op = .slice t X lo hi none) (h : Rel E.F base Mod w0 m st a w)
    (ht : E.P.underlying t = some (.slice e)) (hX : opnd st X = .one (.sl id own vw e c xs src)) (hl : boundOf st 0 lo = some l) (hh : boundOf st xs.length hi = some h')
    (hsz : sizeT E e = c.size) (hpos : 0 < c.size)
    (hK : ((cut? xs.length l h').bind fun p => K (.one (.sl id own true e c ((xs.take p.2).drop p.1) .no))) = some r) :
    Vals E base Mod w0 st o a w fun av => K av = some r := by
  have hx := h.opnd X
  rw [hX] at hx
  have hx' : RelAC m st w (.sl id own vw e c xs src) (a.eval X) := hx
  obtain ⟨hu, ⟨ab, cap, hv, hle, hsp⟩, hd⟩ := hx'
  obtain ⟨p, hp, hK⟩ := Option.bind_eq_some_iff.1 hK
  have hb := run_bounds (isS := true) h hl hh hp hle
  obtain ⟨_, _, _, _, hp1, hp2⟩ := cut_spec hp
  have hlen : ((xs.take p.2).drop p.1).length = p.2 - p.1 := by simp; omega
  refine .now h (v := .slice (if cap = p.1 then ab else ab.map (·.add (p.1 * c.size))) (p.2 - p.1) (cap - p.1)) ?_ hK ⟨hu, ?_, ?_⟩
  · simp [execOp, ho, hv, Instr.sliceAt, Instr.slice, run_underlying ht, hb, sizeT_pos hsz hpos w]
  · rw [hlen]; exact SlV.sub hle hsp hp1 hp2
  · cases own with
    | false =>
      simp only [Bool.false_eq_true, if_false] at hd ⊢
      obtain ⟨a', n', c', he', hrd⟩ := hd
      rw [hv] at he'; simp only [Value.slice.injEq] at he'; obtain ⟨rfl, rfl, rfl⟩ := he'
      exact ⟨_, _, _, rfl, hrd.sub hp1 hp2⟩
    | true =>
      simp only [if_true] at hd ⊢
      rcases hd with hd | hd
      · exact .inl hd
      · obtain ⟨a', n', c', he', hrd, hbk, _⟩ := hd
        rw [hv] at he'; simp only [Value.slice.injEq] at he'; obtain ⟨rfl, rfl, rfl⟩ := he'
        exact .inr ⟨_, _, _, rfl, hrd.sub hp1 hp2, hbk.sub hp1 hp2 hle, fun hf => by cases hf⟩
end
end Go.Proofs.Ytjokcjlpciecoaa.Rx
