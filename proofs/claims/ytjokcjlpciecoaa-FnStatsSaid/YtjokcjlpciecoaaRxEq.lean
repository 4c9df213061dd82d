/- A part of the evaluator and its soundness: Eq. No condition beside those that each theorem states. -/
import Derived.Test.YtjokcjlpciecoaaRxEff4
set_option linter.unusedSimpArgs false
set_option linter.unusedVariables false
namespace Go.Proofs.Ytjokcjlpciecoaa.Rx

section
variable {E : Env} {base : Nat} {Mod : Nat → Prop} {w0 : Org} {m : Emb} {st : St} {a : Act} {w : World} {key : Nat} {o : Oper} {R : Type}

theorem eqCells_append : ∀ {l1 l2 m1 m2 : List AC} {r : Bool}, l1.length = m1.length → eqCells (l1 ++ l2) (m1 ++ m2) = some r → ∃ r1 r2, eqCells l1 m1 = some r1 ∧ eqCells l2 m2 = some r2 ∧ r = (r1 && r2)
  | [], l2, [], m2, r, _, h => ⟨true, r, rfl, h, by simp⟩
  | x :: l1, l2, y :: m1, m2, r, hl, h => by
    simp only [List.cons_append] at h
    have hl' : l1.length = m1.length := by simpa using hl
    cases x <;> cases y <;> simp only [eqCells] at h <;> try (cases h; done)
    · split at h
      · rename_i hk; subst hk
        obtain ⟨r', h1, h2⟩ := Option.map_eq_some_iff.1 h
        obtain ⟨r1, r2, e1, e2, rfl⟩ := eqCells_append hl' h1
        exact ⟨_, r2, (by simp only [eqCells, if_true, e1, Option.map_some]; rfl), e2, by rw [← h2, Bool.and_assoc]⟩
      · cases h
    · obtain ⟨r', h1, h2⟩ := Option.map_eq_some_iff.1 h
      obtain ⟨r1, r2, e1, e2, rfl⟩ := eqCells_append hl' h1
      exact ⟨_, r2, (by simp only [eqCells, e1, Option.map_some]; rfl), e2, by rw [← h2, Bool.and_assoc]⟩
    · obtain ⟨r', h1, h2⟩ := Option.map_eq_some_iff.1 h
      obtain ⟨r1, r2, e1, e2, rfl⟩ := eqCells_append hl' h1
      exact ⟨_, r2, (by simp only [eqCells, e1, Option.map_some]; rfl), e2, by rw [← h2, Bool.and_assoc]⟩
  | [], _, _ :: _, _, _, hl, _ => by simp at hl
  | _ :: _, _, [], _, _, hl, _ => by simp at hl

/-- a value of so many cells -/
def valOf (t : Bool) (vs : List Value) : Option Value := if t then some (.agg vs.toArray) else match vs with | [v] => some v | _ => none

theorem eqFs_spec {P : Program} {g : TypeId → Option (List CK)} {d : Nat}
    (hg : ∀ t ks (l l' : List AC) (vs vs' : List Value) (r : Bool) (v v' : Value) (w : World), g t = some ks → l.map kindOf = ks.map some → l'.map kindOf = ks.map some → All2 (RelAC m st w) l vs → All2 (RelAC m st w) l' vs' →
      eqCells l l' = some r → valOf (isStruct P t) vs = some v → valOf (isStruct P t) vs' = some v' → (Op.equalIn d t v v').run P w = .ok r w)
    (hs : ∀ t ks, g t = some ks → (∃ d, P.underlying t = some d) ∧ (isStruct P t = false → ks.length = 1) ∧ (match P.underlying t with | some (.array _ _) => False | _ => True)) :
    ∀ (fs : List Field) (n : Nat) (ks : List CK) (l l' : List AC) (pre pre' vs vs' : List Value) (r : Bool) (w : World), eqFs P g fs n = some ks → pre.length = n → pre'.length = n →
      l.map kindOf = ks.map some → l'.map kindOf = ks.map some → All2 (RelAC m st w) l vs → All2 (RelAC m st w) l' vs' → eqCells l l' = some r →
      (Op.eqFields d (pre ++ vs).toArray (pre' ++ vs').toArray fs).run P w = .ok r w
  | [], n, ks, l, l', pre, pre', vs, vs', r, w, h, _, _, hk, hk', hr, hr', he => by
    simp only [eqFs, Option.some.injEq] at h; subst h
    simp only [List.map_nil, List.map_eq_nil_iff] at hk hk'
    subst hk; subst hk'
    simp only [eqCells, Option.some.injEq] at he; subst he
    simp [Op.eqFields]
  | f :: fs, n, ks, l, l', pre, pre', vs, vs', r, w, h, hp, hp', hk, hk', hr, hr', he => by
    simp only [eqFs] at h
    split at h
    case isFalse => cases h
    rename_i hf
    cases hgf : g f.type with
    | none => simp [hgf] at h
    | some k1 =>
      simp only [hgf] at h
      split at h
      case isFalse => cases h
      rename_i hcs
      obtain ⟨k2, hk2, rfl⟩ := Option.map_eq_some_iff.1 h
      rw [List.map_append] at hk hk'
      obtain ⟨l1, l2, rfl, hl1, hl2⟩ := List.map_eq_append_iff.1 hk
      obtain ⟨l1', l2', rfl, hl1', hl2'⟩ := List.map_eq_append_iff.1 hk'
      obtain ⟨v1, v2, rfl, hv1, hv2⟩ := All2.split hr
      obtain ⟨v1', v2', rfl, hv1', hv2'⟩ := All2.split hr'
      have len1 : l1.length = k1.length := by have := congrArg List.length hl1; simpa using this
      have len1' : l1'.length = k1.length := by have := congrArg List.length hl1'; simpa using this
      obtain ⟨r1, r2, e1, e2, rfl⟩ := eqCells_append (by omega) he
      have lv1 : v1.length = k1.length := by rw [← hv1.length, len1]
      have lv1' : v1'.length = k1.length := by rw [← hv1'.length, len1']
      obtain ⟨⟨td, htd⟩, hone, harr⟩ := hs f.type k1 hgf
      have hsz : (sizeOf f.type).run P w = .ok k1.length w := by
        unfold Program.underlying at htd
        cases hi : P.info? f.type with
        | none => simp [hi] at htd
        | some i => rw [run_sizeOf hi]; unfold Program.cellsOf at hcs; simp [hi] at hcs; rw [hcs]
      have hagg : (isAgg f.type).run P w = .ok (isStruct P f.type) w := by
        rw [run_isAgg w htd]
        have : isAggD td = isStruct P f.type := by
          unfold isStruct
          rw [htd] at harr ⊢
          cases td <;> first | rfl | exact harr.elim
        rw [this]
      have hpart : ∀ (p v1 v2 : List Value), p.length = n → v1.length = k1.length → ∃ v, valOf (isStruct P f.type) v1 = some v ∧ (part f.type (p ++ (v1 ++ v2)).toArray f.offset).run P w = .ok v w := by
        intro p v1 v2 hpn hv
        simp only [part, Sem.run_bind, hagg, Result.andThen_ok]
        cases hst : isStruct P f.type with
        | true =>
          refine ⟨.agg v1.toArray, by simp [valOf], ?_⟩
          simp only [if_true, Sem.run_bind, hsz, Result.andThen_ok, Sem.run_pure]
          have hex : (p ++ (v1 ++ v2)).toArray.extract p.length (p.length + k1.length) = v1.toArray := by
            apply Array.toList_inj.1
            simp [List.extract_eq_take_drop]
            rw [List.take_append_of_le_length (by omega), ← hv, List.take_length]
          rw [hf.2, ← hpn, hex]
        | false =>
          have h1 := hone hst
          match v1, hv with
          | [v], hv =>
            refine ⟨v, by simp [valOf], ?_⟩
            have : (p ++ ([v] ++ v2)).toArray[f.offset]? = some v := by
              rw [hf.2, ← hpn]; simp
            simp only [Bool.false_eq_true, if_false, this, Sem.run_pure]
          | [], hv => simp at hv; omega
          | _ :: _ :: _, hv => simp at hv; omega
      obtain ⟨x, hx1, hx2⟩ := hpart pre v1 v2 hp lv1
      obtain ⟨y, hy1, hy2⟩ := hpart pre' v1' v2' hp' lv1'
      have hrun := hg f.type k1 l1 l1' v1 v1' r1 x y w hgf hl1 hl1' hv1 hv1' e1 hx1 hy1
      have ih := eqFs_spec hg hs fs (n + k1.length) k2 l2 l2' (pre ++ v1) (pre' ++ v1') v2 v2' r2 w hk2 (by simp [hp, lv1]) (by simp [hp', lv1']) hl2 hl2' hv2 hv2' e2
      simp only [List.append_assoc] at ih
      simp only [Op.eqFields, Sem.run_ite, if_pos hf.1, Sem.run_bind, hx2, hy2, hrun, Result.andThen_ok]
      cases r1 with
      | true => simpa using ih
      | false => simp

theorem eqK_facts {P : Program} : ∀ {d : Nat} {t : TypeId} {ks : List CK}, eqK P d t = some ks → (∃ d, P.underlying t = some d) ∧ (isStruct P t = false → ks.length = 1) ∧ (match P.underlying t with | some (.array _ _) => False | _ => True)
  | 0, _, _, h => by simp [eqK] at h
  | d + 1, t, ks, h => by
    simp only [eqK] at h
    unfold isStruct
    split at h
    · rename_i k hu; simp only [Option.some.injEq] at h; subst h; rw [hu]; exact ⟨⟨_, rfl⟩, fun _ => rfl, trivial⟩
    · rename_i hu; simp only [Option.some.injEq] at h; subst h; rw [hu]; exact ⟨⟨_, rfl⟩, fun _ => rfl, trivial⟩
    · rename_i hu; simp only [Option.some.injEq] at h; subst h; rw [hu]; exact ⟨⟨_, rfl⟩, fun _ => rfl, trivial⟩
    · rename_i fs hu; rw [hu]; exact ⟨⟨_, rfl⟩, fun h => by simp at h, trivial⟩
    · cases h

theorem equal_run {P : Program} : ∀ (d e : Nat) (t : TypeId) (ks : List CK) (l l' : List AC) (vs vs' : List Value) (r : Bool) (v v' : Value) (w : World), d ≤ e → eqK P d t = some ks → l.map kindOf = ks.map some → l'.map kindOf = ks.map some →
    All2 (RelAC m st w) l vs → All2 (RelAC m st w) l' vs' → eqCells l l' = some r → valOf (isStruct P t) vs = some v → valOf (isStruct P t) vs' = some v' → (Op.equalIn e t v v').run P w = .ok r w
  | 0, _, _, _, _, _, _, _, _, _, _, _, _, h, _, _, _, _, _, _, _ => by simp [eqK] at h
  | d + 1, e, t, ks, l, l', vs, vs', r, v, v', w, hde, h, hk, hk', hr, hr', he, hv, hv' => by
    obtain ⟨e, rfl⟩ : ∃ e', e = e' + 1 := ⟨e - 1, by omega⟩
    simp only [eqK] at h
    have one : ∀ {k : CK} {l : List AC}, l.map kindOf = [k].map some → ∃ x, l = [x] ∧ kindOf x = some k := by
      intro k l hl
      match l, hl with
      | [x], hl => exact ⟨x, rfl, by simpa using hl⟩
      | [], hl => simp at hl
      | _ :: _ :: _, hl => simp at hl
    split at h
    · rename_i k hu
      simp only [Option.some.injEq] at h; subst h
      obtain ⟨x, rfl, hx⟩ := one hk
      obtain ⟨y, rfl, hy⟩ := one hk'
      have hs : isStruct P t = false := by unfold isStruct; rw [hu]
      rw [hs] at hv hv'
      cases x <;> simp [kindOf] at hx
      cases y <;> simp [kindOf] at hy
      subst hx; subst hy
      match vs, vs', hr, hr' with
      | [u], [u'], hr, hr' =>
        simp only [valOf, Bool.false_eq_true, if_false, Option.some.injEq] at hv hv'
        subst hv; subst hv'
        have h1 : u = .int _ _ := hr.1
        have h2 : u' = .int _ _ := hr'.1
        subst h1; subst h2
        simp only [eqCells, if_true, Option.map_some, Bool.and_true, Option.some.injEq] at he
        rw [run_equalIn_int w e t _ _ _ _ hu, ← he]
        congr 1
      | [], _, hr, _ => exact hr.elim
      | _ :: _ :: _, _, hr, _ => exact hr.2.elim
      | [_], [], _, hr' => exact hr'.elim
      | [_], _ :: _ :: _, _, hr' => exact hr'.2.elim
    · rename_i hu
      simp only [Option.some.injEq] at h; subst h
      obtain ⟨x, rfl, hx⟩ := one hk
      obtain ⟨y, rfl, hy⟩ := one hk'
      have hs : isStruct P t = false := by unfold isStruct; rw [hu]
      rw [hs] at hv hv'
      cases x <;> simp [kindOf] at hx
      cases y <;> simp [kindOf] at hy
      match vs, vs', hr, hr' with
      | [u], [u'], hr, hr' =>
        simp only [valOf, Bool.false_eq_true, if_false, Option.some.injEq] at hv hv'
        subst hv; subst hv'
        have h1 : u = .bool _ := hr.1
        have h2 : u' = .bool _ := hr'.1
        subst h1; subst h2
        simp only [eqCells, if_true, Option.map_some, Bool.and_true, Option.some.injEq] at he
        rw [run_equalIn_bool w e t _ _ hu, ← he]
        congr 1
      | [], _, hr, _ => exact hr.elim
      | _ :: _ :: _, _, hr, _ => exact hr.2.elim
      | [_], [], _, hr' => exact hr'.elim
      | [_], _ :: _ :: _, _, hr' => exact hr'.2.elim
    · rename_i hu
      simp only [Option.some.injEq] at h; subst h
      obtain ⟨x, rfl, hx⟩ := one hk
      obtain ⟨y, rfl, hy⟩ := one hk'
      have hs : isStruct P t = false := by unfold isStruct; rw [hu]
      rw [hs] at hv hv'
      cases x <;> simp [kindOf] at hx
      cases y <;> simp [kindOf] at hy
      match vs, vs', hr, hr' with
      | [u], [u'], hr, hr' =>
        simp only [valOf, Bool.false_eq_true, if_false, Option.some.injEq] at hv hv'
        subst hv; subst hv'
        have h1 : u = .string _ := hr.1
        have h2 : u' = .string _ := hr'.1
        subst h1; subst h2
        simp only [eqCells, if_true, Option.map_some, Bool.and_true, Option.some.injEq] at he
        rw [run_equalIn_string w e t _ _ hu, ← he, toList_inj]
      | [], _, hr, _ => exact hr.elim
      | _ :: _ :: _, _, hr, _ => exact hr.2.elim
      | [_], [], _, hr' => exact hr'.elim
      | [_], _ :: _ :: _, _, hr' => exact hr'.2.elim
    · rename_i fs hu
      split at h
      · cases h
      rename_i hst
      have hs : isStruct P t = true := by unfold isStruct; rw [hu]
      rw [hs] at hv hv'
      simp only [valOf, if_true, Option.some.injEq] at hv hv'
      subst hv; subst hv'
      have hf : P.fieldsOf t = fs := by unfold Program.fieldsOf; rw [hu]
      rw [run_equalIn_struct w e t vs.toArray vs'.toArray (by rw [hf]; exact hu) (by simpa using hst), hf]
      have := eqFs_spec (P := P) (g := eqK P d) (d := e) (m := m) (st := st) (fun t ks l l' vs vs' r v v' w h1 h2 h3 h4 h5 h6 h7 h8 => equal_run d e t ks l l' vs vs' r v v' w (by omega) h1 h2 h3 h4 h5 h6 h7 h8) (fun t ks h => eqK_facts h) fs.toList 0 ks l l' [] [] vs vs' r w h rfl rfl hk hk' hr hr' he
      simpa using this
    · cases h

theorem quiet_binA {op : BinOp} {l l' : List AC} {t t' : TypeId} {X Y : Operand} {K : AV → Option R} {r : R} (ho : o.op = .binOp op t X Y t') (h : Rel E.F base Mod w0 m st a w)
    (hX : opnd st X = .agg l) (hY : opnd st Y = .agg l') (h1 : eqOk E t l = true) (h2 : eqOk E t l' = true)
    (hK : (match (generalizing := false) op, eqCells l l' with
      | .eql, some r => K (.one (.bool r)) | .neq, some r => K (.one (.bool (!r))) | _, _ => none) = some r) :
    Vals E base Mod w0 st o a w fun av => K av = some r := by
  have hx := h.opnd X
  rw [hX] at hx
  obtain ⟨arr, hxv, hxr⟩ := hx
  have hy := h.opnd Y
  rw [hY] at hy
  obtain ⟨arr', hyv, hyr⟩ := hy
  unfold eqOk at h1 h2
  simp only [Bool.and_eq_true, Bool.not_eq_true'] at h1 h2
  obtain ⟨⟨hs, hg⟩, h1⟩ := h1
  obtain ⟨_, h2⟩ := h2
  cases hk : eqK E.P 12 t with
  | none => simp [hk] at h1
  | some ks =>
    simp only [hk, decide_eq_true_eq] at h1 h2
    have hrun : ∀ q, eqCells l l' = some q → (Op.equalIn 10000 t (.agg arr) (.agg arr')).run E.P w = .ok q w := fun q hq =>
      equal_run 12 10000 t ks l l' arr.toList arr'.toList q _ _ w (by omega) hk h1 h2 hxr hyr hq (by simp [valOf, hs]) (by simp [valOf, hs])
    cases hq : eqCells l l' with
    | none => rw [hq] at hK; cases op <;> simp at hK
    | some q =>
      rw [hq] at hK
      have hrun := hrun q hq
      cases op <;> simp only at hK <;> try (cases hK; done)
      · exact .now h (v := .bool q) (by simp [execOp, ho, hxv, hyv, run_eqGuard_agg (P := E.P) (hm := hg), run_eql_struct, hrun]) hK rfl
      · exact .now h (v := .bool (!q)) (by simp [execOp, ho, hxv, hyv, run_eqGuard_agg (P := E.P) (hm := hg), run_neq_struct, hrun]) hK rfl
end
end Go.Proofs.Ytjokcjlpciecoaa.Rx
