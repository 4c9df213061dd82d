/- A part of the evaluator and its soundness. No condition beside those that each theorem states. -/
import Derived.Test.YtbkcbfkehncocaaGreatDoorRxA
set_option linter.unusedVariables false
set_option linter.unusedSimpArgs false
namespace Go.Proofs.YtbkcbfkehncocaaGreatDoor.Rx
section
section
variable {E : Env} {base : Nat} {Mod : Nat → Prop} {w0 : Org} {m : Emb} {st : St} {a : Act} {w : World} {key : Nat} {o : Oper} {R : Type}
theorem Qcq : ∀ {l1 l2 m1 m2 : List AC} {r : Bool}, l1.length = m1.length → Qan (l1 ++ l2) (m1 ++ m2) = some r → ∃ r1 r2, Qan l1 m1 = some r1 ∧ Qan l2 m2 = some r2 ∧ r = (r1 && r2)
 | [], l2, [], m2, r, _, h => ⟨true, r, rfl, h, by simp⟩
 | x :: l1, l2, y :: m1, m2, r, hl, h => by
  simp only [List.cons_append] at h
  have hl' : l1.length = m1.length := by simpa using hl
  cases x <;> cases y <;> simp only [Qan] at h <;> try (cases h; done)
  ·split at h
   ·rename_i hk; subst hk
    obtain ⟨r', h1, h2⟩ := Option.map_eq_some_iff.1 h
    obtain ⟨r1, r2, e1, e2, rfl⟩ := Qcq hl' h1
    exact ⟨_, r2, (by simp only [Qan, if_true, e1, Option.map_some]; rfl), e2, by rw [← h2, Bool.and_assoc]⟩
   ·cases h
  ·obtain ⟨r', h1, h2⟩ := Option.map_eq_some_iff.1 h
   obtain ⟨r1, r2, e1, e2, rfl⟩ := Qcq hl' h1
   exact ⟨_, r2, (by simp only [Qan, e1, Option.map_some]; rfl), e2, by rw [← h2, Bool.and_assoc]⟩
  ·obtain ⟨r', h1, h2⟩ := Option.map_eq_some_iff.1 h
   obtain ⟨r1, r2, e1, e2, rfl⟩ := Qcq hl' h1
   exact ⟨_, r2, (by simp only [Qan, e1, Option.map_some]; rfl), e2, by rw [← h2, Bool.and_assoc]⟩
 | [], _, _ :: _, _, _, hl, _ => by simp at hl
 | _ :: _, _, [], _, _, hl, _ => by simp at hl
def valOf (t : Bool) (vs : List Value) : Option Value := if t then some (.agg vs.toArray) else match vs with | [v] => some v | _ => none
theorem Qkz {P : Program} {g : TypeId → Option (List CK)} {d : Nat}
  (hg : ∀ t ks (l l' : List AC) (vs vs' : List Value) (r : Bool) (v v' : Value) (w : World), g t = some ks → l.map Qdn = ks.map some → l'.map Qdn = ks.map some → All2 (RelAC m st w) l vs → All2 (RelAC m st w) l' vs' →
   Qan l l' = some r → valOf (Qar P t) vs = some v → valOf (Qar P t) vs' = some v' → (Op.equalIn d t v v').run P w = .ok r w)
  (hs : ∀ t ks, g t = some ks → (∃ d, P.underlying t = some d) ∧ (Qar P t = false → ks.length = 1) ∧ (match P.underlying t with | some (.array _ _) => False | _ => True)) :
  ∀ (fs : List Field) (n : Nat) (ks : List CK) (l l' : List AC) (pre pre' vs vs' : List Value) (r : Bool) (w : World), eqFs P g fs n = some ks → pre.length = n → pre'.length = n →
   l.map Qdn = ks.map some → l'.map Qdn = ks.map some → All2 (RelAC m st w) l vs → All2 (RelAC m st w) l' vs' → Qan l l' = some r →
   (Op.eqFields d (pre ++ vs).toArray (pre' ++ vs').toArray fs).run P w = .ok r w
 | [], n, ks, l, l', pre, pre', vs, vs', r, w, h, _, _, hk, hk', hr, hr', he => by
  simp only [eqFs, Zj] at h; subst h
  simp only [List.map_nil, List.map_eq_nil_iff] at hk hk'
  subst hk; subst hk'
  simp only [Qan, Zj] at he; subst he
  simp [Op.eqFields]
 | f :: fs, n, ks, l, l', pre, pre', vs, vs', r, w, h, hp, hp', hk, hk', hr, hr', he => by
  simp only [eqFs] at h
  split at h
  case isFalse => cases h
  rename_i hf
  cases hgf : g f.type with
  | none => simp [hgf] at h
  | some k1 =>
   simp only [hgf] at h
   split at h
   case isFalse => cases h
   rename_i hcs
   obtain ⟨k2, hk2, rfl⟩ := Option.map_eq_some_iff.1 h
   rw [List.map_append] at hk hk'
   obtain ⟨l1, l2, rfl, hl1, hl2⟩ := List.map_eq_append_iff.1 hk
   obtain ⟨l1', l2', rfl, hl1', hl2'⟩ := List.map_eq_append_iff.1 hk'
   obtain ⟨v1, v2, rfl, hv1, hv2⟩ := All2.split hr
   obtain ⟨v1', v2', rfl, hv1', hv2'⟩ := All2.split hr'
   have len1 : l1.length = k1.length := by have := congrArg List.length hl1; simpa using this
   have len1' : l1'.length = k1.length := by have := congrArg List.length hl1'; simpa using this
   obtain ⟨r1, r2, e1, e2, rfl⟩ := Qcq (by omega) he
   have lv1 : v1.length = k1.length := by rw [← hv1.length, len1]
   have lv1' : v1'.length = k1.length := by rw [← hv1'.length, len1']
   obtain ⟨⟨td, htd⟩, hone, harr⟩ := hs f.type k1 hgf
   have hsz : (sizeOf f.type).run P w = .ok k1.length w := by
    unfold Program.underlying at htd
    cases hi : P.info? f.type with
    | none => simp [hi] at htd
    | some i => rw [Qdi hi]; unfold Program.cellsOf at hcs; simp [hi] at hcs; rw [hcs]
   have hagg : (isAgg f.type).run P w = .ok (Qar P f.type) w := by
    rw [Qlp w htd]
    have : Qpv td = Qar P f.type := by
     unfold Qar
     rw [htd] at harr ⊢
     cases td <;> first | rfl | exact harr.elim
    rw [this]
   have hpart : ∀ (p v1 v2 : List Value), p.length = n → v1.length = k1.length → ∃ v, valOf (Qar P f.type) v1 = some v ∧ (part f.type (p ++ (v1 ++ v2)).toArray f.offset).run P w = .ok v w := by
    intro p v1 v2 hpn hv
    simp only [part, Sem.run_bind, hagg, Result.andThen_ok]
    cases hst : Qar P f.type with
    | true =>
     refine ⟨.agg v1.toArray, by simp [valOf], ?_⟩
     simp only [if_true, Sem.run_bind, hsz, Result.andThen_ok, Sem.run_pure]
     have hex : (p ++ (v1 ++ v2)).toArray.extract p.length (p.length + k1.length) = v1.toArray := by
      apply Array.toList_inj.1
      simp [List.extract_eq_take_drop]
      rw [List.take_append_of_le_length (by omega), ← hv, List.take_length]
     rw [hf.2, ← hpn, hex]
    | false =>
     have h1 := hone hst
     match v1, hv with
     | [v], hv =>
      refine ⟨v, by simp [valOf], ?_⟩
      have : (p ++ ([v] ++ v2)).toArray[f.offset]? = some v := by
       rw [hf.2, ← hpn]; simp
      simp only [Bool.false_eq_true, if_false, this, Sem.run_pure]
     | [], hv => simp at hv; omega
     | _ :: _ :: _, hv => simp at hv; omega
   obtain ⟨x, hx1, hx2⟩ := hpart pre v1 v2 hp lv1
   obtain ⟨y, hy1, hy2⟩ := hpart pre' v1' v2' hp' lv1'
   have hrun := hg f.type k1 l1 l1' v1 v1' r1 x y w hgf hl1 hl1' hv1 hv1' e1 hx1 hy1
   have ih := Qkz hg hs fs (n + k1.length) k2 l2 l2' (pre ++ v1) (pre' ++ v1') v2 v2' r2 w hk2 (by simp [hp, lv1]) (by simp [hp', lv1']) hl2 hl2' hv2 hv2' e2
   simp only [List.append_assoc] at ih
   simp only [Op.eqFields, Sem.run_ite, if_pos hf.1, Sem.run_bind, hx2, hy2, hrun, Result.andThen_ok]
   cases r1 with
   | true => simpa using ih
   | false => simp
theorem Qop {P : Program} : ∀ {d : Nat} {t : TypeId} {ks : List CK}, eqK P d t = some ks → (∃ d, P.underlying t = some d) ∧ (Qar P t = false → ks.length = 1) ∧ (match P.underlying t with | some (.array _ _) => False | _ => True)
 | 0, _, _, h => by simp [eqK] at h
 | d + 1, t, ks, h => by
  simp only [eqK] at h
  unfold Qar
  split at h
  ·rename_i k hu; simp only [Zj] at h; subst h; rw [hu]; exact ⟨⟨_, rfl⟩, fun _ => rfl, trivial⟩
  ·rename_i hu; simp only [Zj] at h; subst h; rw [hu]; exact ⟨⟨_, rfl⟩, fun _ => rfl, trivial⟩
  ·rename_i hu; simp only [Zj] at h; subst h; rw [hu]; exact ⟨⟨_, rfl⟩, fun _ => rfl, trivial⟩
  ·rename_i fs hu; rw [hu]; exact ⟨⟨_, rfl⟩, fun h => by simp at h, trivial⟩
  ·cases h
theorem Qla {P : Program} : ∀ (d e : Nat) (t : TypeId) (ks : List CK) (l l' : List AC) (vs vs' : List Value) (r : Bool) (v v' : Value) (w : World), d ≤ e → eqK P d t = some ks → l.map Qdn = ks.map some → l'.map Qdn = ks.map some →
  All2 (RelAC m st w) l vs → All2 (RelAC m st w) l' vs' → Qan l l' = some r → valOf (Qar P t) vs = some v → valOf (Qar P t) vs' = some v' → (Op.equalIn e t v v').run P w = .ok r w
 | 0, _, _, _, _, _, _, _, _, _, _, _, _, h, _, _, _, _, _, _, _ => by simp [eqK] at h
 | d + 1, e, t, ks, l, l', vs, vs', r, v, v', w, hde, h, hk, hk', hr, hr', he, hv, hv' => by
  obtain ⟨e, rfl⟩ : ∃ e', e = e' + 1 := ⟨e - 1, by omega⟩
  simp only [eqK] at h
  have one : ∀ {k : CK} {l : List AC}, l.map Qdn = [k].map some → ∃ x, l = [x] ∧ Qdn x = some k := by
   intro k l hl
   match l, hl with
   | [x], hl => exact ⟨x, rfl, by simpa using hl⟩
   | [], hl => simp at hl
   | _ :: _ :: _, hl => simp at hl
  split at h
  ·rename_i k hu
   simp only [Zj] at h; subst h
   obtain ⟨x, rfl, hx⟩ := one hk
   obtain ⟨y, rfl, hy⟩ := one hk'
   have hs : Qar P t = false := by unfold Qar; rw [hu]
   rw [hs] at hv hv'
   cases x <;> simp [Qdn] at hx
   cases y <;> simp [Qdn] at hy
   subst hx; subst hy
   match vs, vs', hr, hr' with
   | [u], [u'], hr, hr' =>
    simp only [valOf, Bool.false_eq_true, if_false, Zj] at hv hv'
    subst hv; subst hv'
    have h1 : u = .int _ _ := hr.1
    have h2 : u' = .int _ _ := hr'.1
    subst h1; subst h2
    simp only [Qan, if_true, Option.map_some, Bool.and_true, Zj] at he
    rw [run_equalIn_int w e t _ _ _ _ hu, ← he]
    congr 1
   | [], _, hr, _ => exact hr.elim
   | _ :: _ :: _, _, hr, _ => exact hr.2.elim
   | [_], [], _, hr' => exact hr'.elim
   | [_], _ :: _ :: _, _, hr' => exact hr'.2.elim
  ·rename_i hu
   simp only [Zj] at h; subst h
   obtain ⟨x, rfl, hx⟩ := one hk
   obtain ⟨y, rfl, hy⟩ := one hk'
   have hs : Qar P t = false := by unfold Qar; rw [hu]
   rw [hs] at hv hv'
   cases x <;> simp [Qdn] at hx
   cases y <;> simp [Qdn] at hy
   match vs, vs', hr, hr' with
   | [u], [u'], hr, hr' =>
    simp only [valOf, Bool.false_eq_true, if_false, Zj] at hv hv'
    subst hv; subst hv'
    have h1 : u = .bool _ := hr.1
    have h2 : u' = .bool _ := hr'.1
    subst h1; subst h2
    simp only [Qan, if_true, Option.map_some, Bool.and_true, Zj] at he
    rw [run_equalIn_bool w e t _ _ hu, ← he]
    congr 1
   | [], _, hr, _ => exact hr.elim
   | _ :: _ :: _, _, hr, _ => exact hr.2.elim
   | [_], [], _, hr' => exact hr'.elim
   | [_], _ :: _ :: _, _, hr' => exact hr'.2.elim
  ·rename_i hu
   simp only [Zj] at h; subst h
   obtain ⟨x, rfl, hx⟩ := one hk
   obtain ⟨y, rfl, hy⟩ := one hk'
   have hs : Qar P t = false := by unfold Qar; rw [hu]
   rw [hs] at hv hv'
   cases x <;> simp [Qdn] at hx
   cases y <;> simp [Qdn] at hy
   match vs, vs', hr, hr' with
   | [u], [u'], hr, hr' =>
    simp only [valOf, Bool.false_eq_true, if_false, Zj] at hv hv'
    subst hv; subst hv'
    have h1 : u = .string _ := hr.1
    have h2 : u' = .string _ := hr'.1
    subst h1; subst h2
    simp only [Qan, if_true, Option.map_some, Bool.and_true, Zj] at he
    rw [run_equalIn_string w e t _ _ hu, ← he, Qcp]
   | [], _, hr, _ => exact hr.elim
   | _ :: _ :: _, _, hr, _ => exact hr.2.elim
   | [_], [], _, hr' => exact hr'.elim
   | [_], _ :: _ :: _, _, hr' => exact hr'.2.elim
  ·rename_i fs hu
   split at h
   ·cases h
   rename_i hst
   have hs : Qar P t = true := by unfold Qar; rw [hu]
   rw [hs] at hv hv'
   simp only [valOf, if_true, Zj] at hv hv'
   subst hv; subst hv'
   have hf : P.fieldsOf t = fs := by unfold Program.fieldsOf; rw [hu]
   rw [run_equalIn_struct w e t vs.toArray vs'.toArray (by rw [hf]; exact hu) (by simpa using hst), hf]
   have := Qkz (P := P) (g := eqK P d) (d := e) (m := m) (st := st) (fun t ks l l' vs vs' r v v' w h1 h2 h3 h4 h5 h6 h7 h8 => Qla d e t ks l l' vs vs' r v v' w (by omega) h1 h2 h3 h4 h5 h6 h7 h8) (fun t ks h => Qop h) fs.toList 0 ks l l' [] [] vs vs' r w h rfl rfl hk hk' hr hr' he
   simpa using this
  ·cases h
theorem Qnw {op : BinOp} {l l' : List AC} {t t' : TypeId} {X Y : Operand} {K : AV → Option R} {r : R} (ho : o.op = .binOp op t X Y t') (h : Rel E.F base Mod w0 m st a w)
  (hX : opnd st X = .agg l) (hY : opnd st Y = .agg l') (h1 : eqOk E t l = true) (h2 : eqOk E t l' = true)
  (hK : (match (generalizing := false) op, Qan l l' with
   | .eql, some r => K (.one (.bool r)) | .neq, some r => K (.one (.bool (!r))) | _, _ => none) = some r) :
  Vals E base Mod w0 st o a w fun av => K av = some r := by
 have hx := h.opnd X
 rw [hX] at hx
 obtain ⟨arr, hxv, hxr⟩ := hx
 have hy := h.opnd Y
 rw [hY] at hy
 obtain ⟨arr', hyv, hyr⟩ := hy
 unfold eqOk at h1 h2
 simp only [Zd, Bool.not_eq_true'] at h1 h2
 obtain ⟨⟨hs, hg⟩, h1⟩ := h1
 obtain ⟨_, h2⟩ := h2
 cases hk : eqK E.P 12 t with
 | none => simp [hk] at h1
 | some ks =>
  simp only [hk, Zq] at h1 h2
  have hrun : ∀ q, Qan l l' = some q → (Op.equalIn 10000 t (.agg arr) (.agg arr')).run E.P w = .ok q w := fun q hq =>
   Qla 12 10000 t ks l l' arr.toList arr'.toList q _ _ w (by omega) hk h1 h2 hxr hyr hq (by simp [valOf, hs]) (by simp [valOf, hs])
  cases hq : Qan l l' with
  | none => rw [hq] at hK; cases op <;> simp at hK
  | some q =>
   rw [hq] at hK
   have hrun := hrun q hq
   cases op <;> simp only at hK <;> try (cases hK; done)
   ·exact .now h (v := .bool q) (by simp [execOp, ho, hxv, hyv, run_eqGuard_agg (P := E.P) (hm := hg), run_eql_struct, hrun]) hK rfl
   ·exact .now h (v := .bool (!q)) (by simp [execOp, ho, hxv, hyv, run_eqGuard_agg (P := E.P) (hm := hg), run_neq_struct, hrun]) hK rfl
end
end
section
def OwnB (w : World) (e : TypeId) (size : Nat) (a : Option Addr) (n cap : Nat) : Prop :=
 match a with
 | none => n = 0 ∧ cap = 0
 | some ad => ∃ cur, w.heap[ad.block]? = some (.cells cur e (0, 0)) ∧ ad.off + cap * size ≤ cur.size ∧ ad.spot = none
abbrev Row := Option Nat × Value
def OwnT (w : World) (S : Nat → Prop) : (c : CK) → c.T → List Value → List Row → Prop
 | .unit, _, l, rs => l = [] ∧ rs = []
 | .int k, n, l, rs => l = [.int k n] ∧ rs = []
 | .bool, b, l, rs => l = [.bool b] ∧ rs = []
 | .str, s, l, rs => l = [.string s] ∧ rs = []
 | .sl e c, xs, l, rs => ∃ a n cap, l = [.slice a n cap] ∧ rs = [(a.map (·.block), .slice a n cap)] ∧ RdRow w (fun b => a.map (·.block) = some b) (RdT w S c) c.size xs a n cap ∧ OwnB w e c.size a n cap
 | .pair a b, x, l, rs => ∃ l1 l2 r1 r2, l = l1 ++ l2 ∧ rs = r1 ++ r2 ∧ OwnT w S a x.1 l1 r1 ∧ OwnT w S b x.2 l2 r2
 | .any, _, l, rs => (∃ v, l = [v]) ∧ rs = []
 | .arr k n, xs, l, rs => (l = (List.range n).map fun i => Value.int k (xs.getD i 0)) ∧ rs = []
def Blks (rows : List Row) : List Nat := rows.filterMap (·.1)
theorem Qee (a b : List Row) : Blks (a ++ b) = Blks a ++ Blks b := List.filterMap_append
def Qcz (w : World) (S : Nat → Prop) (r : CK × Bool) (x : r.1.T) (vs : List Value) (rows : List Row) : Prop :=
 if r.2 then OwnT w S r.1 x vs rows else RdT w S r.1 x vs ∧ rows = []
def Qaz (w : World) (S : Nat → Prop) : (rs : List (CK × Bool)) → (CK.pairs (rs.map (·.1))).T → List (List Value) → List Row → Prop
 | [], _, vss, rows => vss = [] ∧ rows = []
 | [r], x, vss, rows => ∃ vs, vss = [vs] ∧ Qcz w S r x vs rows
 | r :: q :: l, x, vss, rows => ∃ vs vss' r1 r2, vss = vs :: vss' ∧ rows = r1 ++ r2 ∧ Qcz w S r x.1 vs r1 ∧ Qaz w S (q :: l) x.2 vss' r2
theorem OwnT.mono {w w' : World} {S S' : Nat → Prop} (hS : ∀ b, S b → S' b) (hw : ∀ b, S b → w'.heap[b]? = w.heap[b]?) : ∀ {c : CK} {x : c.T} {l : List Value} {rows : List Row},
  (∀ b ∈ Blks rows, w'.heap[b]? = w.heap[b]?) → OwnT w S c x l rows → OwnT w' S' c x l rows
 | .unit, _, _, _, _, h => h
 | .int _, _, _, _, _, h => h
 | .bool, _, _, _, _, h => h
 | .str, _, _, _, _, h => h
 | .sl e c, xs, _, _, hr, h => by
  obtain ⟨a, n, cap, rfl, rfl, h, ho⟩ := h
  have hb : ∀ b, a.map (·.block) = some b → w'.heap[b]? = w.heap[b]? := fun b hb => hr b (by simp [Blks, hb])
  refine ⟨a, n, cap, rfl, rfl, h.mono (fun _ h => h) hb fun x l => RdT.mono hS hw, ?_⟩
  cases a with
  | none => exact ho
  | some ad => unfold OwnB at ho ⊢; simp only [hb ad.block rfl]; exact ho
 | .pair a b, x, _, _, hr, h => by
  obtain ⟨l1, l2, r1, r2, rfl, rfl, h1, h2⟩ := h
  simp only [Qee, List.mem_append] at hr
  exact ⟨l1, l2, r1, r2, rfl, rfl, OwnT.mono hS hw (fun b hb => hr b (.inl hb)) h1, OwnT.mono hS hw (fun b hb => hr b (.inr hb)) h2⟩
 | .any, _, _, _, _, h => h
 | .arr _ _, _, _, _, _, h => h
theorem Qcz.mono {w w' : World} {S S' : Nat → Prop} (hS : ∀ b, S b → S' b) (hw : ∀ b, S b → w'.heap[b]? = w.heap[b]?) {r : CK × Bool} {x : r.1.T} {l : List Value} {rows : List Row}
  (hr : ∀ b ∈ Blks rows, w'.heap[b]? = w.heap[b]?) (h : Qcz w S r x l rows) : Qcz w' S' r x l rows := by
 unfold Qcz at h ⊢
 split
 ·rename_i ho; rw [if_pos ho] at h; exact h.mono hS hw hr
 ·rename_i ho; rw [if_neg ho] at h; exact ⟨h.1.mono hS hw, h.2⟩
theorem Qaz.mono {w w' : World} {S S' : Nat → Prop} (hS : ∀ b, S b → S' b) (hw : ∀ b, S b → w'.heap[b]? = w.heap[b]?) : ∀ {rs : List (CK × Bool)} {x : (CK.pairs (rs.map (·.1))).T} {l : List (List Value)} {rows : List Row},
  (∀ b ∈ Blks rows, w'.heap[b]? = w.heap[b]?) → Qaz w S rs x l rows → Qaz w' S' rs x l rows
 | [], _, _, _, _, h => h
 | [r], _, _, _, hr, h => by obtain ⟨vs, h1, h2⟩ := h; exact ⟨vs, h1, h2.mono hS hw hr⟩
 | r :: q :: l, x, _, _, hr, h => by
  obtain ⟨vs, vss', r1, r2, rfl, rfl, h1, h2⟩ := h
  simp only [Qee, List.mem_append] at hr
  exact ⟨vs, vss', r1, r2, rfl, rfl, h1.mono hS hw (fun b hb => hr b (.inl hb)), Qaz.mono hS hw (fun b hb => hr b (.inr hb)) h2⟩
section
variable {E : Env} {base : Nat} {Mod : Nat → Prop} {w0 : Org} {m : Emb} {st : St} {a : Act} {w : World} {key : Nat}
theorem Qfo {S' : Nat → Prop} (hS : ∀ b, m.S b → S' b) : ∀ {c : CK} {l rest : List AC} {x : c.T} {vs : List Value}, Qac c l = some (x, rest) → All2 (RelAC m st w) l vs →
  AC.allOwn l = true → (∀ id ∈ AC.ids l, st.dead id = false) →
  ∃ l1 vs1 vs2 rows, l = l1 ++ rest ∧ vs = vs1 ++ vs2 ∧ OwnT w S' c x vs1 rows ∧ All2 (RelAC m st w) rest vs2 ∧ (Blks rows).Sublist ((AC.ids l1).filterMap m.row)
 | .unit, l, rest, x, vs, h, hr, _, _ => by
  obtain rfl := Qdu h
  exact ⟨[], [], vs, [], rfl, rfl, ⟨rfl, rfl⟩, hr, by simp [Blks]⟩
 | .int k, l, rest, x, vs, h, hr, _, _ => by
  obtain rfl := Qei h
  match vs, hr with
  | v :: vs, hr => exact ⟨[_], [v], vs, [], rfl, rfl, ⟨by have h1 : v = .int k x := hr.1; rw [h1], rfl⟩, hr.2, by simp [Blks]⟩
 | .bool, l, rest, x, vs, h, hr, _, _ => by
  obtain rfl := Qdt h
  match vs, hr with
  | v :: vs, hr => exact ⟨[_], [v], vs, [], rfl, rfl, ⟨by have h1 : v = .bool x := hr.1; rw [h1], rfl⟩, hr.2, by simp [Blks]⟩
 | .str, l, rest, x, vs, h, hr, _, _ => by
  obtain rfl := Qej h
  match vs, hr with
  | v :: vs, hr => exact ⟨[_], [v], vs, [], rfl, rfl, ⟨by have h1 : v = .string x := hr.1; rw [h1], rfl⟩, hr.2, by simp [Blks]⟩
 | .sl e c, l, rest, x, vs, h, hr, ho, hd => by
  cases l with
  | nil => simp [Qac] at h
  | cons y l =>
   match vs, hr with
   | v :: vs, hr =>
    cases y with
    | nil =>
     simp only [Qac, Zj, Prod.mk.injEq] at h
     obtain ⟨rfl, rfl⟩ := h
     have h1 : v = .slice none 0 0 := hr.1
     subst h1
     exact ⟨[_], [_], vs, [_], rfl, rfl, ⟨none, 0, 0, rfl, rfl, ⟨rfl, Nat.le_refl _, rfl⟩, ⟨rfl, rfl⟩⟩, hr.2, by simp [Blks]⟩
    | sl id own vw e' c' xs src =>
     simp only [Qac] at h
     split at h
     case isFalse => cases h
     rename_i he
     subst he
     obtain ⟨ys, hc, h2⟩ := Option.map_eq_some_iff.1 h
     obtain ⟨hcc, rfl⟩ := Qcj hc
     subst hcc
     simp only [Prod.mk.injEq] at h2
     obtain ⟨rfl, rfl⟩ := h2
     simp only [AC.allOwn, Zd] at ho
     obtain ⟨rfl, ho⟩ := ho
     obtain ⟨_, _, hh⟩ := hr.1
     have hdd : st.dead id = false := hd id (by simp [AC.ids])
     simp only [hdd, if_true, Bool.false_eq_true, false_or] at hh
     obtain ⟨a, n, cap, rfl, hrd, hb, _⟩ := hh
     refine ⟨[_], [_], vs, [_], rfl, rfl, ⟨a, n, cap, rfl, rfl, ?_, ?_⟩, hr.2, ?_⟩
     ·cases a with
      | none => exact ⟨hrd.1, hrd.2.1, hrd.2.2⟩
      | some ad =>
       refine ⟨hrd.1, hrd.2.1, hrd.2.2.1, fun i x hx => ?_⟩
       obtain ⟨_, l, h1, h2, h3⟩ := hrd.2.2.2 i x hx
       exact ⟨rfl, l, h1, h2.mono hS (fun _ _ => rfl), h3⟩
     ·cases a with
      | none => exact hb
      | some ad => exact hb.2
     ·cases a with
      | none => simp [Blks]
      | some ad => simp [Blks, AC.ids, hb.1]
    | _ => simp [Qac] at h
 | .pair c d, l, rest, x, vs, h, hr, ho, hd => by
  simp only [Qac] at h
  obtain ⟨⟨x1, r1⟩, h1, h⟩ := Option.bind_eq_some_iff.1 h
  obtain ⟨⟨x2, r2⟩, h2, h⟩ := Option.bind_eq_some_iff.1 h
  simp only [Zj, Prod.mk.injEq] at h
  obtain ⟨rfl, rfl⟩ := h
  obtain ⟨l1, v1, v2, rows1, rfl, rfl, a1, a2, a3⟩ := Qfo hS h1 hr ho hd
  have hsplit : ∀ (l l' : List AC), AC.allOwn (l ++ l') = true → AC.allOwn l' = true := by
   intro l l' h
   induction l with
   | nil => exact h
   | cons y l ih => cases y <;> simp [AC.allOwn] at h <;> first | exact ih h | exact ih h.2
  obtain ⟨l2, v3, v4, rows2, rfl, rfl, b1, b2, b3⟩ := Qfo hS h2 a2 (hsplit _ _ ho) (fun id hi => hd id (by rw [AC.ids_append]; simp [hi]))
  exact ⟨l1 ++ l2, v1 ++ v3, v4, rows1 ++ rows2, by simp, by simp, ⟨v1, v3, rows1, rows2, rfl, rfl, a1, b1⟩, b2, by rw [Qee, AC.ids_append, List.filterMap_append]; exact a3.append b3⟩
 | .any, l, rest, x, vs, h, hr, _, _ => by
  obtain ⟨y, rfl⟩ := Qew h
  match vs, hr with
  | v :: vs, hr => exact ⟨[_], [v], vs, [], rfl, rfl, ⟨⟨v, rfl⟩, rfl⟩, hr.2, by simp [Blks]⟩
 | .arr k n, l, rest, x, vs, h, hr, _, _ => by
  obtain ⟨l1, v1, v2, h1, h5, h2, h3, h4⟩ := Qfh h hr
  exact ⟨l1, v1, v2, [], h1, h2, ⟨h3 w S', rfl⟩, h4, by simp [Blks]⟩
theorem Qlk {S' : Nat → Prop} (hS : ∀ b, m.S b → S' b) {r : CK × Bool} {l : List AC} {x : r.1.T} {vs : List Value} (h : Qac r.1 l = some (x, [])) (hr : All2 (RelAC m st w) l vs)
  (hf : st.fresh l = true) (ho : (!r.2 || AC.allOwn l) = true) (hro : ∀ id ∈ (if r.2 then [] else AC.ids l), ∀ b, m.row id = some b → S' b) :
  ∃ rows, Qcz w S' r x vs rows ∧ (Blks rows).Sublist ((if r.2 then AC.ids l else []).filterMap m.row) := by
 have hd := Qdh hf
 unfold Qcz
 cases hown : r.2 with
 | true =>
  simp only [hown, Zx, Bool.false_or] at ho
  obtain ⟨l1, vs1, vs2, rows, h1, h2, h3, h4, h5⟩ := Qfo hS h hr ho hd
  simp only [List.append_nil] at h1; subst h1
  match vs2, h4 with
  | [], _ => simp only [List.append_nil] at h2; subst h2; exact ⟨rows, by simpa using h3, by simpa using h5⟩
  | _ :: _, h4 => exact h4.elim
 | false =>
  simp only [hown, Bool.false_eq_true, if_false] at hro
  exact ⟨[], by simpa using Qdx hS h hr (fun id hi => ⟨hd id hi, hro id hi⟩), by simp [Blks]⟩
theorem Qjo {S' : Nat → Prop} (hS : ∀ b, m.S b → S' b) : ∀ {rs : List (CK × Bool)} {ls : List (List AC)} {x : (CK.pairs (rs.map (·.1))).T} {vss : List (List Value)}, Qcb rs ls = some x →
  All2 (All2 (RelAC m st w)) ls vss → ls.all st.fresh = true → Qgk rs ls = true → (∀ id ∈ roIds rs ls, ∀ b, m.row id = some b → S' b) →
  ∃ rows, Qaz w S' rs x vss rows ∧ (Blks rows).Sublist ((Qao rs ls).filterMap m.row)
 | [], [], x, vss, h, hr, _, _, _ => by
  match vss, hr with
  | [], _ => exact ⟨[], ⟨rfl, rfl⟩, by simp [Blks]⟩
  | _ :: _, hr => exact hr.elim
 | [r], [l], x, vss, h, hr, hf, ho, hro => by
  match vss, hr with
  | [vs], hr =>
   simp only [Qcb] at h
   split at h <;> try cases h
   rename_i h1
   simp only [List.all_cons, List.all_nil, Bool.and_true, Qgk, roIds, List.append_nil] at hf ho hro
   obtain ⟨rows, h2, h3⟩ := Qlk hS h1 hr.1 hf ho hro
   exact ⟨rows, ⟨vs, rfl, h2⟩, by simpa [Qao] using h3⟩
  | [], hr => exact hr.elim
  | _ :: _ :: _, hr => exact hr.2.elim
 | r :: q :: rs, l :: ls, x, vss, h, hr, hf, ho, hro => by
  match vss, hr with
  | vs :: vss, hr =>
   simp only [Qcb] at h
   split at h <;> try cases h
   rename_i x1 y1 h1 h2
   simp only [List.all_cons, Zd] at hf
   rw [Qgk, Zd] at ho
   rw [roIds] at hro
   obtain ⟨rows1, h3, h4⟩ := Qlk hS h1 hr.1 hf.1 ho.1 fun id hi => hro id (List.mem_append_left _ hi)
   obtain ⟨rows2, h5, h6⟩ := Qjo hS h2 hr.2 hf.2 ho.2 fun id hi => hro id (List.mem_append_right _ hi)
   refine ⟨rows1 ++ rows2, ⟨vs, vss, rows1, rows2, rfl, rfl, h3, h5⟩, ?_⟩
   rw [Qee, Qao, List.filterMap_append]
   exact h4.append h6
  | [], hr => exact hr.elim
 | [], _ :: _, _, _, h, _, _, _, _ => by simp [Qcb] at h
 | [_], [], _, _, h, _, _, _, _ => by simp [Qcb] at h
 | [_], _ :: _ :: _, _, _, h, _, _, _, _ => by simp [Qcb] at h
 | _ :: _ :: _, [], _, _, h, _, _, _, _ => by simp [Qcb] at h
def Emb.withRows (m : Emb) (key : Nat) (rows : List Row) : Emb :=
 { m with row := fun id => if id.1 = key then (rows[id.2]?).bind (·.1) else m.row id, val := fun id => if id.1 = key then ((rows[id.2]?).map (·.2)).getD undef else m.val id }
theorem Qmk (hu : st.used key = true) : ∀ {c : CK} {x : c.T} {vs : List Value} {rows : List Row} (n : Nat), OwnT w m.S c x vs rows →
  (∀ j p, rows[j]? = some p → m.row (key, n + j) = p.1 ∧ m.val (key, n + j) = p.2) →
  All2 (RelAC m st w) (Qdd c x (key, n)).1 vs ∧ (Qdd c x (key, n)).2 = (key, n + rows.length)
 | .unit, _, _, _, n, h, _ => by obtain ⟨rfl, rfl⟩ := h; exact ⟨trivial, rfl⟩
 | .int _, _, _, _, n, h, _ => by obtain ⟨rfl, rfl⟩ := h; exact ⟨⟨rfl, trivial⟩, rfl⟩
 | .bool, _, _, _, n, h, _ => by obtain ⟨rfl, rfl⟩ := h; exact ⟨⟨rfl, trivial⟩, rfl⟩
 | .str, _, _, _, n, h, _ => by obtain ⟨rfl, rfl⟩ := h; exact ⟨⟨rfl, trivial⟩, rfl⟩
 | .sl e c, xs, _, _, n, h, hr => by
  obtain ⟨a, k, cap, rfl, rfl, hrd, hb⟩ := h
  obtain ⟨h1, h2⟩ := hr 0 _ rfl
  refine ⟨⟨⟨fun _ => hu, ?_, .inr ?_⟩, trivial⟩, rfl⟩
  ·refine ⟨a, cap, by rw [hrd.1], hrd.1 ▸ hrd.2.1, ?_⟩
   cases a with
   | none => exact hrd.2.2
   | some ad => exact hrd.2.2.1
  ·refine ⟨a, k, cap, rfl, ?_, ?_, fun _ => h2.symm⟩
   ·cases a with
    | none => exact hrd
    | some ad => exact ⟨hrd.1, hrd.2.1, hrd.2.2.1, fun i x hx => by
      obtain ⟨h3, h4⟩ := hrd.2.2.2 i x hx
      exact ⟨by simpa using h1, h4⟩⟩
   ·cases a with
    | none => exact hb
    | some ad => exact ⟨by simpa using h1, hb⟩
 | .pair a b, x, _, _, n, h, hr => by
  obtain ⟨l1, l2, r1, r2, rfl, rfl, h1, h2⟩ := h
  obtain ⟨p1, p2⟩ := Qmk hu n h1 fun j p hj => hr j p (by
   rw [List.getElem?_append_left]; exact hj
   exact (List.getElem?_eq_some_iff.1 hj).1)
  obtain ⟨q1, q2⟩ := Qmk hu (n + r1.length) h2 fun j p hj => by
   have := hr (r1.length + j) p (by rw [List.getElem?_append_right (by omega)]; simpa using hj)
   rwa [← Nat.add_assoc] at this
  simp only [Qdd]
  rw [p2, q2]
  exact ⟨All2.append p1 q1, by simp; omega⟩
 | .any, _, _, _, n, h, _ => by obtain ⟨⟨v, rfl⟩, rfl⟩ := h; exact ⟨⟨trivial, trivial⟩, rfl⟩
 | .arr k l, xs, _, _, n, h, _ => by obtain ⟨rfl, rfl⟩ := h; exact ⟨Qmw k l xs, rfl⟩
theorem Qnk (hu : st.used key = true) {r : CK × Bool} {x : r.1.T} {vs : List Value} {rows : List Row} (n : Nat) (h : Qcz w m.S r x vs rows)
  (hr : ∀ j p, rows[j]? = some p → m.row (key, n + j) = p.1 ∧ m.val (key, n + j) = p.2) :
  All2 (RelAC m st w) (Qjg r.2 r.1 x (key, n)).1 vs ∧ (Qjg r.2 r.1 x (key, n)).2 = (key, n + rows.length) := by
 unfold Qcz at h
 unfold Qjg
 cases hown : r.2 with
 | true => simp only [hown, if_true] at h ⊢; exact Qmk hu n h hr
 | false =>
  simp only [hown, Bool.false_eq_true, if_false] at h ⊢
  obtain ⟨h1, rfl⟩ := h
  exact ⟨Qco rfl h1, rfl⟩
theorem Qeb (hu : st.used key = true) : ∀ {rs : List (CK × Bool)} {x : (CK.pairs (rs.map (·.1))).T} {vss : List (List Value)} {rows : List Row} (n : Nat), Qaz w m.S rs x vss rows →
  (∀ j p, rows[j]? = some p → m.row (key, n + j) = p.1 ∧ m.val (key, n + j) = p.2) → All2 (All2 (RelAC m st w)) (Qat rs x (key, n)) vss
 | [], _, _, _, n, h, _ => by obtain ⟨rfl, _⟩ := h; trivial
 | [r], x, _, _, n, h, hr => by
  obtain ⟨vs, rfl, h⟩ := h
  exact ⟨(Qnk hu n h hr).1, trivial⟩
 | r :: q :: l, x, _, _, n, h, hr => by
  obtain ⟨vs, vss, r1, r2, rfl, rfl, h1, h2⟩ := h
  obtain ⟨p1, p2⟩ := Qnk hu n h1 fun j p hj => hr j p (by
   rw [List.getElem?_append_left]; exact hj
   exact (List.getElem?_eq_some_iff.1 hj).1)
  refine ⟨p1, ?_⟩
  rw [p2]
  exact Qeb hu (n + r1.length) h2 fun j p hj => by
   have := hr (r1.length + j) p (by rw [List.getElem?_append_right (by omega)]; simpa using hj)
   rwa [← Nat.add_assoc] at this
end
end
section
def Qcc (w : World) : List PK → List Value → List (List Value) → Prop
 | [], [], [] => True
 | .val agg _ :: ps, v :: vs, l :: ls => (if agg then v = .agg l.toArray else l = [v]) ∧ Qcc w ps vs ls
 | .lent agg _ :: ps, v :: vs, l :: ls => (if agg then v = .agg l.toArray else l = [v]) ∧ Qcc w ps vs ls
 | .give agg _ :: ps, v :: vs, l :: ls => (if agg then v = .agg l.toArray else l = [v]) ∧ Qcc w ps vs ls
 | .clo f fst t _ :: ps, v :: vs, l :: ls => (∃ b, v = .func (.func f) (cond fst #[.pointer (some ⟨b, 0, none⟩)] #[]) (cond fst #[] #[.pointer (some ⟨b, 0, none⟩)]) ∧ w.heap[b]? = some (.cells l.toArray t (0, 0))) ∧ Qcc w ps vs ls
 | .box t _ _ _ :: ps, v :: vs, l :: ls => (∃ b, v = .pointer (some ⟨b, 0, none⟩) ∧ w.heap[b]? = some (.cells l.toArray t (0, 0))) ∧ Qcc w ps vs ls
 | _, _, _ => False
def blkOf : Value → List Nat
 | .pointer (some a) => [a.block]
 | .func _ first caps => match first.toList ++ caps.toList with | [.pointer (some a)] => [a.block] | _ => []
 | _ => []
def Qae : List PK → List Value → List Nat
 | .box _ _ _ _ :: ps, v :: vs => blkOf v ++ Qae ps vs
 | .val _ _ :: ps, _ :: vs => Qae ps vs
 | .lent _ _ :: ps, _ :: vs => Qae ps vs
 | .give _ _ :: ps, _ :: vs => Qae ps vs
 | .clo _ _ _ _ :: ps, v :: vs => blkOf v ++ Qae ps vs
 | _, _ => []
def Qab : List PK → List Value → List Nat
 | .box _ _ _ rw :: ps, v :: vs => (if rw then blkOf v else []) ++ Qab ps vs
 | .val _ _ :: ps, _ :: vs => Qab ps vs
 | .lent _ _ :: ps, _ :: vs => Qab ps vs
 | .give _ _ :: ps, _ :: vs => Qab ps vs
 | .clo _ _ _ _ :: ps, _ :: vs => Qab ps vs
 | _, _ => []
def Qbp : List PK → List Value → List Nat
 | .box _ _ _ rw :: ps, v :: vs => (if rw then [] else blkOf v) ++ Qbp ps vs
 | .clo _ _ _ _ :: ps, v :: vs => blkOf v ++ Qbp ps vs
 | .val _ _ :: ps, _ :: vs => Qbp ps vs
 | .lent _ _ :: ps, _ :: vs => Qbp ps vs
 | .give _ _ :: ps, _ :: vs => Qbp ps vs
 | _, _ => []
theorem Qdj : ∀ {ps : List PK} {vs : List Value} {b : Nat}, b ∈ Qab ps vs → b ∈ Qae ps vs
 | .box _ _ _ rw :: ps, v :: vs, b, h => by
  simp only [Qab, Qae, List.mem_append] at h ⊢
  rcases h with h | h
  ·cases rw with
   | true => exact .inl h
   | false => simp at h
  ·exact .inr (Qdj h)
 | .val _ _ :: ps, _ :: vs, b, h => Qdj (ps := ps) h
 | .lent _ _ :: ps, _ :: vs, b, h => Qdj (ps := ps) h
 | .give _ _ :: ps, _ :: vs, b, h => Qdj (ps := ps) h
 | .clo _ _ _ _ :: ps, v :: vs, b, h => List.mem_append.2 (.inr (Qdj (ps := ps) h))
 | [], [], _, h => by simp [Qab] at h
 | [], _ :: _, _, h => by simp [Qab] at h
 | _ :: _, [], _, h => by simp [Qab] at h
def Qbb (w : World) : List PK → List Value → List (List Value) → Prop
 | [], [], ls => ls = []
 | .val _ _ :: ps, _ :: vs, ls => Qbb w ps vs ls
 | .give _ _ :: ps, _ :: vs, ls => Qbb w ps vs ls
 | .clo _ _ _ _ :: ps, _ :: vs, ls => Qbb w ps vs ls
 | .lent agg _ :: ps, v :: vs, ls => ∃ l ls', ls = l :: ls' ∧ (if agg then v = .agg l.toArray else l = [v]) ∧ Qbb w ps vs ls'
 | .box t _ _ rw :: ps, v :: vs, ls => if rw then ∃ l ls', ls = l :: ls' ∧ (∃ b, v = .pointer (some ⟨b, 0, none⟩) ∧ w.heap[b]? = some (.cells l.toArray t (0, 0))) ∧ Qbb w ps vs ls' else Qbb w ps vs ls
 | _, _, _ => False
def ResL : List RK → List Value → List (List Value) → Prop
 | [], [], [] => True
 | r :: rs, v :: vs, l :: ls => (if r.agg then v = .agg l.toArray else l = [v]) ∧ ResL rs vs ls
 | _, _, _ => False
def ResAt : List RK → Value → List (List Value) → Prop
 | [r], v, ls => ResL [r] [v] ls
 | rs, v, ls => ∃ us, v = .tuple us ∧ ResL rs us.toList ls
structure FnOk (P : Program) (k : Nat) (g : FuncId) (f : Fn) : Prop where
 there : ∃ fn c, P.funcs[g]? = some fn ∧ (fn.name == "runtime.NumGoroutine") = false ∧ fn.body = some c
 run : ∀ (w : World) (S : Nat → Prop) (vs : List Value) (vss : List (List Value)) (rows : List Row) (x : f.sig.inK.T) (r : f.sig.outK.T),
  f.sem k x = some r → Qcc w f.sig.params vs vss → Qaz w S f.sig.ins x vss rows → (∀ b, S b → b < w.heap.size) →
  (Qab f.sig.params vs).Nodup → (∀ b ∈ Qab f.sig.params vs, b ∉ Qbp f.sig.params vs) → (∀ b ∈ Qae f.sig.params vs, ¬ S b) → (Blks rows).Nodup → (∀ b ∈ Blks rows, ¬ S b ∧ b < w.heap.size ∧ b ∉ Qae f.sig.params vs) → Qes P w S →
  Calls P g vs.toArray w fun e w' => ∃ rv S' vr vo rows', e = .returned rv ∧ Frm w.heap.size (fun b => b ∈ Qab f.sig.params vs ∨ b ∈ Blks rows) w w' ∧
   (∀ b, S b → S' b) ∧ (∀ b, S' b → S b ∨ b ∈ Blks rows ∨ w.heap.size ≤ b) ∧ (∀ b, S' b → b < w'.heap.size) ∧
   Qaz w' S' f.sig.outs r (vr ++ vo) rows' ∧ ResAt f.sig.res rv vr ∧ Qbb w' f.sig.params vs vo ∧
   (Blks rows').Nodup ∧ ∀ b ∈ Blks rows', ¬ S' b ∧ b < w'.heap.size ∧ b ∉ Qae f.sig.params vs ∧ (b ∈ Blks rows ∨ w.heap.size ≤ b)
structure MkOk (P : Program) (k : Nat) (g : FuncId) (mk : Mk) : Prop where
 there : ∃ fn c, P.funcs[g]? = some fn ∧ (fn.name == "runtime.NumGoroutine") = false ∧ fn.body = some c
 run : mk.f.sig.params.all PK.isVal = true → (∀ r ∈ mk.f.sig.outs, r.2 = false) → ∀ (w : World) (S : Nat → Prop) (vs : List Value) (vss : List (List Value)) (x : mk.f.sig.inK.T) (r : mk.f.sig.outK.T),
  mk.f.sem k x = some r → Qcc w mk.f.sig.params vs vss → Qaz w S mk.f.sig.ins x vss [] → (∀ b, S b → b < w.heap.size) → Qes P w S →
  Calls P g vs.toArray w fun e w' => ∃ b arr S', e = .returned (.pointer (some ⟨b, 0, none⟩)) ∧ Frm w.heap.size (fun _ => False) w w' ∧
   (∀ b, S b → S' b) ∧ (∀ b, S' b → S b ∨ w.heap.size ≤ b) ∧ (∀ b, S' b → b < w'.heap.size) ∧ w.heap.size ≤ b ∧ ¬ S' b ∧
   w'.heap[b]? = some (.cells arr mk.t (0, 0)) ∧ Qaz w' S' mk.f.sig.outs r [arr.toList] []
structure EnvOk (E : Env) : Prop where
 fns : ∀ g f, E.fns g = some f → FnOk E.P E.k g f
 mks : ∀ g f, E.mks g = some f → MkOk E.P E.k g f
theorem ResL.length : ∀ {rs : List RK} {vs : List Value} {ls : List (List Value)}, ResL rs vs ls → ls.length = rs.length
 | [], [], [], _ => rfl
 | r :: rs, v :: vs, l :: ls, h => by simp [ResL.length h.2]
 | [], [], _ :: _, h => h.elim
 | [], _ :: _, _, h => by cases ‹List (List Value)› <;> exact h.elim
 | _ :: _, [], _, h => by cases ‹List (List Value)› <;> exact h.elim
 | _ :: _, _ :: _, [], h => h.elim
theorem ResAt.length {rs : List RK} {v : Value} {ls : List (List Value)} (h : ResAt rs v ls) : ls.length = rs.length := by
 match rs, h with
 | [r], h => exact ResL.length h
 | [], h => obtain ⟨us, _, h⟩ := h; exact h.length
 | _ :: _ :: _, h => obtain ⟨us, _, h⟩ := h; exact h.length
section
variable {E : Env} {base : Nat} {Mod : Nat → Prop} {w0 : Org} {m : Emb} {st : St} {a : Act} {w : World} {key : Nat} {o : Oper} {R : Type} {r : R}
theorem Qkl : ∀ {rs : List RK} {vs : List Value} {lr lo : List (List AC)} {vr : List (List Value)}, ResL rs vs vr → All2 (All2 (RelAC m st w)) lr vr →
  All2 (RelC m st w) ((rs.zip (lr ++ lo)).map fun p => (p.1.agg, p.2)) vs
 | [], [], lr, lo, vr, _, _ => by simp [All2]
 | r :: rs, v :: vs, l :: lr, lo, k :: vr, h, hr => by
  simp only [List.cons_append, List.zip_cons_cons, List.map_cons]
  refine ⟨?_, Qkl h.2 hr.2⟩
  have h1 := h.1
  have h2 := hr.1
  unfold RelC
  split
  ·rename_i hg
   rw [if_pos hg] at h1
   exact ⟨_, h1, h2⟩
  ·rename_i hg
   rw [if_neg hg] at h1
   subst h1
   match l, h2 with
   | [x], h2 => exact ⟨x, rfl, h2.1⟩
   | [], h2 => exact h2.elim
   | _ :: _ :: _, h2 => exact h2.2.elim
 | [], _ :: _, _, _, vr, h, _ => by cases vr <;> exact h.elim
 | _ :: _, [], _, _, vr, h, _ => by cases vr <;> exact h.elim
 | _ :: _, _ :: _, _, _, [], h, _ => h.elim
 | _ :: _, _ :: _, [], _, _ :: _, _, h => h.elim
theorem Qpa {rs : List RK} {rv : Value} {lr lo : List (List AC)} {vr : List (List Value)} (h : ResAt rs rv vr) (hr : All2 (All2 (RelAC m st w)) lr vr) : RelAV m st w (resAV rs (lr ++ lo)) rv := by
 match rs, h with
 | [], h => obtain ⟨us, rfl, h'⟩ := h; exact ⟨us, rfl, Qkl h' hr⟩
 | _ :: _ :: _, h => obtain ⟨us, rfl, h'⟩ := h; exact ⟨us, rfl, Qkl h' hr⟩
 | [r], h =>
  match vr, lr, h, hr with
  | [v], [l], h, hr =>
   have h1 := h.1
   simp only [List.cons_append, resAV]
   have h2 := hr.1
   split
   ·rename_i hg
    rw [if_pos hg] at h1
    exact ⟨_, h1, h2⟩
   ·rename_i hg
    rw [if_neg hg] at h1
    subst h1
    match l, h2 with
    | [x], h2 => exact h2.1
    | [], h2 => exact h2.elim
    | _ :: _ :: _, h2 => exact h2.2.elim
  | [], _, h, _ => exact h.elim
  | _ :: _ :: _, _, h, _ => exact h.2.elim
  | [_], [], _, hr => exact hr.elim
  | [_], _ :: _ :: _, _, hr => exact hr.2.elim
theorem Qgz {t : TypeId} {c : CK} {own rw : Bool} {av : AV} {l : List AC} (h : Qak st (.box t c own rw) av = some l) :
  ∃ b, av = .one (.ptr b 0) ∧ st.box b = some (t, l) ∧ (rw = true → st.lock b = false) := by
 cases av with
 | one x =>
  cases x with
  | ptr b off =>
   cases off with
   | zero =>
    simp only [Qak] at h
    split at h
    ·rename_i t' l' hb
     split at h
     ·rename_i hc
      simp only [Zj] at h; subst h
      simp only [Zd, Zq] at hc
      obtain ⟨rfl, hlk⟩ := hc
      exact ⟨b, rfl, hb, fun hr => by simpa [hr] using hlk⟩
     ·cases h
    ·cases h
   | succ n => simp [Qak] at h
  | _ => simp [Qak] at h
 | _ => simp [Qak] at h
theorem Qha {f : FuncId} {fst : Bool} {t : TypeId} {c : CK} {av : AV} {l : List AC} (h : Qak st (.clo f fst t c) av = some l) :
  ∃ b l', av = .one (.fn f fst [(b, 0)]) ∧ st.box b = some (t, l') ∧ (c.mask l').2 = [] ∧ l = (c.mask l').1 := by
 cases av with
 | one x =>
  cases x with
  | fn g fst' caps =>
   match caps with
   | [(b, 0)] =>
    simp only [Qak] at h
    split at h
    ·rename_i t' l' hb
     split at h
     ·rename_i hc
      simp only [Zj] at h; subst h
      simp only [Zd, Zq] at hc
      obtain ⟨⟨⟨rfl, rfl⟩, rfl⟩, hem⟩ := hc
      exact ⟨b, l', rfl, hb, List.isEmpty_iff.1 hem, rfl⟩
     ·cases h
    ·cases h
   | [] => simp [Qak] at h
   | [(b, n + 1)] => simp [Qak] at h
   | _ :: _ :: _ => simp [Qak] at h
  | _ => simp [Qak] at h
 | _ => simp [Qak] at h
theorem Qkg : ∀ (c : CK) {l : List AC} {vs : List Value}, All2 (RelAC m st w) l vs → ∃ v1 v2, vs = v1 ++ v2 ∧ All2 (RelAC m st w) (c.mask l).1 v1 ∧ All2 (RelAC m st w) (c.mask l).2 v2
 | .unit, l, vs, h => ⟨[], vs, rfl, trivial, h⟩
 | .pair a b, l, vs, h => by
  obtain ⟨v1, v2, rfl, h1, h2⟩ := Qkg a h
  obtain ⟨v3, v4, rfl, h3, h4⟩ := Qkg b h2
  exact ⟨v1 ++ v3, v4, by simp, All2.append h1 h3, h4⟩
 | .arr _ n, l, vs, h => ⟨vs.take n, vs.drop n, (List.take_append_drop n vs).symm, h.take n, h.drop n⟩
 | .any, [], [], h => ⟨[], [], rfl, trivial, trivial⟩
 | .any, _ :: _, v :: vs, h => ⟨[v], vs, rfl, ⟨trivial, trivial⟩, h.2⟩
 | .int _, [], [], h => ⟨[], [], rfl, trivial, trivial⟩
 | .int _, _ :: _, v :: vs, h => ⟨[v], vs, rfl, ⟨h.1, trivial⟩, h.2⟩
 | .bool, [], [], h => ⟨[], [], rfl, trivial, trivial⟩
 | .bool, _ :: _, v :: vs, h => ⟨[v], vs, rfl, ⟨h.1, trivial⟩, h.2⟩
 | .str, [], [], h => ⟨[], [], rfl, trivial, trivial⟩
 | .str, _ :: _, v :: vs, h => ⟨[v], vs, rfl, ⟨h.1, trivial⟩, h.2⟩
 | .sl _ _, [], [], h => ⟨[], [], rfl, trivial, trivial⟩
 | .sl _ _, _ :: _, v :: vs, h => ⟨[v], vs, rfl, ⟨h.1, trivial⟩, h.2⟩
 | .any, [], _ :: _, h => h.elim
 | .any, _ :: _, [], h => h.elim
 | .int _, [], _ :: _, h => h.elim
 | .int _, _ :: _, [], h => h.elim
 | .bool, [], _ :: _, h => h.elim
 | .bool, _ :: _, [], h => h.elim
 | .str, [], _ :: _, h => h.elim
 | .str, _ :: _, [], h => h.elim
 | .sl _ _, [], _ :: _, h => h.elim
 | .sl _ _, _ :: _, [], h => h.elim
theorem Qpm {c : CK} {l : List AC} {vs : List Value} (h : All2 (RelAC m st w) l vs) (he : (c.mask l).2 = []) : All2 (RelAC m st w) (c.mask l).1 vs := by
 obtain ⟨v1, v2, rfl, h1, h2⟩ := Qkg c h
 rw [he] at h2
 match v2, h2 with
 | [], _ => simpa using h1
 | _ :: _, h2 => exact h2.elim
theorem Qhn (hm : Qht m st w base Mod) : ∀ {ps : List PK} {avs : List AV} {vs : List Value} {ls : List (List AC)}, Qah st ps avs = some ls → All2 (RelAV m st w) avs vs →
  ∃ vss, Qcc w ps vs vss ∧ All2 (All2 (RelAC m st w)) ls vss ∧ Qae ps vs = (Qad ps avs).map m.bl ∧ (∀ k ∈ Qad ps avs, (st.box k).isSome = true) ∧
   (∀ b ∈ Qab ps vs, ∃ k ∈ Qad ps avs, m.bl k = b ∧ st.lock k = false) ∧
   Qab ps vs = (rwNos ps avs).map m.bl ∧ Qbp ps vs = (roNos ps avs).map m.bl ∧ (∀ k ∈ rwNos ps avs, k ∈ Qad ps avs ∧ st.lock k = false) ∧ (∀ k ∈ roNos ps avs, k ∈ Qad ps avs)
 | [], [], vs, ls, h, hr => by
  simp only [Qah, Zj] at h; subst h
  match vs, hr with
  | [], _ => exact ⟨[], trivial, trivial, rfl, by simp [Qad], by simp [Qab], rfl, rfl, by simp [rwNos], by simp [roNos]⟩
  | _ :: _, hr => exact hr.elim
 | p :: ps, av :: avs, [], ls, h, hr => hr.elim
 | p :: ps, av :: avs, v :: vs, ls, h, hr => by
  simp only [Qah] at h
  split at h <;> try cases h
  rename_i l lm h1 h2
  obtain ⟨vss, i1, i2, i3, i4, i5, i6, i7, i8, i9⟩ := Qhn hm h2 hr.2
  have hv := hr.1
  cases p with
  | val agg c =>
   cases agg with
   | true =>
    cases av <;> simp only [Qak] at h1 <;> try (cases h1; done)
    simp only [Zj] at h1; subst h1
    obtain ⟨arr, rfl, hr'⟩ := hv
    exact ⟨arr.toList :: vss, ⟨by simp, i1⟩, ⟨hr', i2⟩, by simpa [Qae, Qad] using i3, by simpa [Qad] using i4, by simpa [Qab, Qad] using i5, by simpa [Qab, rwNos] using i6, by simpa [Qbp, roNos] using i7, by simpa [rwNos, Qad] using i8, by simpa [roNos, Qad] using i9⟩
   | false =>
    cases av <;> simp only [Qak] at h1 <;> try (cases h1; done)
    simp only [Zj] at h1; subst h1
    exact ⟨[v] :: vss, ⟨by simp, i1⟩, ⟨⟨hv, trivial⟩, i2⟩, by simpa [Qae, Qad] using i3, by simpa [Qad] using i4, by simpa [Qab, Qad] using i5, by simpa [Qab, rwNos] using i6, by simpa [Qbp, roNos] using i7, by simpa [rwNos, Qad] using i8, by simpa [roNos, Qad] using i9⟩
  | lent agg c =>
   cases agg with
   | true =>
    cases av <;> simp only [Qak] at h1 <;> try (cases h1; done)
    simp only [Zj] at h1; subst h1
    obtain ⟨arr, rfl, hr'⟩ := hv
    exact ⟨arr.toList :: vss, ⟨by simp, i1⟩, ⟨hr', i2⟩, by simpa [Qae, Qad] using i3, by simpa [Qad] using i4, by simpa [Qab, Qad] using i5, by simpa [Qab, rwNos] using i6, by simpa [Qbp, roNos] using i7, by simpa [rwNos, Qad] using i8, by simpa [roNos, Qad] using i9⟩
   | false =>
    cases av <;> simp only [Qak] at h1 <;> try (cases h1; done)
    simp only [Zj] at h1; subst h1
    exact ⟨[v] :: vss, ⟨by simp, i1⟩, ⟨⟨hv, trivial⟩, i2⟩, by simpa [Qae, Qad] using i3, by simpa [Qad] using i4, by simpa [Qab, Qad] using i5, by simpa [Qab, rwNos] using i6, by simpa [Qbp, roNos] using i7, by simpa [rwNos, Qad] using i8, by simpa [roNos, Qad] using i9⟩
  | give agg c =>
   cases agg with
   | true =>
    cases av <;> simp only [Qak] at h1 <;> try (cases h1; done)
    simp only [Zj] at h1; subst h1
    obtain ⟨arr, rfl, hr'⟩ := hv
    exact ⟨arr.toList :: vss, ⟨by simp, i1⟩, ⟨hr', i2⟩, by simpa [Qae, Qad] using i3, by simpa [Qad] using i4, by simpa [Qab, Qad] using i5, by simpa [Qab, rwNos] using i6, by simpa [Qbp, roNos] using i7, by simpa [rwNos, Qad] using i8, by simpa [roNos, Qad] using i9⟩
   | false =>
    cases av <;> simp only [Qak] at h1 <;> try (cases h1; done)
    simp only [Zj] at h1; subst h1
    exact ⟨[v] :: vss, ⟨by simp, i1⟩, ⟨⟨hv, trivial⟩, i2⟩, by simpa [Qae, Qad] using i3, by simpa [Qad] using i4, by simpa [Qab, Qad] using i5, by simpa [Qab, rwNos] using i6, by simpa [Qbp, roNos] using i7, by simpa [rwNos, Qad] using i8, by simpa [roNos, Qad] using i9⟩
  | clo f fst t c =>
   obtain ⟨b, l', rfl, hb, hem, rfl⟩ := Qha h1
   obtain ⟨hbs, rfl⟩ := hv
   obtain ⟨arr, harr, hrel⟩ := hm.box _ _ _ hb
   have hrel := Qpm hrel hem
   have hbo : blkOf (.func (.func f) (cond fst ([(b, 0)].map (ptrV m)).toArray #[]) (cond fst #[] ([(b, 0)].map (ptrV m)).toArray)) = [m.bl b] := by cases fst <;> rfl
   refine ⟨arr.toList :: vss, ⟨⟨_, by cases fst <;> rfl, by simpa using harr⟩, i1⟩, ⟨hrel, i2⟩, by simp only [Qae, Qad, hbo, i3]; rfl, ?_, ?_, by simpa [Qab, rwNos] using i6, by simp only [Qbp, roNos, hbo, i7]; rfl, ?_, ?_⟩
   ·intro k hk
    simp only [Qad, List.mem_cons] at hk
    rcases hk with rfl | hk
    ·exact hbs (k, 0) (by simp)
    ·exact i4 k hk
   ·intro b' hb'
    simp only [Qab] at hb'
    obtain ⟨k, h1, h2⟩ := i5 b' hb'
    exact ⟨k, by simp [Qad, h1], h2⟩
   ·intro k hk
    obtain ⟨h1, h2⟩ := i8 k (by simpa [rwNos] using hk)
    exact ⟨by simp [Qad, h1], h2⟩
   ·intro k hk
    simp only [roNos, List.mem_cons] at hk
    rcases hk with rfl | hk
    ·simp [Qad]
    ·simp [Qad, i9 k hk]
  | box t c own rw =>
   obtain ⟨b, rfl, hb, hlk⟩ := Qgz h1
   obtain ⟨hbs, rfl⟩ := hv
   obtain ⟨arr, harr, hrel⟩ := hm.box _ _ _ hb
   refine ⟨arr.toList :: vss, ⟨⟨_, rfl, by simpa using harr⟩, i1⟩, ⟨hrel, i2⟩, by simpa [Qae, Qad, blkOf] using i3, ?_, ?_, ?_, ?_, ?_, ?_⟩
   ·intro k hk
    simp only [Qad, List.mem_cons] at hk
    rcases hk with rfl | hk
    ·exact hbs
    ·exact i4 k hk
   ·intro b' hb'
    simp only [Qab, List.mem_append] at hb'
    rcases hb' with hb' | hb'
    ·cases rw with
     | true =>
      simp only [if_true, blkOf, List.mem_singleton] at hb'
      subst hb'
      exact ⟨b, by simp [Qad], rfl, hlk rfl⟩
     | false => simp at hb'
    ·obtain ⟨k, h1, h2⟩ := i5 b' hb'
     exact ⟨k, by simp [Qad, h1], h2⟩
   ·cases rw <;> simp [Qab, rwNos, blkOf, i6]
   ·cases rw <;> simp [Qbp, roNos, blkOf, i7]
   ·intro k hk
    cases rw with
    | true =>
     simp only [rwNos, List.mem_cons] at hk
     rcases hk with rfl | hk
     ·exact ⟨by simp [Qad], hlk rfl⟩
     ·obtain ⟨h1, h2⟩ := i8 k hk
      exact ⟨by simp [Qad, h1], h2⟩
    | false =>
     obtain ⟨h1, h2⟩ := i8 k (by simpa [rwNos] using hk)
     exact ⟨by simp [Qad, h1], h2⟩
   ·intro k hk
    cases rw with
    | true => simp [Qad, i9 k (by simpa [roNos] using hk)]
    | false =>
     simp only [roNos, List.mem_cons] at hk
     rcases hk with rfl | hk
     ·simp [Qad]
     ·simp [Qad, i9 k hk]
 | [], _ :: _, _, _, h, _ => by simp [Qah] at h
 | _ :: _, [], _, _, h, _ => by simp [Qah] at h
set_option maxHeartbeats 2000000 in
theorem Qek {w' : World} {m' : Emb} {st' : St} (hbl : ∀ k, m'.bl k = m.bl k) : ∀ {ps : List PK} {avs : List AV} {vs : List Value} {ls : List (List AC)} {lo : List (List AC)} {vo : List (List Value)}, Qah st ps avs = some ls → All2 (RelAV m st w) avs vs →
  Qbb w' ps vs vo → All2 (All2 (RelAC m' st' w')) lo vo →
  (∀ p ∈ Qaj ps avs lo, ∃ arr, w'.heap[m'.bl p.1]? = some (.cells arr p.2.1 (0, 0)) ∧ All2 (RelAC m' st' w') p.2.2 arr.toList) ∧
  ((Qaj ps avs lo).map (·.1)).Sublist (rwNos ps avs) ∧ (∀ b ∈ Qab ps vs, ∃ p ∈ Qaj ps avs lo, m.bl p.1 = b)
 | [], [], vs, ls, lo, vo, h, hr, ho, hl => by
  match vs, hr with
  | [], _ => simp [Qaj, rwNos, Qab]
  | _ :: _, hr => exact hr.elim
 | p :: ps, av :: avs, [], ls, _, _, h, hr, _, _ => hr.elim
 | p :: ps, av :: avs, v :: vs, ls, lo, vo, h, hr, ho, hl => by
  simp only [Qah] at h
  split at h <;> try cases h
  rename_i l lm h1 h2
  have hv := hr.1
  cases p with
  | val agg c =>
   have ih := Qek hbl h2 hr.2 (vo := vo) (lo := lo) (by simpa [Qbb] using ho) hl
   cases av with
   | one x => cases x <;> simpa [Qaj, rwNos, Qab] using ih
   | _ => simpa [Qaj, rwNos, Qab] using ih
  | give agg c =>
   have ih := Qek hbl h2 hr.2 (vo := vo) (lo := lo) (by simpa [Qbb] using ho) hl
   cases av with
   | one x => cases x <;> simpa [Qaj, rwNos, Qab] using ih
   | _ => simpa [Qaj, rwNos, Qab] using ih
  | clo f fst t c =>
   have ih := Qek hbl h2 hr.2 (vo := vo) (lo := lo) (by simpa [Qbb] using ho) hl
   obtain ⟨b, l', rfl, hb, hem, rfl⟩ := Qha h1
   exact ⟨by simpa [Qaj] using ih.1, by simpa [Qaj, rwNos] using ih.2.1, by simpa [Qaj, Qab] using ih.2.2⟩
  | lent agg c =>
   simp only [Qbb] at ho
   obtain ⟨k, vo', rfl, hk, ho⟩ := ho
   match lo, hl with
   | l0 :: lo, hl =>
    have ih := Qek hbl h2 hr.2 ho hl.2
    cases av with
    | one x => cases x <;> simpa [Qaj, rwNos, Qab] using ih
    | _ => simpa [Qaj, rwNos, Qab] using ih
   | [], hl => exact hl.elim
  | box t c own rw =>
   obtain ⟨b, rfl, hb, hlk⟩ := Qgz h1
   obtain ⟨hbs, rfl⟩ := hv
   cases rw with
   | false =>
    have ih := Qek hbl h2 hr.2 (vo := vo) (lo := lo) (by simpa [Qbb] using ho) hl
    exact ⟨by simpa [Qaj] using ih.1, by simpa [Qaj, rwNos] using ih.2.1, by simpa [Qaj, Qab] using ih.2.2⟩
   | true =>
    simp only [Qbb, if_true] at ho
    obtain ⟨k, vo', rfl, ⟨b', hb', hcells⟩, ho⟩ := ho
    match lo, hl with
    | l0 :: lo, hl =>
     have ih := Qek hbl h2 hr.2 ho hl.2
     have hbb : m.bl b = b' := by injection hb' with h; injection h with h; injection h
     subst hbb
     refine ⟨?_, ?_, ?_⟩
     ·intro p hp
      simp only [Qaj, List.mem_cons] at hp
      rcases hp with rfl | hp
      ·exact ⟨_, by rw [hbl]; exact hcells, hl.1⟩
      ·exact ih.1 p hp
     ·simp only [Qaj, rwNos, List.map_cons]
      exact ih.2.1.cons_cons _
     ·intro b' hb'
      simp only [Qab, if_true, blkOf, List.mem_append, List.mem_singleton] at hb'
      rcases hb' with rfl | hb'
      ·exact ⟨(b, t, l0), by simp [Qaj], rfl⟩
      ·obtain ⟨p, hp, e⟩ := ih.2.2 b' hb'
       exact ⟨p, by simp [Qaj, hp], e⟩
    | [], hl => exact hl.elim
 | [], _ :: _, _, _, _, _, h, _, _, _ => by simp [Qah] at h
 | _ :: _, [], _, _, _, _, h, _, _, _ => by simp [Qah] at h
theorem Qjv {w' : World} {m' : Emb} {st' : St} : ∀ {l o : List AC} {vs : List Value}, All2 (RelAC m st w) l vs → All2 (RelAC m' st' w') o vs →
  ∀ p ∈ Qfa l o, p.1 ∈ AC.ids l ∧ (st.dead p.1 = false → RelAC m' st' w' p.2 (m.val p.1))
 | [], _, _, _, _, p, hp => by simp [Qfa] at hp
 | x :: l, [], _, _, _, p, hp => by
  exfalso
  unfold Qfa at hp
  split at hp <;> simp_all
 | x :: l, y :: o, v :: vs, h1, h2, p, hp => by
  have ih := fun hp => Qjv h1.2 h2.2 p hp
  have hgo : p ∈ Qfa l o → p.1 ∈ AC.ids (x :: l) ∧ (st.dead p.1 = false → RelAC m' st' w' p.2 (m.val p.1)) := fun hp => by
   obtain ⟨i1, i2⟩ := ih hp
   refine ⟨?_, i2⟩
   cases x <;> first | exact i1 | (rename_i own _ _ _ _ _; cases own <;> simp [AC.ids, i1])
  cases x with
  | sl id own vw e c xs src =>
   cases own with
   | false => exact hgo (by simpa [Qfa] using hp)
   | true =>
    cases vw with
    | true => exact hgo (by simpa [Qfa] using hp)
    | false =>
     simp only [Qfa, List.mem_cons] at hp
     rcases hp with rfl | hp
     ·refine ⟨by simp [AC.ids], fun hd => ?_⟩
      obtain ⟨_, _, hh⟩ := h1.1
      simp only [if_true] at hh
      have hh := hh.resolve_left (by simp [show st.dead id = false from hd])
      obtain ⟨_, _, _, _, _, _, hv⟩ := hh
      show RelAC m' st' w' y (m.val id)
      rw [← hv rfl]
      exact h2.1
     ·exact hgo hp
  | _ => exact hgo (by simpa [Qfa] using hp)
 | _ :: _, _ :: _, [], h1, _, _, _ => h1.elim
theorem Qbu {w' : World} {m' : Emb} {st' : St} : ∀ {ps : List PK} {avs : List AV} {vs : List Value} {ls : List (List AC)} {lo : List (List AC)} {vo : List (List Value)}, Qah st ps avs = some ls → All2 (RelAV m st w) avs vs →
  Qbb w' ps vs vo → All2 (All2 (RelAC m' st' w')) lo vo → ∀ p ∈ Qau ps ls lo, p.1 ∈ Qao (ps.map fun | .val _ c => (c, false) | .box _ c own _ => (c, own) | .lent _ c => (c, true) | .give _ c => (c, true) | .clo _ _ _ c => (c, false)) ls ∧ (st.dead p.1 = false → RelAC m' st' w' p.2 (m.val p.1))
 | [], _, _, _, _, _, _, _, _, _, p, hp => by simp [Qau] at hp
 | q :: ps, [], _, _, _, _, h, _, _, _, _, _ => by simp [Qah] at h
 | q :: ps, av :: avs, [], _, _, _, _, hr, _, _, _, _ => hr.elim
 | q :: ps, av :: avs, v :: vs, ls, lo, vo, h, hr, ho, hl, p, hp => by
  simp only [Qah] at h
  split at h <;> try cases h
  rename_i l lm h1 h2
  cases q with
  | val agg c =>
   obtain ⟨i1, i2⟩ := Qbu h2 hr.2 (vo := vo) (lo := lo) (by simpa [Qbb] using ho) hl p (by simpa [Qau] using hp)
   exact ⟨by simp only [List.map_cons, Qao]; exact List.mem_append_right _ i1, i2⟩
  | give agg c =>
   obtain ⟨i1, i2⟩ := Qbu h2 hr.2 (vo := vo) (lo := lo) (by simpa [Qbb] using ho) hl p (by simpa [Qau] using hp)
   exact ⟨by simp only [List.map_cons, Qao]; exact List.mem_append_right _ i1, i2⟩
  | clo f fst t c =>
   obtain ⟨i1, i2⟩ := Qbu h2 hr.2 (vo := vo) (lo := lo) (by simpa [Qbb] using ho) hl p (by simpa [Qau] using hp)
   exact ⟨by simp only [List.map_cons, Qao]; exact List.mem_append_right _ i1, i2⟩
  | box t c own rw =>
   cases rw with
   | false =>
    obtain ⟨i1, i2⟩ := Qbu h2 hr.2 (vo := vo) (lo := lo) (by simpa [Qbb] using ho) hl p (by simpa [Qau] using hp)
    exact ⟨by simp only [List.map_cons, Qao]; exact List.mem_append_right _ i1, i2⟩
   | true =>
    simp only [Qbb, if_true] at ho
    obtain ⟨k, vo', rfl, _, ho⟩ := ho
    match lo, hl with
    | l0 :: lo, hl =>
     obtain ⟨i1, i2⟩ := Qbu h2 hr.2 ho hl.2 p (by simpa [Qau] using hp)
     exact ⟨by simp only [List.map_cons, Qao]; exact List.mem_append_right _ i1, i2⟩
    | [], hl => exact hl.elim
  | lent agg c =>
   simp only [Qbb] at ho
   obtain ⟨k, vo', rfl, hk, ho⟩ := ho
   match lo, hl with
   | l0 :: lo, hl =>
    simp only [Qau, List.mem_append] at hp
    rcases hp with hp | hp
    ·have hlk : All2 (RelAC m st w) l k := by
      have hv := hr.1
      cases agg with
      | true =>
       cases av <;> simp only [Qak] at h1 <;> try (cases h1; done)
       simp only [Zj] at h1; subst h1
       obtain ⟨arr, rfl, hr'⟩ := hv
       simp only [if_true, Value.agg.injEq] at hk
       subst hk
       simpa using hr'
      | false =>
       cases av <;> simp only [Qak] at h1 <;> try (cases h1; done)
       simp only [Zj] at h1; subst h1
       simp only [Bool.false_eq_true, if_false] at hk
       subst hk
       exact ⟨hv, trivial⟩
     obtain ⟨i1, i2⟩ := Qjv hlk hl.1 p hp
     exact ⟨by simp only [List.map_cons, Qao, if_true]; exact List.mem_append_left _ i1, i2⟩
    ·obtain ⟨i1, i2⟩ := Qbu h2 hr.2 ho hl.2 p hp
     exact ⟨by simp only [List.map_cons, Qao]; exact List.mem_append_right _ i1, i2⟩
   | [], hl => exact hl.elim
theorem Qlo : ∀ {f : List (Id × AC)} {id : Id} {x : AC}, renOf f id = some x → (id, x) ∈ f
 | [], _, _, h => by cases h
 | (i, y) :: f, id, x, h => by
  unfold renOf at h
  split at h
  ·rename_i e; simp only [Zj] at h; subst h; subst e; simp
  ·exact List.mem_cons_of_mem _ (Qlo h)
theorem RelAC.ren {m' : Emb} {st' : St} {w' : World} {f : List (Id × AC)} (hlat : Later m st w m' st' w') (hf : ∀ p ∈ f, st.dead p.1 = false ∧ RelAC m' st' w' p.2 (m.val p.1)) {x : AC} {v : Value} (h : RelAC m st w x v) : RelAC m' st' w' (x.ren f) v := by
 unfold AC.ren
 split
 ·rename_i id e c xs src
  split
  ·rename_i id' own' vw' e' c' xs' src' hr
   obtain ⟨hd, hr⟩ := hf _ (Qlo hr)
   obtain ⟨_, _, hh⟩ := h
   simp only [if_true] at hh
   have hh := hh.resolve_left (by simp [show st.dead id = false from hd])
   obtain ⟨_, _, _, _, _, _, hv⟩ := hh
   rw [hv rfl]
   exact hr
  ·exact RelAC.later hlat h
 ·exact RelAC.later hlat h
theorem All2.ren {m' : Emb} {st' : St} {w' : World} {f : List (Id × AC)} (hlat : Later m st w m' st' w') (hf : ∀ p ∈ f, st.dead p.1 = false ∧ RelAC m' st' w' p.2 (m.val p.1)) : ∀ {l : List AC} {vs : List Value}, All2 (RelAC m st w) l vs → All2 (RelAC m' st' w') (l.map (AC.ren f)) vs
 | [], [], _ => trivial
 | _ :: _, _ :: _, h => ⟨RelAC.ren hlat hf h.1, All2.ren hlat hf h.2⟩
 | [], _ :: _, h => h.elim
 | _ :: _, [], h => h.elim
theorem RelAV.ren {m' : Emb} {st' : St} {w' : World} {f : List (Id × AC)} (hlat : Later m st w m' st' w') (hf : ∀ p ∈ f, st.dead p.1 = false ∧ RelAC m' st' w' p.2 (m.val p.1)) {x : AV} {v : Value} (h : RelAV m st w x v) : RelAV m' st' w' (x.ren f) v := by
 cases x with
 | one x => exact RelAC.ren hlat hf h
 | agg l =>
  obtain ⟨arr, h1, h2⟩ := h
  exact ⟨arr, h1, All2.ren hlat hf h2⟩
 | tup l => exact RelAV.later hlat h
 | ep _ _ _ _ _ _ _ _ => exact RelAV.later hlat h
 | pi _ _ _ _ _ => exact RelAV.later hlat h
theorem Qpp (st : St) (f : List (Id × AC)) (t : Nat) : (st.ren f).slot t = st.slot t ∨ (st.ren f).slot t = (st.slot t).ren f := by
 cases f with
 | nil => exact .inl rfl
 | cons p f => exact .inr rfl
theorem Qqk (st : St) (f : List (Id × AC)) (b : Nat) : (st.ren f).box b = st.box b ∨ (st.ren f).box b = (st.box b).map fun q => (q.1, q.2.map (AC.ren f)) := by
 cases f with
 | nil => exact .inl rfl
 | cons p f => exact .inr rfl
theorem Qrd (st : St) (f : List (Id × AC)) : st.ren f = { st with slot := (st.ren f).slot, box := (st.ren f).box } := by
 cases f <;> rfl
theorem Qir : ∀ (l : List (Nat × TypeId × List AC)) (st : St), st.setBoxes l = { st with box := (st.setBoxes l).box }
 | [], st => rfl
 | (b, x) :: l, st => by
  simp only [St.setBoxes]
  rw [Qir l]
  rfl
theorem Qdv : ∀ (l : List (Nat × TypeId × List AC)) (st : St) (k : Nat), k ∉ l.map (·.1) → (st.setBoxes l).box k = st.box k
 | [], st, k, _ => rfl
 | (b, x) :: l, st, k, h => by
  simp only [List.map_cons, List.mem_cons, not_or] at h
  simp only [St.setBoxes]
  rw [Qdv l _ k h.2, Qas, if_neg h.1]
theorem Qez : ∀ (l : List (Nat × TypeId × List AC)) (st : St) (k : Nat) (x : TypeId × List AC), (l.map (·.1)).Nodup → (k, x) ∈ l → (st.setBoxes l).box k = some x
 | [], st, k, x, _, h => by simp at h
 | (b, y) :: l, st, k, x, hn, h => by
  simp only [List.map_cons, List.nodup_cons] at hn
  simp only [St.setBoxes]
  rcases List.mem_cons.1 h with h | h
  ·cases h
   rw [Qdv l _ _ hn.1, Qas, if_pos rfl]
  ·exact Qez l _ k x hn.2 h
theorem Qcd {α : Type} [BEq α] [LawfulBEq α] : ∀ {l : List α}, Qeh l = true → l.Nodup
 | [], _ => List.nodup_nil
 | x :: l, h => by
  simp only [Qeh, Zd, Bool.not_eq_true'] at h
  refine List.nodup_cons.2 ⟨fun hx => ?_, Qcd h.2⟩
  have := List.contains_iff_mem.2 hx
  rw [h.1] at this; cases this
theorem Qim {P : Program} {g : FuncId} {c : Call} {fn : Func} {cd : Code} (ho : o.op = .call c) (hc : c.callee = .value (.func g)) (hf : P.funcs[g]? = some fn) (hname : (fn.name == "runtime.NumGoroutine") = false) (hb : fn.body = some cd) :
  (execOp a.eval o).run P w = .ok (.enter g (c.args.map a.eval)) w := by
 have h1 : fn.name ≠ "runtime.NumGoroutine" := by simpa using hname
 simp [execOp, ho, resolve, hc, Act.eval, Deferred.ofValue, invoke, callFunc, hf, h1, hb]
theorem Qge {P : Program} {g : FuncId} {c : Call} {x : Operand} {first caps : Array Value} {fn : Func} {cd : Code} (ho : o.op = .call c) (hc : c.callee = .value x) (hx : a.eval x = .func (.func g) first caps) (hf : P.funcs[g]? = some fn) (hname : (fn.name == "runtime.NumGoroutine") = false) (hb : fn.body = some cd) :
  (execOp a.eval o).run P w = .ok (.enter g (first ++ c.args.map a.eval ++ caps)) w := by
 have h1 : fn.name ≠ "runtime.NumGoroutine" := by simpa using hname
 simp [execOp, ho, resolve, hc, hx, Deferred.ofValue, invoke, callFunc, hf, h1, hb]
theorem Qnm (hm : Qht m st w base Mod) {ps : List PK} {avs : List AV} {vs : List Value} (hs : Qlq ps avs = true) (h4 : ∀ k ∈ Qad ps avs, (st.box k).isSome = true) (h6 : Qab ps vs = (rwNos ps avs).map m.bl) (h7 : Qbp ps vs = (roNos ps avs).map m.bl)
  (h8 : ∀ k ∈ rwNos ps avs, k ∈ Qad ps avs ∧ st.lock k = false) (h9 : ∀ k ∈ roNos ps avs, k ∈ Qad ps avs) (hnm : ∀ {l : List Nat}, l.Nodup → (∀ x y, x ∈ l → y ∈ l → m.bl x = m.bl y → x = y) → (l.map m.bl).Nodup) (hdn : Qeh (rwNos ps avs) = true → (rwNos ps avs).Nodup) :
  (Qab ps vs).Nodup ∧ ∀ b ∈ Qab ps vs, b ∉ Qbp ps vs := by
 unfold Qlq at hs
 simp only [Zd] at hs
 have hin : ∀ x y, x ∈ rwNos ps avs → y ∈ Qad ps avs → m.bl x = m.bl y → x = y := fun x y hx hy he => by
  rcases hm.boxI x y (h4 x (h8 x hx).1) (h4 y hy) he with h | h
  ·exact h
  ·have := (h8 x hx).2; rw [h.1] at this; cases this
 refine ⟨by rw [h6]; exact hnm (hdn hs.1) fun x y hx hy he => hin x y hx (h8 y hy).1 he, fun b hb hb' => ?_⟩
 rw [h6] at hb; rw [h7] at hb'
 obtain ⟨x, hx, rfl⟩ := List.mem_map.1 hb
 obtain ⟨y, hy, he⟩ := List.mem_map.1 hb'
 have := hin x y hx (h9 y hy) he.symm
 subst this
 have := List.all_eq_true.1 hs.2 x hx
 rw [List.contains_iff_mem.2 hy] at this
 cases this
theorem Qct (h : Rel E.F base Mod w0 m st a w) : ∀ (l : List Operand), All2 (RelAV m st w) (l.map (opnd st)) (l.map a.eval)
 | [] => trivial
 | x :: l => ⟨h.opnd x, Qct h l⟩
theorem Qhd {rs : List (CK × Bool)} {ls : List (List AC)} (h : Qbs st rs ls = true) : ls.all st.fresh = true ∧ Qgk rs ls = true ∧ (∀ i ∈ Qao rs ls, st.dead i = false ∧ st.ice i = false ∧ i ∉ roIds rs ls) ∧ (Qao rs ls).Nodup := by
 unfold Qbs at h
 simp only [Zd] at h
 obtain ⟨⟨⟨h1, h2⟩, h3⟩, h4⟩ := h
 refine ⟨h1, h2, fun i hi => ?_, Qcd h4⟩
 have := List.all_eq_true.1 h3 i hi
 simp only [Zd, Bool.not_eq_true'] at this
 have hr := Qdp this.1
 refine ⟨hr.1, hr.2, fun hm => ?_⟩
 have := List.contains_iff_mem.2 hm
 simp_all
end
end
section
theorem Qfp {S S' : Nat → Prop} {w : World} : ∀ {c : CK} {x : c.T} {l : List Value} {rows : List Row}, c.shallow = true → OwnT w S c x l rows → OwnT w S' c x l rows
 | .unit, _, _, _, _, h => h
 | .int _, _, _, _, _, h => h
 | .bool, _, _, _, _, h => h
 | .str, _, _, _, _, h => h
 | .sl e c, xs, _, _, hs, h => by
  obtain ⟨a, n, cap, rfl, rfl, h, ho⟩ := h
  exact ⟨a, n, cap, rfl, rfl, h.mono (fun _ h => h) (fun _ _ => rfl) fun x l => Qho hs, ho⟩
 | .pair a b, x, _, _, hs, h => by
  obtain ⟨l1, l2, r1, r2, rfl, rfl, h1, h2⟩ := h
  simp only [CK.shallow, Zd] at hs
  exact ⟨l1, l2, r1, r2, rfl, rfl, Qfp hs.1 h1, Qfp hs.2 h2⟩
 | .any, _, _, _, _, h => h
 | .arr _ _, _, _, _, _, h => h
theorem Qel {S S' : Nat → Prop} {w : World} : ∀ {rs : List (CK × Bool)} {x : (CK.pairs (rs.map (·.1))).T} {l : List (List Value)} {rows : List Row}, (∀ r ∈ rs, (r.1.flat || (r.2 && r.1.shallow)) = true) → Qaz w S rs x l rows → Qaz w S' rs x l rows
 | [], _, _, _, _, h => h
 | [r], _, _, _, hr, h => by
  obtain ⟨vs, h1, h2⟩ := h
  exact ⟨vs, h1, part_shallow (hr r (by simp)) h2⟩
 | r :: q :: l, x, _, _, hr, h => by
  obtain ⟨vs, vss', r1, r2, rfl, rfl, h1, h2⟩ := h
  exact ⟨vs, vss', r1, r2, rfl, rfl, part_shallow (hr r (by simp)) h1, Qel (fun r hh => hr r (List.mem_cons_of_mem _ hh)) h2⟩
where
 flat_shallow : ∀ {c : CK}, c.flat = true → c.shallow = true
 | .unit, _ | .int _, _ | .bool, _ | .str, _ | .arr _ _, _ => rfl
 | .any, h => by simp [CK.flat] at h
 | .sl _ _, h => by simp [CK.flat] at h
 | .pair a b, h => by
  simp only [CK.flat, Zd] at h
  simp only [CK.shallow, flat_shallow h.1, flat_shallow h.2, Bool.and_self]
 part_shallow {S S' : Nat → Prop} {w : World} {r : CK × Bool} {x : r.1.T} {l : List Value} {rows : List Row} (hr : (r.1.flat || (r.2 && r.1.shallow)) = true) (h : Qcz w S r x l rows) : Qcz w S' r x l rows := by
  unfold Qcz at h ⊢
  cases ho : r.2 with
  | true =>
   simp only [ho, if_true, Bool.true_and, Bool.or_eq_true] at h hr ⊢
   exact Qfp (hr.elim flat_shallow id) h
  | false =>
   simp only [ho, Bool.false_eq_true, if_false, Bool.false_and, Bool.or_false] at h hr ⊢
   exact ⟨Qho hr h.1, h.2⟩
def Emb.lent (m : Emb) (ids : List Id) : Nat → Prop := fun b => m.S b ∨ ∃ id ∈ ids, m.row id = some b
section
variable {E : Env} {base : Nat} {Mod : Nat → Prop} {w0 : Org} {m : Emb} {st : St} {a : Act} {w : World} {key : Nat} {o : Oper} {R : Type} {r : R}
theorem Qdo {α β : Type} (f : α → Option β) : ∀ {l : List α}, l.Nodup → (∀ x y b, x ∈ l → y ∈ l → f x = some b → f y = some b → x = y) → (l.filterMap f).Nodup
 | [], _, _ => List.nodup_nil
 | x :: l, h, hf => by
  obtain ⟨h1, h2⟩ := List.nodup_cons.1 h
  have ih := Qdo f h2 fun x y b hx hy => hf x y b (List.mem_cons_of_mem _ hx) (List.mem_cons_of_mem _ hy)
  rw [List.filterMap_cons]
  split
  ·exact ih
  ·rename_i b hb
   refine List.nodup_cons.2 ⟨fun hm => ?_, ih⟩
   obtain ⟨y, hy, hyb⟩ := List.mem_filterMap.1 hm
   have := hf x y b (by simp) (List.mem_cons_of_mem _ hy) hb hyb
   exact h1 (this ▸ hy)
theorem Qlj {α β : Type} (f : α → β) {l : List α} (h : l.Nodup) (hf : ∀ x y, x ∈ l → y ∈ l → f x = f y → x = y) : (l.map f).Nodup := by
 have := Qdo (fun x => some (f x)) h fun x y b hx hy h1 h2 => hf x y hx hy (by rw [← h2] at h1; injection h1)
 simpa using this
theorem Qjj (hm : Qht m st w base Mod) {rs : List (CK × Bool)} {ls : List (List AC)} {x : (CK.pairs (rs.map (·.1))).T} {vss : List (List Value)} (hp : Qbs st rs ls = true) (hx : Qcb rs ls = some x) (hr : All2 (All2 (RelAC m st w)) ls vss) :
  ∃ rows, Qaz w (m.lent (roIds rs ls)) rs x vss rows ∧ (Blks rows).Nodup ∧ (∀ b ∈ Blks rows, ∃ id ∈ Qao rs ls, m.row id = some b) ∧
   (∀ b, m.lent (roIds rs ls) b → b < w.heap.size) ∧
   (∀ b ∈ Blks rows, ¬ m.lent (roIds rs ls) b ∧ b < w.heap.size ∧ (base ≤ b ∨ Mod b) ∧ ∀ k, (st.box k).isSome = true → m.bl k ≠ b) ∧
   (∀ k, (st.box k).isSome = true → ¬ m.lent (roIds rs ls) (m.bl k)) ∧ (∀ id ∈ roIds rs ls, st.dead id = false ∧ st.used id.1 = true) ∧ (∀ id ∈ Qao rs ls, st.dead id = false ∧ st.used id.1 = true) := by
 obtain ⟨h1, h2, h3, h4⟩ := Qhd hp
 have hfr : ∀ (rs : List (CK × Bool)) (ls : List (List AC)) (vss : List (List Value)), ls.all st.fresh = true → All2 (All2 (RelAC m st w)) ls vss → (∀ id ∈ roIds rs ls, st.dead id = false ∧ st.used id.1 = true) ∧ (∀ id ∈ Qao rs ls, st.dead id = false ∧ st.used id.1 = true) := by
  intro rs
  induction rs with
  | nil => intro ls vss _ _; simp [roIds, Qao]
  | cons r rs ih =>
   intro ls vss hl hr
   match ls, vss, hr with
   | [], _, _ => simp [roIds, Qao]
   | l :: ls, vs :: vss, hr =>
    simp only [List.all_cons, Zd] at hl
    obtain ⟨i1, i2⟩ := ih ls vss hl.2 hr.2
    have hd := Qdh hl.1
    have hu := Qkc hr.1
    refine ⟨fun id hi => ?_, fun id hi => ?_⟩
    ·simp only [roIds, List.mem_append] at hi
     rcases hi with hi | hi
     ·split at hi
      ·simp at hi
      ·exact ⟨hd id hi, hu id hi⟩
     ·exact i1 id hi
    ·simp only [Qao, List.mem_append] at hi
     rcases hi with hi | hi
     ·split at hi
      ·exact ⟨hd id hi, hu id hi⟩
      ·simp at hi
     ·exact i2 id hi
   | _ :: _, [], hr => exact hr.elim
 obtain ⟨hro, hown⟩ := hfr rs ls vss h1 hr
 obtain ⟨rows, g1, g2⟩ := Qjo (S' := m.lent (roIds rs ls)) (fun b h => .inl h) hx hr h1 h2 (fun id hi b hb => .inr ⟨id, hi, hb⟩)
 have hmem : ∀ b ∈ Blks rows, ∃ id ∈ Qao rs ls, m.row id = some b := fun b hb => by
  obtain ⟨id, h5, h6⟩ := List.mem_filterMap.1 (g2.subset hb); exact ⟨id, h5, h6⟩
 refine ⟨rows, g1, ?_, hmem, ?_, ?_, ?_, hro, hown⟩
 ·exact g2.nodup (Qdo _ h4 fun x y b hx hy h5 h6 => hm.rowI x y b h5 h6 (h3 x hx).1 (h3 y hy).1)
 ·intro b hb
  rcases hb with hb | ⟨id, hi, hb⟩
  ·exact hm.S b hb
  ·exact (hm.row id b hb (hro id hi).1).1
 ·intro b hb
  obtain ⟨id, hi, hid⟩ := hmem b hb
  obtain ⟨d1, d2, d3⟩ := h3 id hi
  obtain ⟨q1, q2, q3⟩ := hm.row id b hid d1
  refine ⟨?_, q1, q2, q3⟩
  rintro (hs | ⟨id', hi', hb'⟩)
  ·have := (hm.rowS id b hid d1).1 hs
   rw [d2] at this; cases this
  ·have := hm.rowI id id' b hid hb' d1 (hro id' hi').1
   exact d3 (this ▸ hi')
 ·intro k hk hl
  rcases hl with hs | ⟨id, hi, hb⟩
  ·exact (hm.boxS k hk).1 hs
  ·exact (hm.row id _ hb (hro id hi).1).2.2 k hk rfl
theorem Frm.trans {base : Nat} {Mod Mod' : Nat → Prop} {w0 w w' : World} (h : Frm base Mod w0 w) (h' : Frm w.heap.size Mod' w w') (hM : ∀ b, Mod' b → base ≤ b ∨ Mod b) : Frm base Mod w0 w' where
 os := h'.os.trans h.os
 tape := h'.tape.trans h.tape
 output := h'.output.trans h.output
 at0 := h.at0
 size := Nat.le_trans h.size h'.size
 block k hk hm := by
  rw [h'.block k (by have := h.size; rw [← h.at0] at this; omega) (fun hc => by rcases hM k hc with h1 | h1; omega; exact hm h1), h.block k hk hm]
theorem Qce {rows : List Row} {j : Nat} {b : Nat} (h : (rows[j]?).bind (·.1) = some b) : b ∈ Blks rows := by
 obtain ⟨p, hp, hb⟩ := Option.bind_eq_some_iff.1 h
 exact List.mem_filterMap.2 ⟨p, List.mem_of_getElem? hp, hb⟩
theorem Qkn : ∀ {rows : List Row} {i j b : Nat}, (Blks rows).Nodup → (rows[i]?).bind (·.1) = some b → (rows[j]?).bind (·.1) = some b → i = j
 | [], i, j, b, _, h, _ => by simp at h
 | p :: rows, i, j, b, hn, h1, h2 => by
  have htail : (Blks rows).Nodup := by
   unfold Blks at hn ⊢
   rw [List.filterMap_cons] at hn
   split at hn
   ·exact hn
   ·exact (List.nodup_cons.1 hn).2
  have hne : p.1 = some b → b ∉ Blks rows := fun hp => by
   unfold Blks at hn ⊢
   rw [List.filterMap_cons, hp] at hn
   exact (List.nodup_cons.1 hn).1
  cases i with
  | zero => cases j with
   | zero => rfl
   | succ j =>
    simp only [List.getElem?_cons_zero, Zo, List.getElem?_cons_succ] at h1 h2
    exact absurd (Qce h2) (hne h1)
  | succ i => cases j with
   | zero =>
    simp only [List.getElem?_cons_zero, Zo, List.getElem?_cons_succ] at h1 h2
    exact absurd (Qce h1) (hne h2)
   | succ j =>
    simp only [List.getElem?_cons_succ] at h1 h2
    rw [Qkn htail h1 h2]
theorem Qhk {rows : List Row} {id : Id} {b : Nat} (hb : (m.withRows key rows).row id = some b) : (id.1 ≠ key ∧ m.row id = some b) ∨ (id.1 = key ∧ (rows[id.2]?).bind (·.1) = some b) := by
 simp only [Emb.withRows] at hb
 split at hb
 ·rename_i he; exact .inr ⟨he, hb⟩
 ·rename_i he; exact .inl ⟨he, hb⟩
theorem Qdw {rows : List Row} (j : Nat) (p : Row) (hp : rows[j]? = some p) : (m.withRows key rows).row (key, 0 + j) = p.1 ∧ (m.withRows key rows).val (key, 0 + j) = p.2 := by
 simp [Emb.withRows, hp]
end
end
section
section
variable {E : Env} {base : Nat} {Mod : Nat → Prop} {w0 : Org} {m : Emb} {st : St} {a : Act} {w : World} {key : Nat} {o : Oper} {R : Type} {r : R}
theorem Qov {w : World} {S : Nat → Prop} : ∀ {rs : List (CK × Bool)} {x : (CK.pairs (rs.map (·.1))).T} {l : List (List Value)} {rows : List Row}, (∀ r ∈ rs, r.2 = false) → Qaz w S rs x l rows → rows = []
 | [], _, _, _, _, h => h.2
 | [r], _, _, _, hr, h => by
  obtain ⟨vs, h1, h2⟩ := h
  unfold Qcz at h2
  rw [hr r (by simp)] at h2
  simp only [Bool.false_eq_true, if_false] at h2
  exact h2.2
 | r :: q :: l, x, _, _, hr, h => by
  obtain ⟨vs, vss', r1, r2, rfl, rfl, h1, h2⟩ := h
  unfold Qcz at h1
  rw [hr r (by simp)] at h1
  simp only [Bool.false_eq_true, if_false] at h1
  rw [h1.2, Qov (fun r hh => hr r (List.mem_cons_of_mem _ hh)) h2]; rfl
theorem Qnh {w : World} : ∀ {ps : List PK} {vs : List Value} {vo : List (List Value)}, (ps.all (fun | .box _ _ own rw => !own && !rw | .lent _ _ => false | .give _ _ => false | .clo _ _ _ _ => true | .val _ _ => true)) = true → Qbb w ps vs vo → vo = [] ∧ Qab ps vs = []
 | [], [], _, _, h => ⟨h, rfl⟩
 | [], _ :: _, _, _, h => h.elim
 | .val _ _ :: _, [], _, _, h => h.elim
 | .lent _ _ :: _, _, _, hq, _ => by simp at hq
 | .give _ _ :: _, _, _, hq, _ => by simp at hq
 | .clo _ _ _ _ :: _, [], _, _, h => h.elim
 | .clo _ _ _ _ :: ps, _ :: vs, vo, hq, h => by
  simp only [List.all_cons, Bool.true_and] at hq
  simpa [Qab] using Qnh hq (by simpa [Qbb] using h)
 | .box _ _ _ _ :: _, [], _, _, h => h.elim
 | .val _ _ :: ps, _ :: vs, vo, hq, h => by
  simp only [List.all_cons, Bool.true_and] at hq
  simpa [Qab] using Qnh hq (by simpa [Qbb] using h)
 | .box _ _ own rw :: ps, _ :: vs, vo, hq, h => by
  simp only [List.all_cons, Zd, Bool.not_eq_true'] at hq
  obtain ⟨⟨_, rfl⟩, hq⟩ := hq
  simpa [Qab] using Qnh hq (by simpa [Qbb] using h)
theorem Qox {s : Sig} (h : s.quiet = true) : (∀ r ∈ s.ins, r.2 = false) ∧ (∀ r ∈ s.outs, (r.1.flat || (r.2 && r.1.shallow)) = true) := by
 unfold Sig.quiet at h
 simp only [Zd, List.all_eq_true] at h
 obtain ⟨h1, h2⟩ := h
 refine ⟨fun r hr => ?_, fun r hr => ?_⟩
 ·unfold Sig.ins at hr
  obtain ⟨p, hp, rfl⟩ := List.mem_map.1 hr
  have := h1 p hp
  cases p with
  | val agg c => rfl
  | lent agg c => simp at this
  | give agg c => simp at this
  | clo f fst t c => rfl
  | box t c own rw => simp at this; simp [this.1]
 ·unfold Sig.outs at hr
  rcases List.mem_append.1 hr with hr | hr
  ·obtain ⟨p, hp, rfl⟩ := List.mem_map.1 hr
   exact h2 p hp
  ·obtain ⟨p, hp, hpr⟩ := List.mem_filterMap.1 hr
   have := h1 p hp
   cases p with
   | val agg c => simp at hpr
   | lent agg c => simp at this
   | give agg c => simp at this
   | clo f fst t c => simp at hpr
   | box t c own rw => cases rw <;> simp at this hpr
theorem Qhx (c : Call) (a : Act) : (c.args.toList.map a.eval).toArray = c.args.map a.eval := by
 apply Array.toList_inj.1; simp
theorem Qgl (hE : ∀ g f, E.fns g = some f → FnOk E.P E.k g f) {avs : List AV} {vals : List Value} {g : FuncId} {K : AV → Option R} (hvals : All2 (RelAV m st w) avs vals)
  (henter : ∀ {fn : Func} {cd : Code}, E.P.funcs[g]? = some fn → (fn.name == "runtime.NumGoroutine") = false → fn.body = some cd → (execOp a.eval o).run E.P w = .ok (.enter g vals.toArray) w)
  (h : Rel E.F base Mod w0 m st a w) (hu : st.used key = false)
  (hK : callQ E key st g avs K = some r) {next : Act → World → Prop} {Q : Exit → Act → World → Prop}
  (hn : ∀ m' av v w', Rel E.F base Mod w0 m' (st.use key) a w' → RelAV m' (st.use key) w' av v → K av = some r → next (a.put o.dst v) w') : o.wp E.P a w next Q := by
 unfold callQ at hK
 split at hK
 ·cases hK
 rename_i f hf
 split at hK
 case isFalse => cases hK
 rename_i hq
 simp only [Zd] at hq
 obtain ⟨hquiet, hdist⟩ := hq
 split at hK
 ·cases hK
 rename_i ls hls
 split at hK
 case isFalse => cases hK
 rename_i hp
 split at hK
 case h_2 => cases hK
 rename_i x hx
 obtain ⟨y, hy, hK⟩ := Option.bind_eq_some_iff.1 hK
 obtain ⟨fn, cd, hfn, hname, hb⟩ := (hE g f hf).there
 unfold Oper.wp
 rw [henter hfn hname hb, Oper.upon_enter]
 have hm := h.mem
 obtain ⟨vss, ha1, ha2, ha3, ha4, ha5, ha6, ha7, ha8, ha9⟩ := Qhn hm hls hvals
 obtain ⟨rows, b1, b2, b3, b4, b5, b6, b7, b8⟩ := Qjj hm hp hx ha2
 obtain ⟨hsep1, hsep2⟩ := Qnm hm hdist ha4 ha6 ha7 ha8 ha9 (Qlj _) Qcd
 refine ((hE g f hf).run w _ _ vss rows x y hy ha1 b1 b4 hsep1 hsep2 ?_ b2 ?_ (h.globOk.mono (fun b hb => .inl hb) fun _ _ => rfl)).mono ?_
 ·rw [ha3]
  intro b hb
  obtain ⟨k, hk, rfl⟩ := List.mem_map.1 hb
  exact b6 k (ha4 k hk)
 ·intro b hb
  refine ⟨(b5 b hb).1, (b5 b hb).2.1, ?_⟩
  rw [ha3]
  intro hb'
  obtain ⟨k, hk, he⟩ := List.mem_map.1 hb'
  exact (b5 b hb).2.2.2 k (ha4 k hk) he
 ·rintro e w' ⟨rv, S', vr, vo, rows', rfl, hfrm, hS1, hS2, hS3, hparts, hres, houts, hnd, hblk⟩
  obtain ⟨q1, q2⟩ := Qox hquiet
  obtain rfl := Qov q1 b1
  have hqp : (f.sig.params.all (fun | .box _ _ own rw => !own && !rw | .lent _ _ => false | .give _ _ => false | .clo _ _ _ _ => true | .val _ _ => true)) = true := by
   unfold Sig.quiet at hquiet
   simp only [Zd] at hquiet
   exact hquiet.1
  obtain ⟨rfl, hrw⟩ := Qnh hqp houts
  have hsame : ∀ b, b < w.heap.size → w'.heap[b]? = w.heap[b]? := fun b hb => hfrm.block b hb (by rw [hrw]; simp [Blks])
  have hfresh : ∀ b ∈ Blks rows', ¬ S' b ∧ b < w'.heap.size ∧ w.heap.size ≤ b := fun b hb => by
   obtain ⟨h1, h2, _, h3⟩ := hblk b hb
   exact ⟨h1, h2, by simpa [Blks] using h3⟩
  have hlat : Later m st w (m.withRows key rows') (st.use key) w' := by
   refine ⟨fun _ h => h, fun b hb => hsame b (hm.S b hb), fun k hk => by simp [St.use, hk], fun id h1 h2 => ?_, fun k hk => ⟨hk, rfl⟩⟩
   have hne : id.1 ≠ key := fun he => by rw [he, hu] at h1; cases h1
   refine ⟨h2, by simp [Emb.withRows, hne], by simp [Emb.withRows, hne], fun b hb => hsame b (hm.row id b hb h2).1⟩
  have hrow := fun (id : Id) (b : Nat) => Qhk (m := m) (key := key) (rows := rows') (id := id) (b := b)
  have hdk : ∀ id : Id, id.1 = key → st.dead id = false ∧ st.ice id = false := fun id he => by
   constructor
   ·cases hd : st.dead id with
    | false => rfl
    | true => have := hm.deadU id hd; rw [he, hu] at this; cases this
   ·cases hd : st.ice id with
    | false => rfl
    | true => have := hm.iceU id hd; rw [he, hu] at this; cases this
  have hrel : Rel E.F base Mod w0 (m.withRows key rows') (st.use key) a w' := by
   refine ⟨h.defers, h.size, fun t => RelAV.later hlat (h.slot t), ⟨?_, hm.boxS, hm.boxI, ?_, ?_, ?_, ?_, ?_, ?_, ?_, ?_⟩, h.frm.trans hfrm (by rw [hrw]; simp [Blks]), h.fix, h.glob⟩
   ·intro k T l hk
    obtain ⟨arr, h1, h2⟩ := hm.box k T l hk
    refine ⟨arr, ?_, RelAC.laters hlat h2⟩
    rw [← h1]
    exact hsame _ (by rcases Nat.lt_or_ge (m.bl k) w.heap.size with h | h; exact h; simp [Array.getElem?_eq_none h] at h1)
   ·intro k hk; simp [St.use, hm.boxU k hk]
   ·intro id b hb hd
    rcases hrow id b hb with ⟨h1, h2⟩ | ⟨h1, h2⟩
    ·obtain ⟨p1, p2, p3⟩ := hm.row id b h2 hd
     exact ⟨Nat.lt_of_lt_of_le p1 hfrm.size, p2, p3⟩
    ·obtain ⟨p1, p2, p3⟩ := hfresh b (Qce h2)
     refine ⟨p2, .inl (by rw [h.frm.at0]; exact Nat.le_trans h.frm.size p3), fun k hk he => ?_⟩
     cases hbx : st.box k with
     | none => rw [show (st.use key).box k = st.box k from rfl, hbx] at hk; cases hk
     | some x =>
      obtain ⟨arr, h4, _⟩ := hm.box k x.1 x.2 hbx
      rw [show m.bl k = b from he, Array.getElem?_eq_none p3] at h4
      cases h4
   ·intro id id' b hb hb' hd hd'
    rcases hrow id b hb with ⟨h1, h2⟩ | ⟨h1, h2⟩ <;> rcases hrow id' b hb' with ⟨h3, h4⟩ | ⟨h3, h4⟩
    ·exact hm.rowI id id' b h2 h4 hd hd'
    ·have := (hm.row id b h2 hd).1
     have := (hfresh b (Qce h4)).2.2
     omega
    ·have := (hm.row id' b h4 hd').1
     have := (hfresh b (Qce h2)).2.2
     omega
    ·exact Prod.ext (h1.trans h3.symm) (Qkn hnd h2 h4)
   ·intro id b hb hd
    rcases hrow id b hb with ⟨h1, h2⟩ | ⟨h1, h2⟩
    ·exact hm.rowS id b h2 hd
    ·have hf := hfresh b (Qce h2)
     constructor
     ·intro hs; have := hm.S b hs; omega
     ·intro hi; rw [show (st.use key).ice id = st.ice id from rfl, (hdk id h1).2] at hi; cases hi
   ·intro id b hb
    rcases hrow id b hb with ⟨h1, h2⟩ | ⟨h1, h2⟩
    ·simp [St.use, hm.rowU id b h2]
    ·simp [St.use, h1]
   ·intro b hb; exact Nat.lt_of_lt_of_le (hm.S b hb) hfrm.size
   ·intro id hi; simp [St.use, hm.iceU id hi]
   ·intro id hi; simp [St.use, hm.deadU id hi]
  have hparts2 : Qaz w' (m.withRows key rows').S f.sig.outs y (vr ++ []) rows' := Qel q2 hparts
  have hab := Qeb (m := m.withRows key rows') (st := st.use key) (key := key) (by simp [St.use]) 0 hparts2 (fun j p hp => Qdw j p hp)
  obtain ⟨_, _, _, _⟩ := hrel.frm
  refine hn _ _ _ _ hrel ?_ hK
  have := Qpa (lo := []) hres (by simpa using hab)
  simpa using this
theorem Qmb (hE : ∀ g f, E.fns g = some f → FnOk E.P E.k g f) {c : Call} {g : FuncId} {K : AV → Option R} (ho : o.op = .call c) (hc : c.callee = .value (.func g)) (h : Rel E.F base Mod w0 m st a w) (hu : st.used key = false)
  (hK : callQ E key st g (c.args.toList.map (opnd st)) K = some r) {next : Act → World → Prop} {Q : Exit → Act → World → Prop}
  (hn : ∀ m' av v w', Rel E.F base Mod w0 m' (st.use key) a w' → RelAV m' (st.use key) w' av v → K av = some r → next (a.put o.dst v) w') : o.wp E.P a w next Q :=
 Qgl hE (Qct h c.args.toList) (fun hfn hname hb => by rw [Qim ho hc hfn hname hb, ← Qhx]) h hu hK hn
theorem Qjx : ∀ {caps : List (Nat × Nat)}, (∀ p ∈ caps, (st.box p.1).isSome = true) → All2 (RelAV m st w) (caps.map fun p => .one (.ptr p.1 p.2)) (caps.map (ptrV m))
 | [], _ => trivial
 | p :: l, h => ⟨⟨h p (by simp), rfl⟩, Qjx fun q hq => h q (by simp [hq])⟩
theorem Qmc (hE : ∀ g f, E.fns g = some f → FnOk E.P E.k g f) {c : Call} {g : FuncId} {t : Nat} {fst : Bool} {caps : List (Nat × Nat)} {K : AV → Option R} (ho : o.op = .call c) (hc : c.callee = .value (.tmp t)) (ht : st.slot t = .one (.fn g fst caps)) (h : Rel E.F base Mod w0 m st a w) (hu : st.used key = false)
  (hK : callQ E key st g (cond fst (caps.map (fun p => .one (.ptr p.1 p.2)) ++ c.args.toList.map (opnd st)) (c.args.toList.map (opnd st) ++ caps.map fun p => .one (.ptr p.1 p.2))) K = some r) {next : Act → World → Prop} {Q : Exit → Act → World → Prop}
  (hn : ∀ m' av v w', Rel E.F base Mod w0 m' (st.use key) a w' → RelAV m' (st.use key) w' av v → K av = some r → next (a.put o.dst v) w') : o.wp E.P a w next Q := by
 have hx := h.slot t
 rw [ht] at hx
 obtain ⟨h1, h2⟩ := hx
 cases fst with
 | false =>
  refine Qgl hE (All2.append (Qct h c.args.toList) (Qjx h1)) (fun hfn hname hb => ?_) h hu hK hn
  rw [Qge ho hc (show a.eval (.tmp t) = _ from h2) hfn hname hb]
  congr 2
  apply Array.toList_inj.1; simp
 | true =>
  refine Qgl hE (All2.append (Qjx h1) (Qct h c.args.toList)) (fun hfn hname hb => ?_) h hu hK hn
  rw [Qge ho hc (show a.eval (.tmp t) = _ from h2) hfn hname hb]
  congr 2
  apply Array.toList_inj.1; simp
end
end
section
section
variable {E : Env} {base : Nat} {Mod : Nat → Prop} {w0 : Org} {m : Emb} {st : St} {a : Act} {w : World} {key : Nat} {o : Oper} {R : Type} {r : R}
theorem Qbe (st : St) (key : Nat) : ∀ (ps : List PK) (avs : List AV), Qah (st.use key) ps avs = Qah st ps avs
 | [], [] => rfl
 | p :: ps, v :: vs => by
  simp only [Qah, Qbe st key ps vs]
  rfl
 | [], _ :: _ => rfl
 | _ :: _, [] => rfl
theorem Qfq (st : St) (key : Nat) (rs : List (CK × Bool)) (ls : List (List AC)) : Qbs (st.use key) rs ls = Qbs st rs ls := rfl
theorem Qkv {K : AV → Option R} {g : FuncId} {args : List AV} : callQ E key (st.use key) g args K = callQ E key st g args K := by
 unfold callQ
 simp only [Qbe]
 rfl
theorem Qmd (hE : ∀ g f, E.fns g = some f → FnOk E.P E.k g f) {c : Call} {g : FuncId} {K : AV → St → Option R} (ho : o.op = .call c) (hc : c.callee = .value (.func g)) (h : Rel E.F base Mod w0 m st a w) (hu : st.used key = false)
  (hK : callW E key (st.use key) g (c.args.toList.map (opnd st)) K = some r) {next : Act → World → Prop} {Q : Exit → Act → World → Prop}
  (hn : ∀ m' st' av v w', Rel E.F base Mod w0 m' st' a w' → RelAV m' st' w' av v → K av st' = some r → next (a.put o.dst v) w') : o.wp E.P a w next Q := by
 unfold callW at hK
 split at hK
 ·cases hK
 rename_i f hf
 split at hK
 case isFalse => cases hK
 rename_i hdist
 split at hK
 ·cases hK
 rename_i ls hls
 rw [Qbe] at hls
 split at hK
 case isFalse => cases hK
 rename_i hp
 rw [Qfq] at hp
 split at hK
 case h_2 => cases hK
 rename_i x hx
 obtain ⟨y, hy, hK⟩ := Option.bind_eq_some_iff.1 hK
 obtain ⟨fn, cd, hfn, hname, hb⟩ := (hE g f hf).there
 unfold Oper.wp
 rw [Qim ho hc hfn hname hb, ← Qhx, Oper.upon_enter]
 have hm := h.mem
 obtain ⟨vss, ha1, ha2, ha3, ha4, ha5, ha6, ha7, ha8, ha9⟩ := Qhn hm hls (Qct h c.args.toList)
 obtain ⟨rows, b1, b2, b3, b4, b5, b6, b7, b8⟩ := Qjj hm hp hx ha2
 obtain ⟨_, _, ok3, _⟩ := Qhd hp
 have hnod : (rwNos f.sig.params (c.args.toList.map (opnd st))).Nodup := by unfold Qlq at hdist; simp only [Zd] at hdist; exact Qcd hdist.1
 obtain ⟨hsep1, hsep2⟩ := Qnm hm hdist ha4 ha6 ha7 ha8 ha9 (Qlj _) Qcd
 refine ((hE g f hf).run w _ _ vss rows x y hy ha1 b1 b4 hsep1 hsep2 ?_ b2 ?_ (h.globOk.mono (fun b hb => .inl hb) fun _ _ => rfl)).mono ?_
 ·rw [ha3]
  intro b hb
  obtain ⟨k, hk, rfl⟩ := List.mem_map.1 hb
  exact b6 k (ha4 k hk)
 ·intro b hb
  refine ⟨(b5 b hb).1, (b5 b hb).2.1, ?_⟩
  rw [ha3]
  intro hb'
  obtain ⟨k, hk, he⟩ := List.mem_map.1 hb'
  exact (b5 b hb).2.2.2 k (ha4 k hk) he
 ·rintro e w' ⟨rv, S', vr, vo, rows', rfl, hfrm, hS1, hS2, hS3, hparts, hres, houts, hnd, hblk⟩
  obtain ⟨S2, hS1, hS2, hS3, hparts, hblk, b6, b7⟩ : ∃ S2 : Nat → Prop, (∀ b, m.lent (f.sig.cold ls) b → S2 b) ∧ (∀ b, S2 b → m.lent (f.sig.cold ls) b ∨ b ∈ Blks rows ∨ w.heap.size ≤ b) ∧ (∀ b, S2 b → b < w'.heap.size) ∧
    Qaz w' S2 f.sig.outs y (vr ++ vo) rows' ∧ (∀ b ∈ Blks rows', ¬ S2 b ∧ b < w'.heap.size ∧ b ∉ Qae f.sig.params (c.args.toList.map a.eval) ∧ (b ∈ Blks rows ∨ w.heap.size ≤ b)) ∧
    (∀ k, (st.box k).isSome = true → ¬ m.lent (f.sig.cold ls) (m.bl k)) ∧ (∀ id ∈ f.sig.cold ls, st.dead id = false ∧ st.used id.1 = true) := by
   unfold Sig.cold
   split
   ·rename_i hq
    have hq : ∀ r ∈ f.sig.outs, (r.1.flat || (r.2 && r.1.shallow)) = true := List.all_eq_true.1 hq
    have hlm : ∀ b, m.lent [] b ↔ m.S b := fun b => by simp [Emb.lent]
    refine ⟨m.S, fun b hb => (hlm b).1 hb, fun b hb => .inl ((hlm b).2 hb), fun b hb => Nat.lt_of_lt_of_le (hm.S b hb) hfrm.size, Qel hq hparts, fun b hb => ?_, fun k hk hl => (hm.boxS k hk).1 ((hlm _).1 hl), by simp⟩
    obtain ⟨h1, h2⟩ := hblk b hb
    exact ⟨fun hs => h1 (hS1 b (.inl hs)), h2⟩
   ·exact ⟨S', hS1, hS2, hS3, hparts, hblk, b6, b7⟩
  -- the state behind the call
  generalize hpairs : Qaj f.sig.params (c.args.toList.map (opnd st)) ((Qat f.sig.outs y (key, 0)).drop f.sig.res.length) = pairs at hK
  have hst3 : ((st.use key).killAll (Qao f.sig.ins ls)).freezeAll (f.sig.cold ls) = { st with used := (st.use key).used, dead := fun n => st.dead n || (Qao f.sig.ins ls).contains n, ice := fun n => st.ice n || (f.sig.cold ls).contains n } := by
   rw [Qjl, Qag]; rfl
  rw [hst3] at hK
  generalize hrens : Qau f.sig.params ls ((Qat f.sig.outs y (key, 0)).drop f.sig.res.length) = rens at hK
  generalize hst3' : St.ren { st with used := (st.use key).used, dead := fun n => st.dead n || (Qao f.sig.ins ls).contains n, ice := fun n => st.ice n || (f.sig.cold ls).contains n } rens = st3 at hK
  have e3 := Qrd { st with used := (st.use key).used, dead := fun n => st.dead n || (Qao f.sig.ins ls).contains n, ice := fun n => st.ice n || (f.sig.cold ls).contains n } rens
  rw [hst3'] at e3
  generalize hst4 : St.setBoxes st3 pairs = st4 at hK
  have e4 := Qir pairs st3
  rw [hst4] at e4
  have eslot : ∀ t, st4.slot t = st.slot t ∨ st4.slot t = (st.slot t).ren rens := fun t => by
   rw [show st4.slot = st3.slot by rw [e4], ← hst3']
   exact Qpp _ _ t
  have ebox3 : ∀ b, st3.box b = st.box b ∨ st3.box b = (st.box b).map fun q => (q.1, q.2.map (AC.ren rens)) := fun b => by
   rw [← hst3']
   exact Qqk _ _ b
  have ebs3 : ∀ b, (st3.box b).isSome = (st.box b).isSome := fun b => by
   rcases ebox3 b with h | h <;> rw [h]
   simp
  have edead : st4.dead = fun n => st.dead n || (Qao f.sig.ins ls).contains n := by rw [e4, e3]
  have eice : st4.ice = fun n => st.ice n || (f.sig.cold ls).contains n := by rw [e4, e3]
  have eused : st4.used = (st.use key).used := by rw [e4, e3]
  have elock : st4.lock = st.lock := by rw [e4, e3]
  have hdead : ∀ id, st4.dead id = false → st.dead id = false ∧ id ∉ Qao f.sig.ins ls := fun id hi => by
   rw [edead] at hi
   simp only [Bool.or_eq_false_iff] at hi
   exact ⟨hi.1, fun hm => by rw [List.contains_iff_mem.2 hm] at hi; cases hi.2⟩
  have hused : ∀ k, st.used k = true → st4.used k = true := fun k hk => by rw [eused]; simp [St.use, hk]
  have husedk : st4.used key = true := by rw [eused]; simp [St.use]
  generalize hm' : ({ m.withRows key rows' with S := S2 } : Emb) = m'
  have mrow : m'.row = (m.withRows key rows').row := by rw [← hm']
  have mval : m'.val = (m.withRows key rows').val := by rw [← hm']
  have mbl : m'.bl = m.bl := by rw [← hm']; rfl
  have mS : m'.S = S2 := by rw [← hm']
  have hab := Qeb (m := m') (st := st4) (key := key) husedk 0 (by rw [mS]; exact hparts) (fun j p hp => by rw [mrow, mval]; exact Qdw j p hp)
  have hrl : vr.length = f.sig.res.length := hres.length
  have hab1 : All2 (All2 (RelAC m' st4 w')) ((Qat f.sig.outs y (key, 0)).take f.sig.res.length) vr := by
   have := All2.take f.sig.res.length hab
   rwa [show (vr ++ vo).take f.sig.res.length = vr by rw [← hrl, List.take_left]] at this
  have hab2 : All2 (All2 (RelAC m' st4 w')) ((Qat f.sig.outs y (key, 0)).drop f.sig.res.length) vo := by
   have := All2.drop f.sig.res.length hab
   rwa [show (vr ++ vo).drop f.sig.res.length = vo by rw [← hrl, List.drop_left]] at this
  have hrn := Qbu (m := m) (m' := m') hls (Qct h c.args.toList) houts hab2
  rw [hrens] at hrn
  have hrf : ∀ p ∈ rens, st.dead p.1 = false ∧ RelAC m' st4 w' p.2 (m.val p.1) := fun p hp => by
   obtain ⟨i1, i2⟩ := hrn p hp
   have hd := (b8 p.1 i1).1
   exact ⟨hd, i2 hd⟩
  obtain ⟨o1, o2, o3⟩ := Qek (m := m) (m' := m') (fun k => by rw [mbl]) hls (Qct h c.args.toList) houts hab2
  rw [hpairs] at o1 o2 o3
  have hpn : (pairs.map (·.1)).Nodup := o2.nodup hnod
  have hbs : ∀ k, (st4.box k).isSome = true ↔ (st.box k).isSome = true := fun k => by
   by_cases hk : k ∈ pairs.map (·.1)
   ·obtain ⟨p, hp, rfl⟩ := List.mem_map.1 hk
    have := Qez pairs st3 p.1 p.2 hpn hp
    rw [hst4] at this
    rw [this]
    simp [ha4 p.1 (ha8 p.1 (o2.subset (List.mem_map.2 ⟨p, hp, rfl⟩))).1]
   ·have := Qdv pairs st3 k hk
    rw [hst4] at this
    rw [this, ebs3]
  -- what stays
  have hsame : ∀ b, b < w.heap.size → b ∉ Qab f.sig.params (c.args.toList.map a.eval) → b ∉ Blks rows → w'.heap[b]? = w.heap[b]? := fun b hb h1 h2 => hfrm.block b hb (by rintro (h3 | h3); exact h1 h3; exact h2 h3)
  have hrwbox : ∀ b ∈ Qab f.sig.params (c.args.toList.map a.eval), ∃ k, (st.box k).isSome = true ∧ m.bl k = b ∧ st.lock k = false := fun b hb => by
   obtain ⟨k, h1, h2, h3⟩ := ha5 b hb; exact ⟨k, ha4 k h1, h2, h3⟩
  have hrwpair : ∀ b ∈ Qab f.sig.params (c.args.toList.map a.eval), ∀ k, (st.box k).isSome = true → m.bl k = b → k ∈ pairs.map (·.1) := fun b hb k hk he => by
   obtain ⟨p, hp, hpe⟩ := o3 b hb
   have hpr := ha8 p.1 (o2.subset (List.mem_map.2 ⟨p, hp, rfl⟩))
   rcases hm.boxI p.1 k (ha4 p.1 hpr.1) hk (hpe.trans he.symm) with this | hl
   ·exact this ▸ List.mem_map.2 ⟨p, hp, rfl⟩
   ·have := hpr.2; rw [hl.1] at this; cases this
  have hboxlt : ∀ k, (st.box k).isSome = true → m.bl k < w.heap.size := fun k hk => by
   cases hbx : st.box k with
   | none => rw [hbx] at hk; cases hk
   | some x =>
    obtain ⟨arr, h4, _⟩ := hm.box k x.1 x.2 hbx
    rcases Nat.lt_or_ge (m.bl k) w.heap.size with h | h
    ·exact h
    ·rw [Array.getElem?_eq_none h] at h4; cases h4
  have hSkeep : ∀ b, m.S b → b ∉ Qab f.sig.params (c.args.toList.map a.eval) ∧ b ∉ Blks rows := fun b hb =>
   ⟨fun hc => by obtain ⟨k, h1, rfl, _⟩ := hrwbox b hc; exact (hm.boxS k h1).1 hb, fun hc => (b5 b hc).1 (.inl hb)⟩
  have hrowkeep : ∀ id b, m.row id = some b → st4.dead id = false → w'.heap[b]? = w.heap[b]? := fun id b hb hd => by
   obtain ⟨d1, d2⟩ := hdead id hd
   obtain ⟨p1, p2, p3⟩ := hm.row id b hb d1
   refine hsame b p1 (fun hc => ?_) (fun hc => ?_)
   ·obtain ⟨k, h1, h2, _⟩ := hrwbox b hc; exact p3 k h1 h2
   ·obtain ⟨id', h1, h2⟩ := b3 b hc
    have := hm.rowI id id' b hb h2 d1 (b8 id' h1).1
    exact d2 (this ▸ h1)
  have hlat : Later m st w m' st4 w' := by
   refine ⟨fun b hb => by rw [mS]; exact hS1 b (.inl hb), fun b hb => hsame b (hm.S b hb) (hSkeep b hb).1 (hSkeep b hb).2, hused, fun id h1 h2 => ?_, fun k hk => ⟨(hbs k).2 hk, by rw [mbl]⟩⟩
   have hne : id.1 ≠ key := fun he => by rw [he, hu] at h1; cases h1
   refine ⟨(hdead id h2).1, by rw [mrow]; simp [Emb.withRows, hne], by rw [mval]; simp [Emb.withRows, hne], fun b hb => hrowkeep id b hb h2⟩
  have hrow : ∀ (id : Id) (b : Nat), m'.row id = some b → (id.1 ≠ key ∧ m.row id = some b) ∨ (id.1 = key ∧ (rows'[id.2]?).bind (·.1) = some b) := fun id b hb => Qhk (m := m) (key := key) (rows := rows') (id := id) (b := b) (by rw [← mrow]; exact hb)
  have hdk : ∀ id : Id, id.1 = key → st4.ice id = false := fun id he => by
   rw [eice]
   simp only [Bool.or_eq_false_iff]
   constructor
   ·cases hd : st.ice id with
    | false => rfl
    | true => have := hm.iceU id hd; rw [he, hu] at this; cases this
   ·cases hd : (f.sig.cold ls).contains id with
    | false => rfl
    | true => have := (b7 id (List.contains_iff_mem.1 hd)).2; rw [he, hu] at this; cases this
  have hnew : ∀ b ∈ Blks rows', (∃ id ∈ Qao f.sig.ins ls, m.row id = some b) ∨ w.heap.size ≤ b := fun b hb => by
   rcases (hblk b hb).2.2.2 with h1 | h1
   ·exact .inl (b3 b h1)
   ·exact .inr h1
  have hrel : Rel E.F base Mod w0 m' st4 a w' := by
   refine ⟨h.defers, h.size, fun t => (by
    rcases eslot t with e | e <;> rw [e]
    ·exact RelAV.later hlat (h.slot t)
    ·exact RelAV.ren hlat hrf (h.slot t)), ⟨?_, ?_, ?_, ?_, ?_, ?_, ?_, ?_, ?_, ?_, ?_⟩, h.frm.trans hfrm ?_, ⟨by rw [mbl]; exact h.fix.1, fun b hb => by rw [mS]; exact hS1 b (.inl (h.fix.2.1 b hb)), fun b hb => by
    rw [mS] at hb
    rcases hS2 b hb with (h1 | ⟨id, hi, h1⟩) | h1 | h1
    ·exact h.fix.2.2 b h1
    ·exact .inr (hm.row id b h1 (b7 id hi).1).2.1
    ·exact .inr (b5 b h1).2.2.1
    ·exact .inr (.inl (by rw [h.frm.at0]; exact Nat.le_trans h.frm.size h1))⟩, h.glob⟩
   ·intro k T l hk
    by_cases hkp : k ∈ pairs.map (·.1)
    ·obtain ⟨p, hp, rfl⟩ := List.mem_map.1 hkp
     have := Qez pairs st3 p.1 p.2 hpn hp
     rw [hst4, hk] at this
     injection this with heq
     have := o1 p hp
     rw [← heq] at this
     exact this
    ·have := Qdv pairs st3 k hkp
     rw [hst4, hk] at this
     have hks : (st.box k).isSome = true := by rw [← ebs3, ← this]; rfl
     obtain ⟨arr, h1, h2⟩ : ∃ arr, w.heap[m.bl k]? = some (.cells arr T (0, 0)) ∧ All2 (RelAC m' st4 w') l arr.toList := by
      rcases ebox3 k with e | e
      ·rw [e] at this
       obtain ⟨arr, h1, h2⟩ := hm.box k T l this.symm
       exact ⟨arr, h1, RelAC.laters hlat h2⟩
      ·rw [e] at this
       obtain ⟨q, hq, he⟩ := Option.map_eq_some_iff.1 this.symm
       simp only [Prod.mk.injEq] at he
       obtain ⟨arr, h1, h2⟩ := hm.box k q.1 q.2 hq
       rw [he.1] at h1
       rw [← he.2]
       exact ⟨arr, h1, All2.ren hlat hrf h2⟩
     refine ⟨arr, ?_, h2⟩
     rw [mbl, ← h1]
     refine hsame _ (hboxlt k hks) (fun hc => hkp (hrwpair _ hc k hks rfl)) (fun hc => ?_)
     exact (b5 _ hc).2.2.2 k hks rfl
   ·intro k hk
    rw [hbs] at hk
    rw [mbl, mS, elock]
    refine ⟨fun hs => ?_, (hm.boxS k hk).2⟩
    rcases hS2 _ hs with h1 | h1 | h1
    ·exact b6 k hk h1
    ·exact (b5 _ h1).2.2.2 k hk rfl
    ·have := hboxlt k hk; omega
   ·intro k k' hk hk' he
    rw [hbs] at hk hk'
    rw [mbl] at he
    rw [elock]
    exact hm.boxI k k' hk hk' he
   ·intro k hk
    rw [hbs] at hk
    exact hused k (hm.boxU k hk)
   ·intro id b hb hd
    obtain ⟨d1, d2⟩ := hdead id hd
    rcases hrow id b hb with ⟨h1, h2⟩ | ⟨h1, h2⟩
    ·obtain ⟨p1, p2, p3⟩ := hm.row id b h2 d1
     exact ⟨Nat.lt_of_lt_of_le p1 hfrm.size, p2, fun k hk => by rw [mbl]; exact p3 k ((hbs k).1 hk)⟩
    ·have hmem := Qce h2
     obtain ⟨p1, p2, p3, p4⟩ := hblk b hmem
     refine ⟨p2, ?_, fun k hk he => ?_⟩
     ·rcases p4 with p4 | p4
      ·exact (b5 b p4).2.2.1
      ·exact .inl (by rw [h.frm.at0]; exact Nat.le_trans h.frm.size p4)
     ·rw [hbs] at hk
      rw [mbl] at he
      rcases p4 with p4 | p4
      ·exact (b5 b p4).2.2.2 k hk he
      ·have := hboxlt k hk; omega
   ·intro id id' b hb hb' hd hd'
    obtain ⟨d1, d2⟩ := hdead id hd
    obtain ⟨d3, d4⟩ := hdead id' hd'
    rcases hrow id b hb with ⟨h1, h2⟩ | ⟨h1, h2⟩ <;> rcases hrow id' b hb' with ⟨h3, h4⟩ | ⟨h3, h4⟩
    ·exact hm.rowI id id' b h2 h4 d1 d3
    ·rcases hnew b (Qce h4) with ⟨i, hi, hib⟩ | hge
     ·have := hm.rowI id i b h2 hib d1 (b8 i hi).1; exact absurd (this ▸ hi) d2
     ·have := (hm.row id b h2 d1).1; omega
    ·rcases hnew b (Qce h2) with ⟨i, hi, hib⟩ | hge
     ·have := hm.rowI id' i b h4 hib d3 (b8 i hi).1; exact absurd (this ▸ hi) d4
     ·have := (hm.row id' b h4 d3).1; omega
    ·exact Prod.ext (h1.trans h3.symm) (Qkn hnd h2 h4)
   ·intro id b hb hd
    obtain ⟨d1, d2⟩ := hdead id hd
    rw [mS]
    rcases hrow id b hb with ⟨h1, h2⟩ | ⟨h1, h2⟩
    ·rw [eice]
     simp only [Bool.or_eq_true]
     constructor
     ·intro hs
      rcases hS2 b hs with (h3 | ⟨i, hi, hib⟩) | h3 | h3
      ·exact .inl ((hm.rowS id b h2 d1).1 h3)
      ·have := hm.rowI id i b h2 hib d1 (b7 i hi).1
       exact .inr (this ▸ List.contains_iff_mem.2 hi)
      ·obtain ⟨i, hi, hib⟩ := b3 b h3
       have := hm.rowI id i b h2 hib d1 (b8 i hi).1
       exact absurd (this ▸ hi) d2
      ·have := (hm.row id b h2 d1).1; omega
     ·rintro (h3 | h3)
      ·exact hS1 b (.inl ((hm.rowS id b h2 d1).2 h3))
      ·exact hS1 b (.inr ⟨id, List.contains_iff_mem.1 h3, h2⟩)
    ·constructor
     ·intro hs; exact absurd hs (hblk b (Qce h2)).1
     ·intro hi; rw [hdk id h1] at hi; cases hi
   ·intro id b hb
    rcases hrow id b hb with ⟨h1, h2⟩ | ⟨h1, h2⟩
    ·exact hused _ (hm.rowU id b h2)
    ·rw [h1]; exact husedk
   ·intro b hb; rw [mS] at hb; exact hS3 b hb
   ·intro id hi
    rw [eice] at hi
    simp only [Bool.or_eq_true] at hi
    rcases hi with hi | hi
    ·exact hused _ (hm.iceU id hi)
    ·exact hused _ (b7 id (List.contains_iff_mem.1 hi)).2
   ·intro id hi
    rw [edead] at hi
    simp only [Bool.or_eq_true] at hi
    rcases hi with hi | hi
    ·exact hused _ (hm.deadU id hi)
    ·exact hused _ (b8 id (List.contains_iff_mem.1 hi)).2
   ·rintro b (hb | hb)
    ·obtain ⟨k, h1, rfl, h2⟩ := hrwbox b hb
     exact (hm.boxS k h1).2 h2
    ·exact (b5 b hb).2.2.1
  refine hn _ _ _ _ _ hrel ?_ hK
  have := Qpa (lo := (Qat f.sig.outs y (key, 0)).drop f.sig.res.length) hres hab1
  rwa [List.take_append_drop] at this
end
end
section
section
variable {E : Env} {base : Nat} {Mod : Nat → Prop} {w0 : Org} {m : Emb} {st : St} {a : Act} {w : World} {key : Nat} {o : Oper} {R : Type} {r : R}
theorem Qog {t : TypeId} {l : List AC} {arr : Array Value} {b : Nat} (hkey : 1000 ≤ key) (h : Rel E.F base Mod w0 m st a w) (hku : st.used key = true) (hnone : st.box key = none)
  (hb : w.heap[b]? = some (.cells arr t (0, 0))) (hS : ¬ m.S b) (hbase : base ≤ b) (hrow : ∀ id, m.row id = some b → st.dead id = true) (hbox : ∀ k, (st.box k).isSome = true → m.bl k ≠ b)
  (hl : All2 (RelAC m st w) l arr.toList) :
  Rel E.F base Mod w0 (m.newBox key b) (st.setBox key (t, l)) a w ∧ RelAV (m.newBox key b) (st.setBox key (t, l)) w (.one (.ptr key 0)) (.pointer (some ⟨b, 0, none⟩)) := by
 have hlat : Later m st w (m.newBox key b) (st.setBox key (t, l)) w := by
  refine ⟨fun _ hb => hb, fun _ _ => rfl, fun k hk => hk, fun id h1 h2 => ⟨h2, rfl, rfl, fun _ _ => rfl⟩, fun k hk => ?_⟩
  have : k ≠ key := fun e => by subst e; simp [hnone] at hk
  exact ⟨by simp [St.setBox, this, hk], by simp [Emb.newBox, this]⟩
 have hbs : ∀ k, ((st.setBox key (t, l)).box k).isSome = true → k = key ∨ k ≠ key ∧ (st.box k).isSome = true := fun k hk => by
  by_cases e : k = key
  ·exact .inl e
  ·exact .inr ⟨e, by simpa [Qas, e] using hk⟩
 refine ⟨⟨h.defers, h.size, fun t => RelAV.later hlat (h.slot t), ?_, h.frm, ⟨fun k hk => by rw [← h.fix.1 k hk]; exact if_neg (by omega), h.fix.2⟩, h.glob⟩, ?_⟩
 ·refine ⟨fun k T l' hk => ?_, fun k hk => ?_, fun k k' hk hk' he => ?_, fun k hk => ?_, fun id b' hb' hd => ?_, h.mem.rowI, h.mem.rowS, h.mem.rowU, h.mem.S, h.mem.iceU, h.mem.deadU⟩
  ·rw [Qas] at hk
   split at hk
   ·rename_i e; subst e
    simp only [Zj, Prod.mk.injEq] at hk
    obtain ⟨rfl, rfl⟩ := hk
    exact ⟨arr, by simpa [Emb.newBox] using hb, RelAC.laters hlat hl⟩
   ·rename_i e
    obtain ⟨arr', h1, h2⟩ := h.mem.box k T l' hk
    exact ⟨arr', by simp only [Emb.newBox, e, if_false]; exact h1, RelAC.laters hlat h2⟩
  ·rcases hbs k hk with rfl | ⟨e, hk'⟩
   ·simp only [Emb.newBox, if_true]
    exact ⟨hS, fun _ => .inl hbase⟩
   ·simp only [Emb.newBox, e, if_false]
    exact h.mem.boxS k hk'
  ·rcases hbs k hk with rfl | ⟨e, hk1⟩ <;> rcases hbs k' hk' with rfl | ⟨e', hk2⟩
   ·exact .inl rfl
   ·simp only [Emb.newBox, if_true, e', if_false] at he; exact absurd he.symm (hbox k' hk2)
   ·simp only [Emb.newBox, if_true, e, if_false] at he; exact absurd he (hbox k hk1)
   ·simp only [Emb.newBox, e, e', if_false] at he; exact h.mem.boxI k k' hk1 hk2 he
  ·rcases hbs k hk with rfl | ⟨e, hk1⟩
   ·exact hku
   ·exact h.mem.boxU k hk1
  ·obtain ⟨h1, h2, h3⟩ := h.mem.row id b' hb' hd
   refine ⟨h1, h2, fun k hk => ?_⟩
   rcases hbs k hk with rfl | ⟨e, hk1⟩
   ·simp only [Emb.newBox, if_true]
    intro he
    subst he
    have := hrow id hb'
    have hd' : st.dead id = false := hd
    rw [this] at hd'; cases hd'
   ·simp only [Emb.newBox, e, if_false]; exact h3 k hk1
 ·exact ⟨by simp [Qas], by simp [Emb.newBox]⟩
theorem Qps {s : Sig} (h : s.params.all PK.isVal = true) : ∀ r ∈ s.ins, r.2 = false := fun r hr => by
 unfold Sig.ins at hr
 obtain ⟨p, hp, rfl⟩ := List.mem_map.1 hr
 have := List.all_eq_true.1 h p hp
 cases p <;> simp [PK.isVal] at this
 rfl
theorem Qma {g : FuncId} {mk : Mk} (hM : MkOk E.P E.k g mk) (hkey : 1000 ≤ key) {c : Call} {K : AV → St → Option R} (ho : o.op = .call c) (hc : c.callee = .value (.func g)) (h : Rel E.F base Mod w0 m st a w) (hu : st.used key = false)
  (hK : callM E key (st.use key) mk (c.args.toList.map (opnd st)) K = some r) {next : Act → World → Prop} {Q : Exit → Act → World → Prop}
  (hn : ∀ m' st' av v w', Rel E.F base Mod w0 m' st' a w' → RelAV m' st' w' av v → K av st' = some r → next (a.put o.dst v) w') : o.wp E.P a w next Q := by
 unfold callM at hK
 split at hK
 case isFalse => cases hK
 rename_i hq
 simp only [Zd] at hq
 obtain ⟨hval, hout⟩ := hq
 have hout : ∀ r ∈ mk.f.sig.outs, r.2 = false := fun r hr => by simpa using List.all_eq_true.1 hout r hr
 split at hK
 ·cases hK
 rename_i ls hls
 rw [Qbe] at hls
 split at hK
 case isFalse => cases hK
 rename_i hp
 simp only [Zd] at hp
 obtain ⟨hp, hro⟩ := hp
 rw [Qfq] at hp
 split at hK
 case h_2 => cases hK
 rename_i x hx
 obtain ⟨y, hy, hK⟩ := Option.bind_eq_some_iff.1 hK
 split at hK
 case h_2 => cases hK
 rename_i l hl
 obtain ⟨fn, cd, hfn, hname, hb⟩ := hM.there
 unfold Oper.wp
 rw [Qim ho hc hfn hname hb, ← Qhx, Oper.upon_enter]
 have hm := h.mem
 obtain ⟨vss, ha1, ha2, ha3, ha4, ha5, ha6, ha7, ha8, ha9⟩ := Qhn hm hls (Qct h c.args.toList)
 obtain ⟨rows, b1, b2, b3, b4, b5, b6, b7, b8⟩ := Qjj hm hp hx ha2
 obtain rfl := Qov (Qps hval) b1
 have hlm : ∀ b, m.lent (roIds mk.f.sig.ins ls) b ↔ m.S b := fun b => by rw [List.isEmpty_iff.1 hro]; simp [Emb.lent]
 refine (hM.run hval hout w _ _ vss x y hy ha1 b1 b4 (h.globOk.mono (fun b hb => .inl hb) fun _ _ => rfl)).mono ?_
 rintro e w' ⟨b, arr, S', rfl, hfrm, hS1, hS2, hS3, hge, hbS, hbh, hparts⟩
 have hS1 : ∀ b, m.S b → S' b := fun b hb => hS1 b ((hlm b).2 hb)
 have hS2 : ∀ b, S' b → m.S b ∨ w.heap.size ≤ b := fun b hb => (hS2 b hb).imp (hlm b).1 id
 have hsame : ∀ b, b < w.heap.size → w'.heap[b]? = w.heap[b]? := fun b hb => hfrm.block b hb (by simp)
 generalize hm' : ({ m with S := S' } : Emb) = m'
 have mS : m'.S = S' := by rw [← hm']
 have mrow : m'.row = m.row := by rw [← hm']
 have mval : m'.val = m.val := by rw [← hm']
 have mbl : m'.bl = m.bl := by rw [← hm']
 have hlat : Later m st w m' (st.use key) w' := by
  refine ⟨fun b hb => by rw [mS]; exact hS1 b hb, fun b hb => hsame b (hm.S b hb), fun k hk => by simp [St.use, hk], fun id h1 h2 => ⟨h2, by rw [mrow], by rw [mval], fun b hb => hsame b (hm.row id b hb h2).1⟩, fun k hk => ⟨hk, by rw [mbl]⟩⟩
 have hlt : ∀ k, (st.box k).isSome = true → m.bl k < w.heap.size := fun k hk => by
  obtain ⟨⟨T, l⟩, hkk⟩ := Option.isSome_iff_exists.1 hk
  obtain ⟨arr', h1, _⟩ := hm.box k T l hkk
  exact (Array.getElem?_eq_some_iff.1 h1).1
 have hrel : Rel E.F base Mod w0 m' (st.use key) a w' := by
  refine ⟨h.defers, h.size, fun t => RelAV.later hlat (h.slot t), ⟨?_, ?_, ?_, ?_, ?_, ?_, ?_, ?_, ?_, ?_, ?_⟩, h.frm.trans hfrm (by simp), ⟨by rw [mbl]; exact h.fix.1, fun b hb => by rw [mS]; exact hS1 b (h.fix.2.1 b hb), fun b hb => ?_⟩, h.glob⟩
  ·intro k T l hk
   obtain ⟨arr, h1, h2⟩ := hm.box k T l hk
   refine ⟨arr, ?_, RelAC.laters hlat h2⟩
   rw [← h1, mbl]
   exact hsame _ (hlt k (by rw [show st.box k = _ from hk]; rfl))
  ·intro k hk
   rw [mbl, mS]
   refine ⟨fun hs => ?_, (hm.boxS k hk).2⟩
   rcases hS2 _ hs with h1 | h1
   ·exact (hm.boxS k hk).1 h1
   ·have := hlt k hk; omega
  ·intro k k' hk hk' he
   rw [mbl] at he
   exact hm.boxI k k' hk hk' he
  ·intro k hk; simp [St.use, hm.boxU k hk]
  ·intro id b hb hd
   rw [mrow] at hb
   obtain ⟨p1, p2, p3⟩ := hm.row id b hb hd
   exact ⟨Nat.lt_of_lt_of_le p1 hfrm.size, p2, fun k hk => by rw [mbl]; exact p3 k hk⟩
  ·intro id id' b hb hb' hd hd'
   rw [mrow] at hb hb'
   exact hm.rowI id id' b hb hb' hd hd'
  ·intro id b hb hd
   rw [mrow] at hb
   rw [mS]
   refine ⟨fun hs => ?_, fun hi => hS1 b ((hm.rowS id b hb hd).2 hi)⟩
   rcases hS2 b hs with h1 | h1
   ·exact (hm.rowS id b hb hd).1 h1
   ·have := (hm.row id b hb hd).1; omega
  ·intro id b hb
   rw [mrow] at hb
   simp [St.use, hm.rowU id b hb]
  ·intro b hb; rw [mS] at hb; exact hS3 b hb
  ·intro id hi; simp [St.use, hm.iceU id hi]
  ·intro id hi; simp [St.use, hm.deadU id hi]
  ·rw [mS] at hb
   rcases hS2 b hb with h1 | h1
   ·exact h.fix.2.2 b h1
   ·exact .inr (.inl (by rw [h.frm.at0]; exact Nat.le_trans h.frm.size h1))
 have hab := Qeb (m := m') (st := st.use key) (key := key) (by simp [St.use]) 0 (by rw [mS]; exact hparts) (fun j p hp => by simp at hp)
 rw [hl] at hab
 have hnone : (st.use key).box key = none := by
  cases hb : st.box key with
  | none => exact hb
  | some x => have := hm.boxU key (by simp [hb]); simp [hu] at this
 obtain ⟨h1, h2⟩ := Qog (t := mk.t) (l := l) hkey hrel (by simp [St.use]) hnone hbh (by rw [mS]; exact hbS) (by rw [h.frm.at0]; exact Nat.le_trans h.frm.size hge) (fun id hid => by
  rw [mrow] at hid
  cases hd : st.dead id with
  | true => exact hd
  | false => have := (hm.row id b hid hd).1; omega) (fun k hk he => by rw [mbl] at he; have := hlt k hk; omega) hab.1
 exact hn _ _ _ _ _ h1 h2 hK
end
end
section
section
variable {E : Env} {base : Nat} {Mod : Nat → Prop} {w0 : Org} {m : Emb} {st : St} {a : Act} {w : World} {key : Nat} {o : Oper} {R : Type} {r : R}
theorem Qiw {K : AV → St → Option R} {t e : TypeId} {n : Nat} {parts : Array (Nat × Operand)} {c : CK} {xs : List c.T} (ho : o.op = .buildSlice t n parts) (h : Rel E.F base Mod w0 m st a w) (hu : st.used key = false)
  (he : elemT E t = some e) (hn : n = parts.size) (hsz : sizeT E e = c.size) (hpos : 0 < c.size) (hb : n * c.size ≤ 16777216) (hz : (Qav E e).isSome = true)
  (hidx : parts.toList.zipIdx.all (fun p => p.1.1 == p.2) = true) (hp : parts.all (fun p => (opnd st p.2).plain) = true) (hf : parts.toList.all (fun p => st.fresh (opnd st p.2).cells) = true)
  (hr : rowOf c (parts.toList.map fun p => (opnd st p.2).cells) = some xs) (hK : K (.one (.sl (key, 0) true false e c xs .no)) ((st.use key).freezeAll (parts.toList.flatMap fun p => AC.ids (opnd st p.2).cells)) = some r) :
  Effs E base Mod w0 o a w fun av st' => K av st' = some r := by
 obtain ⟨z, hz⟩ := Option.isSome_iff_exists.1 hz
 have hp' : ∀ p ∈ parts.toList, (opnd st p.2).plain = true := fun p hp' => Array.all_eq_true_iff_forall_mem.1 hp p (by simpa using hp')
 have hf' : ∀ p ∈ parts.toList, st.fresh (opnd st p.2).cells = true := fun p hp' => List.all_eq_true.1 hf p hp'
 obtain ⟨h1, hl1⟩ := Qji (ids := parts.toList.flatMap fun p => AC.ids (opnd st p.2).cells) h
  (fun id hi => by obtain ⟨p, hp1, hp2⟩ := List.mem_flatMap.1 hi; exact Qkc (Qbt (hp' p hp1) (h.opnd p.2)) id hp2)
  (fun id hi => by obtain ⟨p, hp1, hp2⟩ := List.mem_flatMap.1 hi; exact Qdh (hf' p hp1) id hp2)
 obtain ⟨hl, hrd⟩ := Qkm (S' := (m.frozen (parts.toList.flatMap fun p => AC.ids (opnd st p.2).cells)).S) (fun _ h => .inl h) hr (Qfr h parts.toList hp') fun l hl id hi => by
  obtain ⟨p, hp1, rfl⟩ := List.mem_map.1 hl
  exact ⟨Qdh (hf' p hp1) id hi, fun b hb => .inr ⟨id, List.mem_flatMap.2 ⟨p, hp1, hi⟩, hb⟩⟩
 obtain ⟨arr, hrun, hsa, hcell⟩ := Qfj (w := w) (a := a) he hz hn hsz hpos hb hidx (Qey h hp' hr)
 have hlen : xs.length = n := by rw [hl]; simp [hn]
 have hus : (st.freezeAll (parts.toList.flatMap fun p => AC.ids (opnd st p.2).cells)).used key = false := by rw [Qag]; exact hu
 obtain ⟨h2, h3⟩ := Qfx (key := key) (e := e) (c := c) (xs := xs) (arr := arr) (cap := n) h1 hus (by omega) (by omega) (fun i x hx => by
  obtain ⟨vs, hv, hrdx⟩ := hrd i x hx
  simp only [List.getElem?_map] at hv
  obtain ⟨p, hp1, hp2⟩ := Option.map_eq_some_iff.1 hv
  exact ⟨vs, hrdx.length, hrdx, fun j v hj => hcell i p hp1 j v (by rw [hp2]; exact hj)⟩)
 rw [hlen] at h2 h3
 have hst : (st.freezeAll (parts.toList.flatMap fun p => AC.ids (opnd st p.2).cells)).use key = (st.use key).freezeAll (parts.toList.flatMap fun p => AC.ids (opnd st p.2).cells) := by
  simp only [Qag, St.use]
 rw [hst] at h2 h3
 exact ⟨_, _, _, _, _, _, by simp only [execOp, ho]; simp [hrun], .inl rfl, hK, h3, h2⟩
theorem Vals.wp {K : AV → Option R} {K' : St → Option R} (hv : Vals E base Mod w0 st o a w fun av => K av = some r) (hd : ∀ d, o.dst = some d → d < E.F.1 ∧ E.F.2 d = false) (hK : ∀ av, K av = K' (st.put? o.dst av))
  {next : Act → World → Prop} {Q : Exit → Act → World → Prop} (hn : ∀ m' st' a' w', Rel E.F base Mod w0 m' st' a' w' → K' st' = some r → next a' w') : o.wp E.P a w next Q := by
 obtain ⟨v, w', m', av, h1, h2, h3, h4⟩ := hv
 unfold Oper.wp
 rw [h1]
 exact hn _ _ _ _ (h4.put hd h3) (by rw [← hK]; exact h2)
theorem Effs.wp {K : AV → St → Option R} {K' : St → Option R} (hv : Effs E base Mod w0 o a w fun av st' => K av st' = some r) (hd : ∀ d, o.dst = some d → d < E.F.1 ∧ E.F.2 d = false) (hK : ∀ av st', K av st' = K' (st'.put? o.dst av))
  {next : Act → World → Prop} {Q : Exit → Act → World → Prop} (hn : ∀ m' st' a' w', Rel E.F base Mod w0 m' st' a' w' → K' st' = some r → next a' w') : o.wp E.P a w next Q := by
 obtain ⟨n, v, w', m', av, st', h1, h2, h3, h4, h5⟩ := hv
 unfold Oper.wp
 rw [h1]
 rcases h2 with rfl | ⟨rfl, rfl⟩
 ·exact hn _ _ _ _ (h5.put hd h4) (by rw [← hK]; exact h3)
 ·exact hn _ _ _ _ (h5.put hd h4) (by rw [← hK]; exact h3)
theorem Qkh (h : Rel E.F base Mod w0 m st a w) {X : Operand} {k : IntKind} {n : Int} (hX : opnd st X = .one (.int k n)) : a.eval X = .int k n := by
 have := h.opnd X; rw [hX] at this; exact this
theorem Qow (h : Rel E.F base Mod w0 m st a w) {X : Operand} {s : ByteArray} (hX : opnd st X = .one (.str s)) : a.eval X = .string s := by
 have := h.opnd X; rw [hX] at this; exact this
theorem Qni (h : Rel E.F base Mod w0 m st a w) {X : Operand} {b : Bool} (hX : opnd st X = .one (.bool b)) : a.eval X = .bool b := by
 have := h.opnd X; rw [hX] at this; exact this
theorem Qlt {t : TypeId} (h : strT E t = true) : E.P.underlying t = some .string := by
 unfold strT at h; split at h
 ·assumption
 ·cases h
theorem Qnq {t : TypeId} (h : boolT E t = true) : E.P.underlying t = some .bool := by
 unfold boolT at h; split at h
 ·assumption
 ·cases h
theorem Qid {N : Rim} {base : Nat} {Mod : Nat → Prop} {w0 : Org} {m : Emb} {st : St} {a : Act} {w : World} (h : Rel N base Mod w0 m st a w) : ∀ {xs : List Operand} {l : List (Nat × Nat)}, ptrsL (xs.map (opnd st)) = some l →
  (∀ p ∈ l, (st.box p.1).isSome = true) ∧ xs.map a.eval = l.map (ptrV m)
 | [], l, hl => by
  simp only [List.map_nil, ptrsL, Zj] at hl; subst hl
  exact ⟨by simp, rfl⟩
 | x :: xs, l, hl => by
  simp only [List.map_cons] at hl
  unfold ptrsL at hl
  split at hl
  ·rename_i he; simp at he
  ·rename_i b off l' he
   simp only [List.cons.injEq] at he
   obtain ⟨he, rfl⟩ := he
   obtain ⟨l1, h1, rfl⟩ := Option.map_eq_some_iff.1 hl
   obtain ⟨i1, i2⟩ := Qid h h1
   have hx := h.opnd x
   rw [he] at hx
   obtain ⟨hb, hv⟩ := hx
   refine ⟨fun p hp => ?_, by simp [i2, hv, ptrV]⟩
   rcases List.mem_cons.1 hp with rfl | hp
   ·exact hb
   ·exact i1 p hp
  ·cases hl
theorem Qiy {f : FuncId} {first caps : Array Operand} {l : List (Nat × Nat)} {K : AV → Option R} (ho : o.op = .makeFunc (.func f) first caps) (hf : first = #[]) (h : Rel E.F base Mod w0 m (st.use key) a w)
  (hl : ptrsL (caps.toList.map (opnd (st.use key))) = some l) (hK : K (.one (.fn f false l)) = some r) : Vals E base Mod w0 (st.use key) o a w fun av => K av = some r := by
 subst hf
 obtain ⟨h1, h2⟩ := Qid h hl
 have he : caps.map a.eval = (l.map (ptrV m)).toArray := by apply Array.toList_inj.1; simpa using h2
 refine Vals.now (v := .func (.func f) #[] ((l.map (ptrV m)).toArray)) h ?_ hK ⟨h1, rfl⟩
 simp [execOp, ho, Instr.makeFunc, he]
theorem Qii {f : FuncId} {first caps : Array Operand} {l : List (Nat × Nat)} {K : AV → Option R} (ho : o.op = .makeFunc (.func f) first caps) (hf : caps = #[]) (h : Rel E.F base Mod w0 m (st.use key) a w)
  (hl : ptrsL (first.toList.map (opnd (st.use key))) = some l) (hK : K (.one (.fn f true l)) = some r) : Vals E base Mod w0 (st.use key) o a w fun av => K av = some r := by
 subst hf
 obtain ⟨h1, h2⟩ := Qid h hl
 have he : first.map a.eval = (l.map (ptrV m)).toArray := by apply Array.toList_inj.1; simpa using h2
 refine Vals.now (v := .func (.func f) ((l.map (ptrV m)).toArray) #[]) h ?_ hK ⟨h1, rfl⟩
 simp [execOp, ho, Instr.makeFunc, he]
theorem Qns {K : AV → Option R} (h : Rel E.F base Mod w0 m (st.use key) a w) (h0 : Rel E.F base Mod w0 m st a w) (hu : st.used key = false) (hnc : ∀ c x, o.op = .call c → c.callee = .value x → False)
  (hK : evalQ E key o (st.use key) K = some r) : Vals E base Mod w0 (st.use key) o a w fun av => K av = some r := by
 unfold evalQ at hK
 split at hK
 ·exact Qoa (by assumption) h hK
 ·exact Qll (by assumption) h hK
 ·split at hK <;> try cases hK
  rename_i hc
  exact Qob (by assumption) h hc hK
 ·split at hK <;> try cases hK
  rename_i hc
  exact Qiz (by assumption) h hc hK
 ·rename_i t X ho
  split at hK
  ·rename_i b off hc
   split at hK
   ·rename_i T l hb
    exact Qix ho h hc hb hK
   ·cases hK
  ·rename_i hc
   exact Qkj ho h hc hK
  ·rename_i hc
   split at hK
   ·rename_i hb
    exact Qkk ho h hc hb hK
   ·cases hK
  ·cases hK
 ·rename_i s X f ho
  split at hK
  ·rename_i fd hf
   split at hK
   ·cases hK
   ·rename_i hz
    exact Qif ho h hf hz hK
  ·cases hK
 ·rename_i s X f ho
  split at hK
  ·rename_i hf hc
   exact Qmm ho h hf hc hK
  ·cases hK
 ·rename_i t X I ho
  split at hK
  ·rename_i e id own vw e' c xs src k n he hX hI
   split at hK
   ·rename_i hc
    simp only [Zd, Zq, beq_iff_eq] at hc
    obtain ⟨⟨rfl, hsz⟩, hpos⟩ := hc
    exact Qig ho h he hX hI hsz hpos hK
   ·cases hK
  ·rename_i hX hI
   split at hK
   ·rename_i he
    exact Qgd ho h he hX hI hK
   ·cases hK
  ·rename_i hX hI
   split at hK
   ·rename_i he
    split at hK
    ·rename_i hg
     exact Qft ho h he hg hI hK
    ·cases hK
   ·cases hK
  ·cases hK
 ·rename_i t X I ho
  split at hK
  ·rename_i hX hI
   split at hK
   ·rename_i ht
    exact Qmn ho h (Qlt ht) hX hI hK
   ·cases hK
  ·rename_i hX hI
   split at hK
   ·rename_i ht
    split at hK
    ·rename_i hi
     exact Qih ho h ht hX hI hi hK
    ·cases hK
   ·cases hK
  ·cases hK
 ·rename_i t X lo hi ho
  split at hK
  ·rename_i hX
   split at hK
   ·rename_i ht
    split at hK
    ·rename_i hl hh
     exact Qik ho h (Qlt ht) hX hl hh hK
    ·cases hK
   ·cases hK
  ·rename_i hX
   split at hK
   ·rename_i hc
    simp only [Zd, Zq, beq_iff_eq] at hc
    obtain ⟨⟨ht, hsz⟩, hpos⟩ := hc
    split at hK
    ·rename_i hl hh
     exact Qja ho h (Qbd ht) hX hl hh hsz hpos hK
    ·cases hK
   ·cases hK
  ·cases hK
 ·rename_i op t X Y t' ho
  split at hK
  ·rename_i hX hY
   split at hK
   ·exact Qmo ho h (Qkh h hX) (Qkh h hY) hK
   ·rename_i hs
    split at hK
    ·rename_i hk; subst hk
     exact Qny ho h (Qkh h hX) (Qkh h hY) ⟨fun e => hs (.inl e), fun e => hs (.inr e)⟩ hK
    ·cases hK
  ·rename_i hX hY
   exact Qnz ho h (Qow h hX) (Qow h hY) hK
  ·rename_i hX hY
   split at hK
   ·rename_i ht
    exact Qnx ho h (Qni h hX) (Qni h hY) (Qnq ht) hK
   ·cases hK
  ·rename_i hX hY
   split at hK
   ·rename_i hc
    simp only [Zd] at hc
    exact Qnw ho h hX hY hc.1 hc.2 hK
   ·cases hK
  ·cases hK
 ·exact Qoc (by assumption) h hK
 ·rename_i s d X ho
  split at hK
  ·rename_i hs hd hX
   exact Qgt ho h hs hd hX hK
  ·rename_i hs hd hX
   exact Qgv ho h hs hd hX hK
  ·rename_i hs hd hX
   split at hK
   ·rename_i he
    split at hK
    ·cases hK
    ·rename_i hdead
     split at hK
     ·split at hK
      ·rename_i hl
       exact Qfs ho h hs hd he hX (by simpa using hdead) hl hK
      ·cases hK
     ·cases hK
   ·cases hK
  ·rename_i hs hd hX
   split at hK
   ·rename_i he
    exact Qgu ho h hs hd he hX hK
   ·cases hK
  ·cases hK
 ·rename_i t parts ho
  split at hK
  ·rename_i hz hu
   split at hK
   ·rename_i hc
    simp only [Zd] at hc
    split at hK
    ·rename_i hl
     exact Qie ho h hz hu hc.1.1 hc.2 hl hK
    ·cases hK
   ·cases hK
  ·rename_i hz hu
   split at hK
   ·rename_i hc
    simp only [Zd] at hc
    split at hK
    ·rename_i hl
     exact Qml ho h hz hu hc.1.1 hc.2 hl hK
    ·cases hK
   ·cases hK
  ·cases hK
 ·rename_i t n parts ho
  split at hK
  ·rename_i e he
   split at hK
   ·rename_i c hc
    split at hK
    ·rename_i hcc
     simp only [Zd, Zq, beq_iff_eq] at hcc
     obtain ⟨⟨⟨⟨⟨⟨⟨hf, hn⟩, hsz⟩, hpos⟩, hb⟩, hz⟩, hidx⟩, hp⟩ := hcc
     split at hK
     ·rename_i hr
      exact Qhl ho h0 hu he hf hn hsz hpos hb hz hidx hp hr hK
     ·cases hK
    ·cases hK
   ·cases hK
  ·cases hK
 ·rename_i t l lc ho
  split at hK
  ·rename_i e n he hl
   split at hK
   ·rename_i c hc
    split at hK
    ·rename_i hcc
     simp only [Zd, Zq, beq_iff_eq] at hcc
     obtain ⟨⟨⟨⟨hLC, hsz⟩, hpos⟩, hf⟩, hz⟩ := hcc
     exact Qij ho h0 hu hLC he hl hsz hpos hf hz hK
    ·cases hK
   ·cases hK
  ·cases hK
 ·rename_i X i ho
  split at hK
  ·rename_i hX
   exact Qki ho h hX hK
  ·cases hK
 ·rename_i c ho
  split at hK
  ·rename_i hc
   split at hK
   ·rename_i ha ht
    exact Qoy ho hc ha ht h hK
   ·cases hK
  ·rename_i hc
   split at hK
   ·rename_i ha
    split at hK
    ·rename_i hX hY
     exact Qhf (b := true) ho hc ha h hX hY hK
    ·cases hK
   ·cases hK
  ·rename_i hc
   split at hK
   ·rename_i ha
    split at hK
    ·rename_i hX hY
     exact Qhf (b := false) ho hc ha h hX hY hK
    ·cases hK
   ·cases hK
  ·rename_i hc
   exact (hnc _ _ ho hc).elim
  ·rename_i hc
   exact (hnc _ _ ho hc).elim
  ·cases hK
 ·rename_i f first caps ho
  split at hK
  ·rename_i hf
   split at hK
   ·rename_i l hl
    exact Qiy ho (by simpa using hf) h hl hK
   ·cases hK
  ·split at hK
   ·rename_i hf
    split at hK
    ·rename_i l hl
     exact Qii ho (by simpa using hf) h hl hK
    ·cases hK
   ·cases hK
 ·cases hK
end
end
section
section
variable {E : Env} {base : Nat} {Mod : Nat → Prop} {w0 : Org} {m : Emb} {st : St} {a : Act} {w : World} {key : Nat} {o : Oper} {R : Type} {r : R}
theorem Qlx {c : CK} {e : TypeId} {X : Operand} {ys : List c.T} (h : Rel E.F base Mod w0 m st a w) (hpos : 0 < c.size) (hw : c.whole = true) (hx : Qhv st c e (opnd st X) = some ys) : ∃ L, News m w c ys (a.eval X) L := by
 have hv := h.opnd X
 unfold Qhv at hx
 split at hx
 ·rename_i id own vw e' c' zs src heq
  rw [heq] at hv
  split at hx
  ·cases hx
  rename_i hd
  split at hx
  case isFalse => cases hx
  obtain ⟨hcc, rfl⟩ := Qcj hx
  subst hcc
  exact Qqg (src := src) hv (by simpa using hd) hpos hw
 ·rename_i heq
  rw [heq] at hv
  have hv' : a.eval X = .slice none 0 0 := hv
  simp only [Zj] at hx; subst hx
  rw [hv']
  exact ⟨_, Qpo⟩
 ·cases hx
theorem Qph {c : Call} {s x : Operand} {t : TypeId} (hc : c.callee = .builtin .append) (ha : c.args.toList = [s, x]) (ht : c.argTypes.toList = [t, t]) : c = { callee := .builtin .append, args := #[s, x], argTypes := #[t, t] } := by
 obtain ⟨a, b, d⟩ := c
 simp only at hc ha ht
 subst hc
 congr 1
 ·apply Array.toList_inj.1; simpa using ha
 ·apply Array.toList_inj.1; simpa using ht
theorem Qkx {K : AV → St → Option R} {t e : TypeId} {A X : Operand} {id : Id} {c : CK} {xs : List c.T} {i off : Nat} {src : Loc} (ho : o.op = .store t A X) (h : Rel E.F base Mod w0 m st a w) (hu : st.used key = false)
  (hA : opnd st A = .ep id e c xs i off src true) (hr : st.rights id = true) (hlen : (opnd st X).cells.length = sizeT E t) (hpos : 0 < sizeT E t) (hle : off + sizeT E t ≤ c.size)
  (hf : st.fresh (opnd st X).cells = true) (hp : (opnd st X).plain = true) (hg : AC.good (opnd st X).cells = true) (hni : id ∉ AC.ids (opnd st X).cells)
  {y z : c.T} (hy : xs[i]? = some y) (hz : Qac c (Qbh (Qap c y) off (opnd st X).cells) = some (z, []))
  (hK : (match (generalizing := false) src with
          | .slot t => match st.slot t with
           | .one (.sl id' true false _ _ _ _) => if id' = id then K .bad ((((st.use key).kill id).freezeAll (AC.ids (opnd st X).cells)).put t (.one (.sl (key, 0) true false e c (xs.set i z) .no))) else none
           | _ => none
          | .box b boff => match st.box b with
           | some (T, l) => match l[boff]? with
            | some (.sl id' true false _ _ _ _) => if id' = id && !st.lock b then K .bad ((((st.use key).kill id).freezeAll (AC.ids (opnd st X).cells)).setBox b (T, l.set boff (.sl (key, 0) true false e c (xs.set i z) .no))) else none
            | _ => none
           | none => none
          | .no => none) = some r) : Effs E base Mod w0 o a w fun av st' => K av st' = some r := by
 cases src with
 | no => cases hK
 | slot t =>
  obtain ⟨w', m', h1, h2, h3, h4, h5⟩ := Qnn ho h hu hA (by simp) hr hlen hpos hle hf hp hg hni hy hz
  simp only at hK
  split at hK
  ·rename_i id' e' c' xs' src' hsl
   split at hK
   ·rename_i he; subst he
    have hv := h.slot t
    rw [hsl] at hv
    obtain ⟨_, _, hv⟩ := hv
    simp only [if_true, (Qdp hr).1, Bool.false_eq_true, false_or] at hv
    obtain ⟨ad, n, cap, hv1, _, _, hv2⟩ := hv
    have hv2 := hv2 rfl
    exact ⟨_, _, _, _, _, _, h1, .inr ⟨rfl, rfl⟩, hK, RelAV.bad _, h2.tell (by rw [hv2]; exact h4)⟩
   ·cases hK
  ·cases hK
 | box b boff =>
  obtain ⟨w', m', h1, h2, h3, h4, h5⟩ := Qnn ho h hu hA (by simp) hr hlen hpos hle hf hp hg hni hy hz
  simp only at hK
  split at hK
  ·rename_i T l hb
   split at hK
   ·rename_i id' e' c' xs' src' hl
    split at hK
    ·rename_i he
     simp only [Zd, Zq] at he
     obtain ⟨rfl, _⟩ := he
     have hbs : (((st.use key).kill id').freezeAll (AC.ids (opnd st X).cells)).box = st.box := by rw [Qag]; rfl
     obtain ⟨arr, harr, hrel⟩ := h.mem.box b T l hb
     obtain ⟨v, hv0, hv⟩ := hrel.get hl
     obtain ⟨_, _, hv⟩ := hv
     simp only [if_true, (Qdp hr).1, Bool.false_eq_true, false_or] at hv
     obtain ⟨ad, n, cap, hv1, _, _, hv2⟩ := hv
     have hv2 := hv2 rfl
     refine ⟨_, _, _, _, _, _, h1, .inr ⟨rfl, rfl⟩, hK, RelAV.bad _, h2.tellBox (l := l) (by rw [hbs]; exact hb) fun arr' harr' hrel' => ?_⟩
     rw [h5 b (by simp [hb]), harr] at harr'
     simp only [Zj, Obj.cells.injEq, and_true] at harr'
     obtain ⟨rfl, _⟩ := harr'
     refine All2.of_get (by rw [List.length_set]; exact hrel'.length) fun q x u hx hu' => ?_
     by_cases hq : boff = q
     ·subst hq
      rw [List.getElem?_set_self (List.getElem?_eq_some_iff.1 hl).1] at hx
      simp only [Zj] at hx; subst hx
      rw [hv0] at hu'
      simp only [Zj] at hu'; subst hu'
      rw [hv2]; exact h4
     ·rw [List.getElem?_set_ne hq] at hx
      obtain ⟨u', hu1, hu2⟩ := hrel'.get hx
      rw [hu'] at hu1
      simp only [Zj] at hu1; subst hu1
      exact hu2
    ·cases hK
   ·cases hK
  ·cases hK
theorem Qon {K : AV → St → Option R} (hkey : 1000 ≤ key) (h : Rel E.F base Mod w0 m st a w) (hu : st.used key = false) (hnc : ∀ c g, o.op = .call c → c.callee = .value (.func g) → False)
  (hK : effW E key o (st.use key) K = some r) : Effs E base Mod w0 o a w fun av st' => K av st' = some r := by
 have h2 := h.use key
 unfold effW at hK
 split at hK
 ·rename_i t X ho
  split at hK
  ·rename_i hp
   exact Qqb hkey ho h hu hp rfl hK
  ·cases hK
 ·rename_i t ho
  split at hK
  ·rename_i hz
   exact Qoo hkey ho h hu hz hK
  ·cases hK
 ·rename_i t A X ho
  split at hK
  ·rename_i b off hA
   split at hK
   ·rename_i T l hb
    split at hK
    ·rename_i hc
     simp only [Zd, Zq, beq_iff_eq, Bool.not_eq_true'] at hc
     obtain ⟨⟨⟨⟨⟨hlen, hpos⟩, hle⟩, hlk⟩, hp⟩, hg⟩ := hc
     exact Qka ho h2 hA hb hp hlen hpos hle hlk hg hK
    ·cases hK
   ·cases hK
  ·rename_i b off n k j hA
   split at hK
   ·rename_i T l k' v hb hX
    split at hK
    ·rename_i ys rest hi
     split at hK
     ·rename_i hc
      simp only [Zd, Zq, beq_iff_eq, Bool.not_eq_true'] at hc
      obtain ⟨⟨rfl, hsz⟩, hlk⟩ := hc
      exact Qky ho h2 hA hb hX hi hsz hlk hK
     ·cases hK
    ·cases hK
   ·cases hK
  ·rename_i id e c xs i off src hA
   split at hK
   ·rename_i hc
    simp only [Zd, Zq, beq_iff_eq, Bool.not_eq_true'] at hc
    obtain ⟨⟨⟨⟨⟨⟨⟨hr, hlen⟩, hpos⟩, hle⟩, hf⟩, hp⟩, hg⟩, hni⟩ := hc
    obtain ⟨y, hy, hK⟩ := Option.bind_eq_some_iff.1 hK
    split at hK
    ·rename_i z hz
     refine Qkx (st := st) ho h hu hA hr hlen hpos hle hf hp hg (fun hm => ?_) hy hz hK
     have := List.contains_iff_mem.2 hm
     exact absurd (hni ▸ this : (false : Bool) = true) (by simp)
    ·cases hK
   ·cases hK
  ·cases hK
 ·rename_i t n parts ho
  split at hK
  ·rename_i e he
   split at hK
   ·rename_i c hc
    split at hK
    ·rename_i hcc
     simp only [Zd, Zq, beq_iff_eq] at hcc
     obtain ⟨⟨⟨⟨⟨⟨⟨hn, hsz⟩, hpos⟩, hb⟩, hz⟩, hidx⟩, hp⟩, hf⟩ := hcc
     split at hK
     ·rename_i hr
      exact Qiw ho h hu he hn hsz hpos hb hz hidx hp hf hr hK
     ·cases hK
    ·cases hK
   ·cases hK
  ·cases hK
 ·rename_i c ho
  split at hK
  ·rename_i hc
   split at hK
   ·rename_i s x t t' ha ht
    split at hK
    ·rename_i e he
     split at hK
     ·rename_i ck z hk hz
      split at hK
      ·rename_i hcc
       simp only [Zd, Zq, beq_iff_eq] at hcc
       obtain ⟨⟨⟨⟨rfl, hsz⟩, hzs⟩, hpos⟩, hwh⟩ := hcc
       have ho' := ho.trans (congrArg Op.call (Qph hc ha ht))
       split at hK
       ·cases hK
       rename_i ys hys
       obtain ⟨L, hL⟩ := Qlx h2 hpos hwh hys
       split at hK
       ·rename_i hs
        have hS := h2.opnd s
        rw [hs] at hS
        exact Qfg ho' h hu he hz hzs hsz hS hL hK
       ·rename_i id vw e' c' xs src hs
        split at hK
        ·rename_i hr
         simp only [Zd, Zq] at hr
         obtain ⟨hr, rfl⟩ := hr
         split at hK
         ·rename_i xs' hxs
          obtain ⟨hcc, rfl⟩ := Qcj hxs
          subst hcc
          have hS := h.opnd s
          rw [show opnd st s = .one (.sl id true vw e' c' xs src) from hs] at hS
          exact Qiv (src := src) ho' h hu he hz hzs hsz hpos hS hr hL hK
         ·cases hK
        ·cases hK
       ·cases hK
      ·cases hK
     ·cases hK
    ·cases hK
   ·cases hK
  ·rename_i hc
   exact (hnc _ _ ho hc).elim
  ·cases hK
 ·cases hK
theorem Qjh (hE : EnvOk E) (hpd : ∀ d, o.dst = some d → E.pin d = false) {K : St → Option R} (hkey : 1000 ≤ key) (h : Rel E.F base Mod w0 m st a w) (hu : st.used key = false) (hK : exec E key o (st.use key) K = some r)
  {next : Act → World → Prop} {Q : Exit → Act → World → Prop} (hn : ∀ m' st' a' w', Rel E.F base Mod w0 m' st' a' w' → K st' = some r → next a' w') : o.wp E.P a w next Q := by
 unfold exec at hK
 have hd0 : ∀ d, o.dst = some d → d < E.N := fun d he => by
  by_cases hlt : d < E.N
  ·exact hlt
  ·simp [he, hlt, dstOk] at hK
 rw [if_pos (by cases hdd : o.dst with | none => rfl | some d => simpa [dstOk] using hd0 d hdd)] at hK
 have hd : ∀ d, o.dst = some d → d < E.F.1 ∧ E.F.2 d = false := fun d he => ⟨hd0 d he, hpd d he⟩
 by_cases hc : ∃ c g, o.op = .call c ∧ c.callee = .value (.func g)
 ·obtain ⟨c, g, ho, hc⟩ := hc
  split at hK
  ·simp only [effW, ho, hc] at hK
   split at hK
   ·rename_i mk hmk
    exact Qma (hE.mks g mk hmk) hkey ho hc h hu hK fun m' st' av v w' h1 h2 h3 => hn _ _ _ _ (h1.put hd h2) h3
   ·exact Qmd hE.fns ho hc h hu hK fun m' st' av v w' h1 h2 h3 => hn _ _ _ _ (h1.put hd h2) h3
  ·simp only [evalQ, ho, hc] at hK
   rw [show (opnd (st.use key)) = opnd st from funext fun x => by cases x <;> rfl] at hK
   rw [Qkv] at hK
   exact Qmb hE.fns ho hc h hu hK fun m' av v w' h1 h2 h3 => hn _ _ _ _ (h1.put hd h2) h3
 ·have hnc : ∀ c g, o.op = .call c → c.callee = .value (.func g) → False := fun c g h1 h2 => hc ⟨c, g, h1, h2⟩
  split at hK
  ·exact Effs.wp (Qon hkey h hu hnc hK) hd (fun _ _ => rfl) hn
  ·by_cases hv : ∃ c t, o.op = .call c ∧ c.callee = .value (.tmp t)
   ·obtain ⟨c, t, ho, hc⟩ := hv
    simp only [evalQ, ho, hc] at hK
    split at hK
    ·rename_i g fst caps ht
     rw [show (opnd (st.use key)) = opnd st from funext fun x => by cases x <;> rfl] at hK
     rw [Qkv] at hK
     exact Qmc (st := st) hE.fns ho hc (show st.slot t = _ from ht) h hu hK fun m' av v w' h1 h2 h3 => hn _ _ _ _ (h1.put hd h2) h3
    ·cases hK
   ·exact Vals.wp (Qns (h.use key) h hu (fun c x h1 h2 => by
     cases x with
     | func g => exact hnc c g h1 h2
     | tmp t => exact hv ⟨c, t, h1, h2⟩
     | const v => simp [evalQ, h1, h2] at hK
     | global g => simp [evalQ, h1, h2] at hK) hK) hd (fun _ => rfl) hn
end
end
section
section
variable {E : Env} {st : St} {key : Nat} {o : Oper} {R : Type} {r : R}
theorem Qoj {op : BinOp} {k : IntKind} {a b : Int} (K : AV → Option R) : binI op k a b K = (binI op k a b some).bind K := by
 unfold binI; cases op <;> simp <;> split <;> simp
theorem Qms {op : BinOp} {k : IntKind} {a b : Int} (K : AV → Option R) : Qjr op k a b K = (Qjr op k a b some).bind K := by
 unfold Qjr; cases op <;> simp <;> split <;> simp
theorem Qok {op : BinOp} {a b : ByteArray} (K : AV → Option R) : binS op a b K = (binS op a b some).bind K := by
 unfold binS; cases op <;> simp [Option.bind_assoc]
theorem Qje {g : FuncId} {args : List AV} (K : AV → Option R) : callQ E key st g args K = (callQ E key st g args some).bind K := by
 unfold callQ
 cases E.fns g with
 | none => rfl
 | some f =>
  simp only
  split
  ·cases Qah st f.sig.params args with
   | none => rfl
   | some ls =>
    simp only
    split
    ·cases Qcb f.sig.ins ls with
     | none => rfl
     | some x => simp [Option.bind_assoc]
    ·rfl
  ·rfl
theorem Qgo (K : AV → Option R) : evalQ E key o st K = (evalQ E key o st some).bind K := by
 unfold evalQ
 generalize o.op = op
 cases op with
 | move => rfl
 | assign => rfl
 | pick c a b =>
  simp only
  split
  ·rename_i p _; cases p <;> rfl
  ·rfl
 | nilCheck x => simp only; split <;> rfl
 | load t x =>
  simp only
  split
  ·split
   ·split
    ·split <;> rfl
    ·rfl
    ·rfl
   ·rfl
  ·split
   ·rfl
   ·rw [Option.bind_assoc]
    congr 1; funext y
    split
    ·split <;> rfl
    ·rfl
    ·rfl
  ·split
   ·split <;> rfl
   ·rfl
  ·rfl
 | fieldAddr s x f =>
  simp only
  split
  ·split
   ·rfl
   ·split <;> rfl
  ·rfl
 | field s x f =>
  simp only
  split
  ·split <;> rfl
  ·rfl
 | indexAddr t x i =>
  simp only
  split
  ·split
   ·rw [Option.bind_assoc]; rfl
   ·rfl
  ·split
   ·rw [Option.bind_assoc]; rfl
   ·rfl
  ·split
   ·split
    ·rw [Option.bind_assoc]; rfl
    ·rfl
   ·rfl
  ·rfl
 | index t x i =>
  simp only
  split
  ·split
   ·rw [Option.bind_assoc]; rfl
   ·rfl
  ·split
   ·split
    ·rw [Option.bind_assoc]; rfl
    ·rfl
   ·rfl
  ·rfl
 | slice t x lo hi mx =>
  cases mx with
  | some _ => rfl
  | none =>
   simp only
   split
   ·split
    ·split
     ·rw [Option.bind_assoc]; rfl
     ·rfl
    ·rfl
   ·split
    ·split
     ·rw [Option.bind_assoc]; rfl
     ·rfl
    ·rfl
   ·rfl
 | binOp op t x y _ =>
  simp only
  split
  ·split
   ·exact Qms K
   ·split
    ·exact Qoj K
    ·rfl
  ·exact Qok K
  ·split
   ·cases op <;> rfl
   ·rfl
  ·split
   ·split <;> rfl
   ·rfl
  ·rfl
 | unOp op t x => simp only; split <;> rfl
 | convert s d x =>
  simp only
  split
  ·rfl
  ·rfl
  ·split
   ·split
    ·rfl
    ·split
     ·split <;> rfl
     ·rfl
   ·rfl
  ·split <;> rfl
  ·rfl
 | build t ps =>
  simp only
  split
  ·split
   ·split <;> rfl
   ·rfl
  ·split
   ·split <;> rfl
   ·rfl
  ·rfl
 | buildSlice t n ps =>
  simp only
  split
  ·split
   ·split
    ·split <;> rfl
    ·rfl
   ·rfl
  ·rfl
 | makeSlice t l c =>
  simp only
  split
  ·split
   ·split
    ·rw [Option.bind_assoc]; rfl
    ·rfl
   ·rfl
  ·rfl
 | extract x i =>
  simp only
  split
  ·split <;> rfl
  ·rfl
 | call c =>
  simp only
  split
  ·split
   ·split
    ·split <;> rfl
    ·split <;> rfl
    ·split <;> rfl
    ·rfl
   ·rfl
  ·split
   ·split <;> rfl
   ·rfl
  ·split
   ·split <;> rfl
   ·rfl
  ·exact Qje K
  ·split
   ·exact Qje K
   ·rfl
  ·rfl
 | makeFunc fn first caps =>
  cases fn <;> simp only <;> first | rfl | (split <;> split <;> first | rfl | (split <;> rfl))
 | _ => rfl
def St.with (st : St) (s : Nat → AV) (u : Nat → Bool) (bx : Nat → Option (TypeId × List AC)) (dd : Id → Bool) : St := { st with slot := s, used := u, box := bx, dead := dd }
theorem Qef (st : St) (s : Nat → AV) (u : Nat → Bool) (bx : Nat → Option (TypeId × List AC)) (dd : Id → Bool) : ∀ (ps : List PK) (avs : List AV), (∀ v ∈ avs, ∀ b ∈ Qax v, bx b = st.box b) → Qah (st.with s u bx dd) ps avs = Qah st ps avs
 | [], [], _ => rfl
 | p :: ps, v :: vs, h => by
  simp only [Qah, Qef st s u bx dd ps vs (fun v hv => h v (List.mem_cons_of_mem _ hv))]
  have : Qak (st.with s u bx dd) p v = Qak st p v := by
   unfold Qak
   cases p with
   | val agg c => cases agg <;> cases v <;> rfl
   | lent agg c => cases agg <;> cases v <;> rfl
   | give agg c => cases agg <;> cases v <;> rfl
   | clo f fst t c =>
    cases v with
    | one x =>
     cases x with
     | fn g fst' caps =>
      match caps, h with
      | [(b, 0)], h => simp only [show (st.with s u bx dd).box b = st.box b from h (.one (.fn g fst' [(b, 0)])) (by simp) b (by simp [Qax])]
      | [], _ => rfl
      | [(b, n + 1)], _ => rfl
      | (b, off) :: _ :: _, _ => cases off <;> rfl
     | _ => rfl
    | _ => rfl
   | box t c own rw =>
    cases v with
    | one x =>
     cases x with
     | ptr b off =>
      cases off with
      | zero => simp only [show (st.with s u bx dd).box b = st.box b from h (.one (.ptr b 0)) (by simp) b (by simp [Qax])]; rfl
      | succ n => rfl
     | _ => rfl
    | _ => rfl
  rw [this]
 | [], _ :: _, _ => rfl
 | _ :: _, [], _ => rfl
theorem Qmh {st : St} {x : AC} {id : Id} (hi : id ∈ AC.ids [x]) : id ∈ idsOf st (.one x) := by
 cases x with
 | ptr b off => simp [AC.ids] at hi
 | fn f fst caps => simp [AC.ids] at hi
 | _ => exact hi
theorem Qib : ∀ (c : CK) (l : List AC), (∀ id ∈ AC.ids (c.mask l).1, id ∈ AC.ids l) ∧ ∀ id ∈ AC.ids (c.mask l).2, id ∈ AC.ids l
 | .unit, l => ⟨fun id h => by simp [CK.mask, AC.ids] at h, fun id h => h⟩
 | .pair a b, l => by
  obtain ⟨h1, h2⟩ := Qib a l
  obtain ⟨h3, h4⟩ := Qib b (a.mask l).2
  refine ⟨fun id h => ?_, fun id h => h2 id (h4 id h)⟩
  simp only [CK.mask, AC.ids_append, List.mem_append] at h
  exact h.elim (h1 id) fun h => h2 id (h3 id h)
 | .arr _ n, l => by
  have e : AC.ids l = AC.ids (l.take n) ++ AC.ids (l.drop n) := by rw [← AC.ids_append, List.take_append_drop]
  exact ⟨fun id h => by rw [e]; exact List.mem_append_left _ h, fun id h => by rw [e]; exact List.mem_append_right _ h⟩
 | .any, [] | .int _, [] | .bool, [] | .str, [] | .sl _ _, [] => ⟨fun id h => h, fun id h => h⟩
 | .any, x :: l => ⟨fun id h => by simp [CK.mask, AC.ids] at h, fun id h => by
   have : x :: l = [x] ++ l := rfl
   rw [this, AC.ids_append]; exact List.mem_append_right _ h⟩
 | .int _, x :: l | .bool, x :: l | .str, x :: l | .sl _ _, x :: l => by
  have : x :: l = [x] ++ l := rfl
  refine ⟨fun id h => ?_, fun id h => ?_⟩ <;> rw [this, AC.ids_append]
  ·exact List.mem_append_left _ h
  ·exact List.mem_append_right _ h
theorem Qpn {c : CK} (l : List AC) {id : Id} (h : id ∈ AC.ids (c.mask l).1) : id ∈ AC.ids l := (Qib c l).1 id h
theorem Qdq (st : St) : ∀ {ps : List PK} {avs : List AV} {ls : List (List AC)}, Qah st ps avs = some ls → ∀ l ∈ ls, ∀ id ∈ AC.ids l, ∃ v ∈ avs, id ∈ idsOf st v
 | [], [], ls, h, l, hl, _, _ => by simp only [Qah, Zj] at h; subst h; simp at hl
 | p :: ps, v :: vs, ls, h, l, hl, id, hi => by
  simp only [Qah] at h
  split at h <;> try cases h
  rename_i l1 lm h1 h2
  rcases List.mem_cons.1 hl with rfl | hl
  ·refine ⟨v, by simp, ?_⟩
   unfold Qak at h1
   split at h1 <;> try cases h1
   ·exact hi
   ·exact Qmh hi
   ·exact hi
   ·exact Qmh hi
   ·exact hi
   ·exact Qmh hi
   ·split at h1
    ·rename_i t' l' hb
     split at h1
     ·simp only [Zj] at h1; subst h1
      simp only [idsOf, List.flatMap_cons, List.flatMap_nil, List.append_nil, hb]; exact Qpn _ hi
     ·cases h1
    ·cases h1
   ·split at h1
    ·rename_i t' l' hb
     split at h1
     ·simp only [Zj] at h1; subst h1
      simp only [idsOf, hb]; exact hi
     ·cases h1
    ·cases h1
  ·obtain ⟨w, hw, hh⟩ := Qdq st h2 l hl id hi
   exact ⟨w, List.mem_cons_of_mem _ hw, hh⟩
 | [], _ :: _, _, h, _, _, _, _ => by simp [Qah] at h
 | _ :: _, [], _, h, _, _, _, _ => by simp [Qah] at h
theorem Qjm : ∀ {rs : List (CK × Bool)} {ls : List (List AC)} {id : Id}, id ∈ Qao rs ls → ∃ l ∈ ls, id ∈ AC.ids l
 | r :: rs, l :: ls, id, h => by
  simp only [Qao, List.mem_append] at h
  rcases h with h | h
  ·split at h
   ·exact ⟨l, by simp, h⟩
   ·simp at h
  ·obtain ⟨l', h1, h2⟩ := Qjm h
   exact ⟨l', List.mem_cons_of_mem _ h1, h2⟩
 | [], _, _, h => by simp [Qao] at h
 | _ :: _, [], _, h => by simp [Qao] at h
theorem Qlh : ∀ {rs : List (CK × Bool)} {ls : List (List AC)} {id : Id}, id ∈ roIds rs ls → ∃ l ∈ ls, id ∈ AC.ids l
 | r :: rs, l :: ls, id, h => by
  simp only [roIds, List.mem_append] at h
  rcases h with h | h
  ·split at h
   ·simp at h
   ·exact ⟨l, by simp, h⟩
  ·obtain ⟨l', h1, h2⟩ := Qlh h
   exact ⟨l', List.mem_cons_of_mem _ h1, h2⟩
 | [], _, _, h => by simp [roIds] at h
 | _ :: _, [], _, h => by simp [roIds] at h
theorem Qbi {α : Type} {p q : α → Bool} : ∀ {l : List α}, (∀ x ∈ l, p x = q x) → l.all p = l.all q
 | [], _ => rfl
 | x :: l, h => by simp only [List.all_cons, h x (by simp), Qbi fun y hy => h y (List.mem_cons_of_mem _ hy)]
theorem Qhe {s : Nat → AV} {u : Nat → Bool} {bx : Nat → Option (TypeId × List AC)} {dd : Id → Bool} {rs : List (CK × Bool)} {ls : List (List AC)} (h : ∀ l ∈ ls, ∀ id ∈ AC.ids l, dd id = st.dead id) : Qbs (st.with s u bx dd) rs ls = Qbs st rs ls := by
 unfold Qbs
 have h1 : ls.all (st.with s u bx dd).fresh = ls.all st.fresh := Qbi fun l hl => Qbi fun id hi => by show (!dd id) = _; rw [h l hl id hi]
 have h2 : (Qao rs ls).all (fun i => (st.with s u bx dd).rights i && !(roIds rs ls).contains i) = (Qao rs ls).all (fun i => st.rights i && !(roIds rs ls).contains i) := Qbi fun id hi => by
  obtain ⟨l, hl, hi⟩ := Qjm hi
  show ((!dd id && !st.ice id) && _) = ((!st.dead id && !st.ice id) && _)
  rw [h l hl id hi]
 rw [h1, h2]
theorem Qjf {K : AV → Option R} {g : FuncId} {args : List AV} (s : Nat → AV) (u : Nat → Bool) (bx : Nat → Option (TypeId × List AC)) (dd : Id → Bool) (h : ∀ v ∈ args, ∀ b ∈ Qax v, bx b = st.box b) (hd : ∀ v ∈ args, ∀ id ∈ idsOf st v, dd id = st.dead id) :
  callQ E key (st.with s u bx dd) g args K = callQ E key st g args K := by
 unfold callQ
 simp only [Qef st s u bx dd _ args h]
 cases hf : E.fns g with
 | none => rfl
 | some f =>
  simp only
  cases hls : Qah st f.sig.params args with
  | none => rfl
  | some ls =>
   simp only
   rw [Qhe fun l hl id hi => by
    obtain ⟨v, hv, hh⟩ := Qdq st hls l hl id hi
    exact hd v hv id hh]
theorem Qnt {K : AV → Option R} {s : Nat → AV} {u : Nat → Bool} {bx : Nat → Option (TypeId × List AC)} {dd : Id → Bool} (h : ∀ x ∈ o.op.operands, opnd (st.with s u bx dd) x = opnd st x)
  (hb : ∀ x ∈ o.op.operands, ∀ b ∈ Qax (opnd st x), bx b = st.box b) (hd : ∀ x ∈ o.op.operands, ∀ id ∈ idsOf st (opnd st x), dd id = st.dead id) : evalQ E key o (st.with s u bx dd) K = evalQ E key o st K := by
 unfold evalQ
 generalize o.op = op at h hb hd
 cases op with
 | move x => simp only; rw [h x (by simp [Op.operands])]
 | assign x => simp only; rw [h x (by simp [Op.operands])]
 | pick c a b => simp only; rw [h c (by simp [Op.operands]), h a (by simp [Op.operands]), h b (by simp [Op.operands])]
 | nilCheck x => simp only; rw [h x (by simp [Op.operands])]
 | load t x =>
  simp only
  rw [h x (by simp [Op.operands])]
  cases hx : opnd st x with
  | one y =>
   cases y with
   | ptr b off => simp only [show (st.with s u bx dd).box b = st.box b from hb x (by simp [Op.operands]) b (by rw [hx]; simp [Qax])]
   | _ => rfl
  | ep id e c xs i off src own =>
   cases own with
   | false => rfl
   | true => simp only [show (st.with s u bx dd).dead id = st.dead id from hd x (by simp [Op.operands]) id (by rw [hx]; simp [idsOf])]
  | pi b off n k j => simp only [show (st.with s u bx dd).box b = st.box b from hb x (by simp [Op.operands]) b (by rw [hx]; simp [Qax])]
  | _ => rfl
 | fieldAddr s x f => simp only; rw [h x (by simp [Op.operands])]
 | field s x f => simp only; rw [h x (by simp [Op.operands])]
 | indexAddr t x i => simp only; rw [h x (by simp [Op.operands]), h i (by simp [Op.operands])]
 | index t x i => simp only; rw [h x (by simp [Op.operands]), h i (by simp [Op.operands])]
 | slice t x lo hi mx =>
  cases mx with
  | some _ => rfl
  | none =>
   have hb : ∀ d, Qbf (st.with s u bx dd) d lo = Qbf st d lo := fun d => by
    cases lo with
    | none => rfl
    | some y => simp only [Qbf]; rw [h y (by simp [Op.operands])]
   have hb' : ∀ d, Qbf (st.with s u bx dd) d hi = Qbf st d hi := fun d => by
    cases hi with
    | none => rfl
    | some y => simp only [Qbf]; rw [h y (by simp [Op.operands])]
   simp only [hb, hb']; rw [h x (by simp [Op.operands])]
 | binOp op t x y _ => simp only; rw [h x (by simp [Op.operands]), h y (by simp [Op.operands])]
 | unOp op t x => simp only; rw [h x (by simp [Op.operands])]
 | convert a d x =>
  simp only
  rw [h x (by simp [Op.operands])]
  have hd' := hd x (by simp [Op.operands])
  generalize opnd st x = y at hd'
  generalize E.P.underlying a = A
  generalize E.P.underlying d = D
  cases A with
  | none => rfl
  | some A =>
   cases D with
   | none => cases A <;> rfl
   | some D =>
    cases A with
    | slice e =>
     cases D with
     | string =>
      cases y with
      | one y =>
       cases y with
       | sl id own vw e c xs src =>
        have hb : (own && dd id) = (own && st.dead id) := by
         cases own with
         | false => rfl
         | true => rw [hd' id (by simp [idsOf, AC.ids])]
        show (match E.P.underlying _ with | some (.int .u8) => (if (own && dd id) = true then none else _) | _ => none) = (match E.P.underlying _ with | some (.int .u8) => (if (own && st.dead id) = true then none else _) | _ => none)
        rw [hb]
       | _ => rfl
      | _ => rfl
     | _ => first | rfl | (cases y <;> first | rfl | (rename_i y; cases y <;> rfl))
    | _ => cases D <;> first | rfl | (cases y <;> first | rfl | (rename_i y; cases y <;> rfl))
 | build t ps =>
  have h1 : ps.all (fun p => (opnd (st.with s u bx dd) p.2).plain) = ps.all (fun p => (opnd st p.2).plain) := by
   rw [← Array.all_toList, ← Array.all_toList]
   exact all_congr' fun p hp => by rw [h p.2 (by simp [Op.operands]; exact ⟨p.1, by simpa using hp⟩)]
  have h2 : ps.toList.map (fun p => (p.1, (opnd (st.with s u bx dd) p.2).cells)) = ps.toList.map (fun p => (p.1, (opnd st p.2).cells)) :=
   List.map_congr_left fun p hp => by rw [h p.2 (by simp [Op.operands]; exact ⟨p.1, by simpa using hp⟩)]
  simp only [h1, h2]
 | buildSlice t n ps =>
  have h1 : ps.all (fun p => (opnd (st.with s u bx dd) p.2).plain) = ps.all (fun p => (opnd st p.2).plain) := by
   rw [← Array.all_toList, ← Array.all_toList]
   exact all_congr' fun p hp => by rw [h p.2 (by simp [Op.operands]; exact ⟨p.1, by simpa using hp⟩)]
  have h2 : ps.toList.map (fun p => (opnd (st.with s u bx dd) p.2).cells) = ps.toList.map (fun p => (opnd st p.2).cells) :=
   List.map_congr_left fun p hp => by rw [h p.2 (by simp [Op.operands]; exact ⟨p.1, by simpa using hp⟩)]
  simp only [h1, h2]
 | makeSlice t l c => simp only; rw [h l (by simp [Op.operands])]
 | extract x i => simp only; rw [h x (by simp [Op.operands])]
 | call c =>
  have h1 : c.args.toList.map (opnd (st.with s u bx dd)) = c.args.toList.map (opnd st) := List.map_congr_left fun x hx => h x (by simp [Op.operands, Call.operands]; right; simpa using hx)
  have h2 : ∀ x ∈ c.args.toList, opnd (st.with s u bx dd) x = opnd st x := fun x hx => h x (by simp [Op.operands, Call.operands]; right; simpa using hx)
  have h3 : ∀ v ∈ c.args.toList.map (opnd st), ∀ b ∈ Qax v, bx b = st.box b := fun v hv b he => by
   obtain ⟨x, hx, rfl⟩ := List.mem_map.1 hv
   exact hb x (by simp [Op.operands, Call.operands]; right; simpa using hx) b he
  have h4 : ∀ v ∈ c.args.toList.map (opnd st), ∀ id ∈ idsOf st v, dd id = st.dead id := fun v hv id hi => by
   obtain ⟨x, hx, rfl⟩ := List.mem_map.1 hv
   exact hd x (by simp [Op.operands, Call.operands]; right; simpa using hx) id hi
  simp only [h1, Qjf s u bx dd h3 h4]
  split
  ·split
   ·rename_i x t hx ht
    rw [h2 x (by rw [hx]; simp)]
   ·rfl
  ·split
   ·rename_i x y hx
    rw [h2 x (by rw [hx]; simp), h2 y (by rw [hx]; simp)]
   ·rfl
  ·split
   ·rename_i x y hx
    rw [h2 x (by rw [hx]; simp), h2 y (by rw [hx]; simp)]
   ·rfl
  ·rfl
  ·rename_i t hc
   have ht : (st.with s u bx dd).slot t = st.slot t := h (.tmp t) (by simp [Op.operands, Call.operands, hc])
   rw [ht]
   split
   ·rename_i g fst caps hs
    have hb5 := hb (.tmp t) (by simp [Op.operands, Call.operands, hc])
    have hd5 := hd (.tmp t) (by simp [Op.operands, Call.operands, hc])
    rw [show opnd st (.tmp t) = st.slot t from rfl, hs] at hb5 hd5
    have k3 : ∀ v ∈ caps.map (fun p => AV.one (.ptr p.1 p.2)), ∀ b ∈ Qax v, bx b = st.box b := fun v hv b he => by
     obtain ⟨p, hp, rfl⟩ := List.mem_map.1 hv
     simp only [Qax, List.mem_singleton] at he
     subst he
     exact hb5 p.1 (List.mem_map.2 ⟨p, hp, rfl⟩)
    have k4 : ∀ v ∈ caps.map (fun p => AV.one (.ptr p.1 p.2)), ∀ id ∈ idsOf st v, dd id = st.dead id := fun v hv id hi => by
     obtain ⟨p, hp, rfl⟩ := List.mem_map.1 hv
     exact hd5 id (by simp only [idsOf, List.mem_flatMap]; exact ⟨p, hp, hi⟩)
    refine Qjf s u bx dd (fun v hv => ?_) (fun v hv => ?_)
    ·cases fst <;> simp only [Zy, Zz, List.mem_append] at hv
     ·exact hv.elim (h3 v) (k3 v)
     ·exact hv.elim (k3 v) (h3 v)
    ·cases fst <;> simp only [Zy, Zz, List.mem_append] at hv
     ·exact hv.elim (h4 v) (k4 v)
     ·exact hv.elim (k4 v) (h4 v)
   ·rfl
  ·rfl
 | makeFunc fn first caps =>
  have h1 : caps.toList.map (opnd (st.with s u bx dd)) = caps.toList.map (opnd st) := List.map_congr_left fun x hx => h x (by simp [Op.operands]; right; simpa using hx)
  have h2 : first.toList.map (opnd (st.with s u bx dd)) = first.toList.map (opnd st) := List.map_congr_left fun x hx => h x (by simp [Op.operands]; left; simpa using hx)
  cases fn <;> simp only [h1, h2]
 | _ => rfl
where
 all_congr' {α : Type} {p q : α → Bool} : ∀ {l : List α}, (∀ x ∈ l, p x = q x) → l.all p = l.all q
 | [], _ => rfl
 | x :: l, h => by simp only [List.all_cons, h x (by simp), all_congr' fun y hy => h y (List.mem_cons_of_mem _ hy)]
end
end
section
section
variable {E : Env} {st : St} {key rid i j : Nat} {o oi oj : Oper} {ops : Array Oper} {R : Type} {r : R} {K : St → Option R}
theorem Qhr {t : Nat} {v : AV} (h : st.slot t = v) : st.put t v = st := by
 unfold St.put
 have : (fun n => if n = t then v else st.slot n) = st.slot := by
  funext n
  split
  ·rename_i e; subst e; exact h.symm
  ·rfl
 rw [this]
theorem Qfk {t : Nat} {K : Bool → St → Option R} (h : Qjc st t K = some r) : ∃ p, st.slot t = .one (.bool p) ∧ K p st = some r := by
 unfold Qjc at h
 split at h
 ·rename_i p hp
  refine ⟨p, hp, ?_⟩
  cases p with
  | true => rw [Qhr hp] at h; exact h
  | false => simp only [Zz] at h; rw [Qhr hp] at h; exact h
 ·cases h
theorem Qku {t : Nat} {p : Bool} {K : Bool → St → Option R} (h : st.slot t = .one (.bool p)) : Qjc st t K = K p st := by
 unfold Qjc
 rw [h]
 cases p with
 | true => simp only [Zy]; rw [Qhr h]
 | false => simp only [Zz]; rw [Qhr h]
theorem Qbx {s : Nat → AV} {u : Nat → Bool} {bx : Nat → Option (TypeId × List AC)} {dd : Id → Bool} (h : ∀ t ∈ o.looksAt ops, s t = st.slot t) : ∀ x ∈ o.op.operands, opnd (st.with s u bx dd) x = opnd st x := by
 intro x hx
 cases x with
 | tmp t => exact h t (List.mem_append_left _ (List.mem_filterMap.2 ⟨.tmp t, by simpa using hx, rfl⟩))
 | _ => rfl
def Qdr : List (Nat × TypeId × List AC) → Nat → Option (TypeId × List AC)
 | [], _ => none
 | (b, x) :: l, n => match Qdr l n with | some y => some y | none => if n = b then some x else none
theorem Qde : ∀ (l : List (Nat × TypeId × List AC)) (st : St) (n : Nat), (st.setBoxes l).box n = match Qdr l n with | some y => some y | none => st.box n
 | [], _, _ => rfl
 | (b, x) :: l, st, n => by
  simp only [St.setBoxes, Qdr]
  rw [Qde l]
  cases Qdr l n with
  | some y => rfl
  | none =>
   simp only [St.setBox]
   split <;> rfl
theorem Qdy : ∀ {l : List (Nat × TypeId × List AC)} {n : Nat} {x : TypeId × List AC}, Qdr l n = some x → (n, x) ∈ l
 | [], _, _, h => by cases h
 | (b, y) :: l, n, x, h => by
  unfold Qdr at h
  cases hf : Qdr l n with
  | some z => rw [hf] at h; simp only [Zj] at h; subst h; exact List.mem_cons_of_mem _ (Qdy hf)
  | none =>
   rw [hf] at h
   simp only at h
   split at h
   ·rename_i e; subst e; simp only [Zj] at h; subst h; simp
   ·cases h
def St.upd (st : St) (key : Nat) (dst : Option Nat) (v : AV) (bx : List (Nat × TypeId × List AC)) (kl : Option Id) : St :=
 St.put? { st with used := (st.use key).used, dead := (match kl with | some id => (st.kill id).dead | none => st.dead), box := (st.setBoxes bx).box } dst v
def Qfb (E : Env) (ops : Array Oper) (rid i : Nat) (b b' : Nat → Option (TypeId × List AC)) : Prop :=
 ∀ n, b' n = b n ∨ (∃ j o, ops[j]? = some o ∧ newOp o = true ∧ Qam ops i j = false ∧ n = keyOf rid j) ∨
  (Qal ops = true ∧ ∃ j o x, ops[j]? = some o ∧ j ≠ i ∧ Qam ops i j = false ∧ b n = some x ∧ x.1 ∈ Qcm E o)
def Qfw (ops : Array Oper) (rid i : Nat) (d d' : Id → Bool) : Prop :=
 ∀ id, d' id = d id ∨ id.1 ∈ Qff ops rid i
theorem Qea (hj : ops[j]? = some oj) (hne : j ≠ i) (hord : Qam ops i j = false) : alone ops i = false := by
 have hjs : j < ops.size := (Array.getElem?_eq_some_iff.1 hj).1
 cases h : alone ops i with
 | false => rfl
 | true =>
  have := List.all_eq_true.1 h j (List.mem_range.2 hjs)
  simp [hne, hord] at this
theorem Qgg (hi : ops[i]? = some oi) (hj : ops[j]? = some oj) (hne : j ≠ i) (hord : Qam ops i j = false) (h : Qaq ops i = true) : Qba oj = true := by
 unfold Qaq at h
 have := List.all_eq_true.1 h j (List.mem_range.2 (Array.getElem?_eq_some_iff.1 hj).1)
 have hod : ops.getD j default = oj := by simp [Array.getD_eq_getD_getElem?, hj]
 rw [hod, hord] at this
 simpa [hne] using this
theorem Qbl (ho : ops[i]? = some o) (hc : Qbn E ops rid i st = true) :
  (∀ x ∈ o.op.operands, ∀ b ∈ Qax (opnd st x), ∀ j, j < ops.size → (!newOp (ops.getD j default) || b != keyOf rid j || Qam ops i j) = true) ∧
  (Qal ops = false ∨ Qba o = false → ∀ x ∈ o.op.operands, ∀ id ∈ idsOf st (opnd st x), id.1 ∉ Qff ops rid i) ∧
  (alone ops i = false → Qda ops i = false → ∀ d x l, Qai ops o = some (some d) → o.op.operands.toList = x :: l → ∀ id ow vw e c xs src, opnd st x = .one (.sl id ow vw e c xs src) → id.1 = keyOf rid d) ∧
  (alone ops i = false → loud E o = true → Qfi E o = true → Qjz E o = true ∨ ∀ x ∈ o.op.operands, idsOf st (opnd st x) = []) ∧
  (Qay o = false → (Qaf o && Qaq ops i) = false → ∀ x ∈ o.op.operands, ∀ b ∈ Qax (opnd st x), ∀ y, st.box b = some y → ∀ j oj, ops[j]? = some oj → j ≠ i → Qam ops i j = false → y.1 ∉ Qcm E oj) := by
 unfold Qbn at hc
 simp only [ho, Zd] at hc
 obtain ⟨⟨⟨⟨h1, h2⟩, h3⟩, h4⟩, h5⟩ := hc
 refine ⟨fun x hx b he j hj => ?_, fun hps x hx id hi hm => ?_, fun hal hno d x l hb hl id ow vw e c xs src hx => ?_, fun hal hlo hro => ?_, fun hbl hns x hx b he y hy j oj hj hne hord hm => ?_⟩
 ·have := List.all_eq_true.1 h1 x (by simpa using hx)
  generalize opnd st x = y at he this
  cases y with
  | one y =>
   cases y with
   | ptr b' off =>
    simp only [Qax, List.mem_singleton] at he
    subst he
    exact List.all_eq_true.1 (by simpa only [Qdb] using this) j (List.mem_range.2 hj)
   | fn f fst caps =>
    simp only [Qax] at he
    obtain ⟨p, hp, rfl⟩ := List.mem_map.1 he
    exact List.all_eq_true.1 (List.all_eq_true.1 (by simpa only [Qdb] using this) p hp) j (List.mem_range.2 hj)
   | _ => simp [Qax] at he
  | pi b' off n k q =>
   simp only [Qax, List.mem_singleton] at he
   subst he
   exact List.all_eq_true.1 (by simpa only [Qdb] using this) j (List.mem_range.2 hj)
  | _ => simp [Qax] at he
 ·rcases Bool.or_eq_true _ _ ▸ h2 with h2 | h2
  ·obtain ⟨j, hj, hjm⟩ := List.mem_filterMap.1 hm
   have := List.all_eq_true.1 h2 j hj
   have hnal : j < ops.size → alone ops j = true → (j == i || Qam ops i j) = true := fun _ ha => by
    have := List.all_eq_true.1 ha i (List.mem_range.2 (Array.getElem?_eq_some_iff.1 ho).1)
    unfold Qam at this ⊢
    simp only [Bool.or_eq_true, beq_iff_eq] at this ⊢
    rcases this with h | h | h
    ·exact .inl h.symm
    ·exact .inr (.inr h)
    ·exact .inr (.inl h)
   have this : (match Qai ops (ops.getD j default) with | some (some _) => false | _ => true) = true := by
    rcases Bool.or_eq_true _ _ ▸ this with h | h
    ·have hjs := List.mem_range.1 hj
     cases hab : Qai ops (ops.getD j default) with
     | none => rfl
     | some y => cases y with
      | none => rfl
      | some d =>
       rw [hab] at hjm
       simp only at hjm
       rcases Bool.or_eq_true _ _ ▸ h with h | h
       ·simp only [hnal hjs h, if_true] at hjm; cases hjm
       ·split at hjm
        ·cases hjm
        ·rename_i hc
         simp only [Bool.or_eq_true, beq_iff_eq, not_or, Bool.not_eq_true] at hc
         have hst := Qgg (i := j) (j := i) (oi := ops[j]'hjs) (oj := o) (Array.getElem?_eq_getElem hjs) ho (Ne.symm hc.1) (by have := hc.2; unfold Qam at this ⊢; rw [Bool.or_comm]; exact this) h
         rcases hps with hps | hps
         ·rw [hps] at h2; cases h2
         ·rw [hst] at hps; cases hps
    ·exact h
   cases hab : Qai ops (ops.getD j default) with
   | none => rw [hab] at hjm; cases hjm
   | some y => cases y with
    | none => rw [hab] at hjm; cases hjm
    | some d => rw [hab] at this; cases this
  ·have := List.all_eq_true.1 (List.all_eq_true.1 h2 x (by simpa using hx)) id hi
   simp only [Bool.not_eq_true'] at this
   rw [List.contains_iff_mem.2 hm] at this
   cases this
 ·rw [hb] at h3
  simp only [hl, hx, hal, hno, Bool.or_false] at h3
  simpa [Qkw] using h3
 ·rw [hlo, hro, hal] at h4
  simp only [Bool.and_self, Zx, Bool.false_or] at h4
  rcases Bool.or_eq_true _ _ ▸ h4 with h4 | h4
  ·exact .inl h4
  ·right
   intro x hx
   have := List.all_eq_true.1 h4 x (by simpa using hx)
   simpa using this
 ·rw [hbl, hns] at h5
  simp only [Bool.false_or] at h5
  have := List.all_eq_true.1 h5 x (by simpa using hx)
  unfold Qev at this
  have := List.all_eq_true.1 this b he
  rw [hy] at this
  have hjs : j < ops.size := (Array.getElem?_eq_some_iff.1 hj).1
  have := List.all_eq_true.1 this j (List.mem_range.2 hjs)
  have hod : ops.getD j default = oj := by simp [Array.getD_eq_getD_getElem?, hj]
  rw [hod, hord] at this
  have hne' : (j == i) = false := by simp [hne]
  rw [hne'] at this
  simp only [Bool.or_self, Bool.false_or, Bool.not_eq_true'] at this
  rw [List.contains_iff_mem.2 hm] at this
  cases this
theorem Qdl (ho : ops[i]? = some o) (hc : Qbn E ops rid i st = true) (hns : (Qaf o && Qaq ops i) = false) (hbl : Qay o = false ∨ Qal ops = false) {b' : Nat → Option (TypeId × List AC)} (hb : Qfb E ops rid i st.box b') :
  ∀ x ∈ o.op.operands, ∀ b ∈ Qax (opnd st x), b' b = st.box b := by
 intro x hx b he
 have hc5 := (Qbl ho hc).2.2.2.2
 have hc := (Qbl ho hc).1 x hx b he
 rcases hb b with h | ⟨j, oj, hj, hn, hord, rfl⟩ | ⟨hpf, j, oj, y, hj, hne, hord, hy, hm⟩
 ·exact h
 rotate_left
 ·rcases hbl with hbl | hbl
  ·exact absurd hm (hc5 hbl hns x hx b he y hy j oj hj hne hord)
  ·rw [hpf] at hbl; cases hbl
 ·have hjs : j < ops.size := (Array.getElem?_eq_some_iff.1 hj).1
  have := hc j hjs
  have hod : ops.getD j default = oj := by simp [Array.getD_eq_getD_getElem?, hj]
  rw [hod, hn, hord] at this
  simp at this
theorem Qeu (ho : ops[i]? = some o) (hc : Qbn E ops rid i st = true) (hps : Qal ops = false ∨ Qba o = false) {d' : Id → Bool} (hd : Qfw ops rid i st.dead d') :
  ∀ x ∈ o.op.operands, ∀ id ∈ idsOf st (opnd st x), d' id = st.dead id := by
 intro x hx id hi
 rcases hd id with h | h
 ·exact h
 ·exact absurd h ((Qbl ho hc).2.1 hps x hx id hi)
theorem Qnu {s : Nat → AV} {u : Nat → Bool} {bx : Nat → Option (TypeId × List AC)} {dd : Id → Bool} {v : AV} (h : ∀ b ∈ Qax v, bx b = st.box b) : idsOf (st.with s u bx dd) v = idsOf st v := by
 unfold idsOf
 cases v with
 | one x =>
  cases x with
  | ptr b off => simp only [show (st.with s u bx dd).box b = st.box b from h b (by simp [Qax])]
  | fn f fst caps =>
   simp only
   have : ∀ (l : List (Nat × Nat)), (∀ p ∈ l, bx p.1 = st.box p.1) → (l.flatMap fun p => match (st.with s u bx dd).box p.1 with | some x => AC.ids x.2 | none => []) = l.flatMap fun p => match st.box p.1 with | some x => AC.ids x.2 | none => [] := by
    intro l hl
    induction l with
    | nil => rfl
    | cons p l ih =>
     rw [List.flatMap_cons, List.flatMap_cons, ih fun q hq => hl q (List.mem_cons_of_mem _ hq)]
     congr 1
     rw [show (st.with s u bx dd).box p.1 = st.box p.1 from hl p (by simp)]
   exact this caps fun p hp => h p.1 (by simp only [Qax]; exact List.mem_map.2 ⟨p, hp, rfl⟩)
  | _ => rfl
 | pi b off n k j => simp only [show (st.with s u bx dd).box b = st.box b from h b (by simp [Qax])]
 | _ => rfl
theorem Qhb (ho : ops[i]? = some o) {s : Nat → AV} {u : Nat → Bool} {bx : Nat → Option (TypeId × List AC)} {dd : Id → Bool} (h : ∀ t ∈ o.looksAt ops, s t = st.slot t) (hb : ∀ x ∈ o.op.operands, ∀ b ∈ Qax (opnd st x), bx b = st.box b) :
  Qbn E ops rid i (st.with s u bx dd) = Qbn E ops rid i st := by
 have h0 : ∀ x ∈ o.op.operands.toList, opnd (st.with s u bx dd) x = opnd st x := fun x hx => Qbx h x (by simpa using hx)
 have h1 : ∀ x ∈ o.op.operands.toList, idsOf (st.with s u bx dd) (opnd (st.with s u bx dd) x) = idsOf st (opnd st x) := fun x hx => by
  rw [h0 x hx]
  exact Qnu (fun b he => hb x (by simpa using hx) b he)
 have e1 : o.op.operands.toList.all (fun x => Qdb ops rid i (opnd (st.with s u bx dd) x)) = o.op.operands.toList.all (fun x => Qdb ops rid i (opnd st x)) := Qbi fun x hx => by rw [h0 x hx]
 have e2 : o.op.operands.toList.all (fun x => (idsOf (st.with s u bx dd) (opnd (st.with s u bx dd) x)).all fun id => !(Qff ops rid i).contains id.1) = o.op.operands.toList.all (fun x => (idsOf st (opnd st x)).all fun id => !(Qff ops rid i).contains id.1) := Qbi fun x hx => by rw [h1 x hx]
 have e3 : o.op.operands.toList.all (fun x => (idsOf (st.with s u bx dd) (opnd (st.with s u bx dd) x)).isEmpty) = o.op.operands.toList.all (fun x => (idsOf st (opnd st x)).isEmpty) := Qbi fun x hx => by rw [h1 x hx]
 unfold Qbn
 simp only [ho]
 have e5 : o.op.operands.toList.all (fun x => Qev E ops i (st.with s u bx dd) (opnd (st.with s u bx dd) x)) = o.op.operands.toList.all (fun x => Qev E ops i st (opnd st x)) := Qbi fun x hx => by
  rw [h0 x hx]
  unfold Qev
  exact Qbi fun b he => by rw [show (st.with s u bx dd).box b = st.box b from hb x (by simpa using hx) b he]
 rw [e1, e2, e3, e5]
 congr 3
 cases hab : Qai ops o with
 | none => rfl
 | some y =>
  cases y with
  | none => rfl
  | some d =>
   simp only
   cases hl : o.op.operands.toList with
   | nil => rfl
   | cons x l => simp only [h0 x (by rw [hl]; simp)]
theorem Qet {d? : Option Nat} (h : Qai ops o = some d?) : ∃ c x y, o.op = .call c ∧ c.callee = .builtin .append ∧ c.args.toList = [x, y] ∧ o.op.operands.toList = [x, y] := by
 unfold Qai at h
 split at h
 ·rename_i c hc
  split at h
  ·rename_i t y h1 h2
   exact ⟨c, _, _, hc, h1, h2, by simp [hc, Op.operands, Call.operands, h1, h2]⟩
  ·rename_i v y h1 h2
   exact ⟨c, _, _, hc, h1, h2, by simp [hc, Op.operands, Call.operands, h1, h2]⟩
  ·cases h
 ·cases h
theorem Qkt {v : Value} {c : Call} {y : Operand} (h : Qai ops o = some none) (ho : o.op = .call c) : ∃ v y, c.args.toList = [.const v, y] := by
 unfold Qai at h
 rw [ho] at h
 simp only at h
 split at h
 ·split at h <;> cases h
 ·rename_i v y _ h2
  exact ⟨v, y, h2⟩
 ·cases h
theorem Qme {v : Value} : ∀ id ow vw e c xs src, Qcv v ≠ .one (.sl id ow vw e c xs src) := by
 intro id ow vw e c xs src h
 unfold Qcv at h
 split at h <;> simp [AV.bad] at h
theorem Qly {s : Nat → AV} {u : Nat → Bool} {bx : Nat → Option (TypeId × List AC)} {dd : Id → Bool} {ck : CK} {e : TypeId} {v : AV} (h : ∀ id ∈ idsOf st v, dd id = st.dead id) : Qhv (st.with s u bx dd) ck e v = Qhv st ck e v := by
 unfold Qhv
 cases v with
 | one x =>
  cases x with
  | sl id own vw e' c' ys src =>
   cases own with
   | false => rfl
   | true => simp only [show (st.with s u bx dd).dead id = st.dead id from h id (by simp [idsOf, AC.ids])]
  | _ => rfl
 | _ => rfl
theorem Qhw {c : Call} {d? : Option Nat} (hal : alone ops i = false) (hab : Qai ops o = some d?) (hop : o.op = .call c) (hca : c.callee = .builtin .append) {K : AV → St → Option R} (hclear : Qbn E ops rid i st = true) (ho : ops[i]? = some o)
  (h : effW E key o (st.use key) K = some r) : ∃ v kl, K v ({ st with used := (st.use key).used, dead := (match (kl : Option Id) with | some id => (st.kill id).dead | none => st.dead) }) = some r ∧
   (Qda ops i = false → ∀ id, kl = some id → ∃ d, Qai ops o = some (some d) ∧ id.1 = keyOf rid d) ∧
   ∀ s u b' dd, (∀ t ∈ o.looksAt ops, s t = st.slot t) → (∀ x ∈ o.op.operands, ∀ id ∈ idsOf st (opnd st x), dd id = st.dead id) → ∀ K' : AV → St → Option R, effW E key o ((st.with s u b' dd).use key) K' = K' v ({ st.with s u b' dd with used := ((st.with s u b' dd).use key).used, dead := (match kl with | some id => ((st.with s u b' dd).kill id).dead | none => dd) }) := by
 obtain ⟨c', X, Y, hop', hca', hargs, hoper⟩ := Qet hab
 rw [hop] at hop'
 cases hop'
 have hXm : X ∈ o.op.operands := by have : X ∈ o.op.operands.toList := by rw [hoper]; simp
                                    simpa using this
 have hYm : Y ∈ o.op.operands := by have : Y ∈ o.op.operands.toList := by rw [hoper]; simp
                                    simpa using this
 have hwith : ∀ s u b' dd, (∀ t ∈ o.looksAt ops, s t = st.slot t) → ∀ x ∈ o.op.operands, opnd ((st.with s u b' dd).use key) x = opnd st x := fun s u b' dd hs x hx => by
  have := Qbx (u := u) (bx := b') (dd := dd) hs x hx
  rw [← this]; cases x <;> rfl
 have huse : ∀ x, opnd (st.use key) x = opnd st x := fun x => by cases x <;> rfl
 unfold effW at h
 simp only [hop, hca, hargs] at h
 split at h <;> try cases h
 rename_i S' X' t t' hl1 hl2
 injection hl1 with e1 e2; injection e2 with e2 _; subst e1; subst e2
 split at h <;> try cases h
 rename_i e he
 split at h <;> try cases h
 rename_i ck z hck hz
 split at h
 case isFalse => cases h
 rename_i hcond
 split at h
 ·cases h
 rename_i ys hys
 rw [huse] at hys
 have hys' : ∀ s u b' dd, (∀ t ∈ o.looksAt ops, s t = st.slot t) → (∀ x ∈ o.op.operands, ∀ id ∈ idsOf st (opnd st x), dd id = st.dead id) → Qhv ((st.with s u b' dd).use key) ck e (opnd ((st.with s u b' dd).use key) Y) = some ys := fun s u b' dd hs hd => by
  rw [hwith s u b' dd hs Y hYm, ← hys]
  exact Qly (st := st.use key) (s := s) (u := fun n => if n = key then true else u n) (bx := b') (dd := dd) fun id hi => hd Y hYm id (by
   have : idsOf (st.use key) (opnd st Y) = idsOf st (opnd st Y) := by unfold idsOf; rfl
   rw [this] at hi; exact hi)
 rw [huse] at h
 split at h
 ·rename_i hX
  obtain ⟨zs, hzs, h⟩ := Option.bind_eq_some_iff.1 h
  refine ⟨_, none, h, (fun _ id hk => by cases hk), fun s u b' dd hs hd K' => ?_⟩
  unfold effW
  simp only [hop, hca, hargs, hl2, he, hck, hz]
  rw [if_pos hcond, hys' s u b' dd hs hd]
  simp only [hwith s u b' dd hs X hXm, hX, hzs, Zo]
  rfl
 ·rename_i id vw e' c' xs src hX
  split at h
  case isFalse => cases h
  rename_i hr
  simp only [Zd, Zq] at hr
  split at h
  case h_2 => cases h
  rename_i xs' hxs
  obtain ⟨zs, hzs, h⟩ := Option.bind_eq_some_iff.1 h
  have hbase : Qda ops i = false → ∃ d, Qai ops o = some (some d) ∧ id.1 = keyOf rid d := by
   intro hno
   cases d? with
   | none =>
    obtain ⟨v, y, hv⟩ := Qkt (v := .bool true) (y := X) hab hop
    rw [hargs] at hv
    injection hv with e1 _
    subst e1
    exact absurd hX (Qme id true vw e' c' xs src)
   | some d => exact ⟨d, hab, (Qbl ho hclear).2.2.1 hal hno d X [Y] hab hoper id true vw e' c' xs src hX⟩
  refine ⟨_, some id, h, (fun hno id' hk => by cases hk; exact hbase hno), fun s u b' dd hs hd K' => ?_⟩
  have hdd : dd id = st.dead id := hd X hXm id (by rw [hX]; simp [idsOf, AC.ids])
  have hr' : (((st.with s u b' dd).use key).rights id && decide (e' = e)) = true := by
   simp only [Zd, Zq]
   refine ⟨?_, hr.2⟩
   have h1 := hr.1
   unfold St.rights at h1 ⊢
   show (!dd id && !st.ice id) = true
   rw [hdd]; exact h1
  unfold effW
  simp only [hop, hca, hargs, hl2, he, hck, hz]
  rw [if_pos hcond, hys' s u b' dd hs hd]
  simp only [hwith s u b' dd hs X hXm, hX]
  rw [if_pos hr', hxs]
  simp only [hzs, Zo]
  rfl
 ·cases h
theorem Qmf (hbl : Qay o = true) {K : AV → Option R} {s : Nat → AV} {u : Nat → Bool} {bx : Nat → Option (TypeId × List AC)} {dd : Id → Bool} (h : ∀ x ∈ o.op.operands, opnd (st.with s u bx dd) x = opnd st x) : evalQ E key o (st.with s u bx dd) K = evalQ E key o st K := by
 unfold Qay at hbl
 unfold evalQ
 generalize o.op = op at h hbl
 cases op <;> simp only at hbl <;> try (cases hbl; done)
 all_goals simp only
 all_goals first | rfl | (rw [h _ (by simp [Op.operands])]) | skip
theorem Qjy (ho : ops[i]? = some o) (hbl : Qay o = true) (hpf : Qal ops = true) {s : Nat → AV} {u : Nat → Bool} {bx : Nat → Option (TypeId × List AC)} {dd : Id → Bool} (h : ∀ t ∈ o.looksAt ops, s t = st.slot t) :
  Qbn E ops rid i (st.with s u bx dd) = Qbn E ops rid i st := by
 have h0 : ∀ x ∈ o.op.operands.toList, opnd (st.with s u bx dd) x = opnd st x := fun x hx => Qbx h x (by simpa using hx)
 have e1 : o.op.operands.toList.all (fun x => Qdb ops rid i (opnd (st.with s u bx dd) x)) = o.op.operands.toList.all (fun x => Qdb ops rid i (opnd st x)) := Qbi fun x hx => by rw [h0 x hx]
 unfold Qbn
 simp only [ho, hbl, hpf, Bool.true_or, Bool.and_true]
 rw [e1]
 unfold Qay at hbl
 cases hop : o.op <;> simp only [hop] at hbl <;> first | (cases hbl; done) | simp [Qai, loud, Qfi, hop]
theorem Qgf (prs : List (Nat × TypeId × List AC)) (st : St) (k : Nat) : (st.use k).setBoxes prs = { st with used := (st.use k).used, box := (st.setBoxes prs).box } := by
 have : ∀ (prs : List (Nat × TypeId × List AC)) (a : St), a.setBoxes prs = { a with box := (a.setBoxes prs).box } := fun prs => by
  induction prs with
  | nil => intro a; rfl
  | cons p prs ih => intro a; simp only [St.setBoxes]; rw [ih]; rfl
 rw [this]
 have e : ((st.use k).setBoxes prs).box = (st.setBoxes prs).box := by
  funext n
  rw [Qde, Qde]
  rfl
 rw [e]
 rfl
theorem Qio : ∀ {ps : List PK} {avs : List AV} {ls : List (List AC)}, Qah st ps avs = some ls → ∀ lo, ∀ p ∈ Qaj ps avs lo, ∃ y, st.box p.1 = some y ∧ y.1 = p.2.1 ∧ y.1 ∈ ps.filterMap PK.rwType ∧ ∃ v ∈ avs, p.1 ∈ Qax v
 | [], _, _, _, lo, p, hp => by simp [Qaj] at hp
 | q :: ps, [], _, h, lo, p, hp => by simp [Qah] at h
 | q :: ps, v :: avs, ls, h, lo, p, hp => by
  simp only [Qah] at h
  split at h
  case h_2 => cases h
  rename_i l m h1 h2
  have more : ∀ lo', p ∈ Qaj ps avs lo' → ∃ y, st.box p.1 = some y ∧ y.1 = p.2.1 ∧ y.1 ∈ (q :: ps).filterMap PK.rwType ∧ ∃ w ∈ v :: avs, p.1 ∈ Qax w := fun lo' hp' => by
   obtain ⟨y, a1, a2, a3, w, hw, a4⟩ := Qio h2 lo' p hp'
   refine ⟨y, a1, a2, ?_, w, List.mem_cons_of_mem _ hw, a4⟩
   rw [List.filterMap_cons]
   split
   ·exact a3
   ·exact List.mem_cons_of_mem _ a3
  cases q with
  | val agg ck => exact more lo (by simpa [Qaj] using hp)
  | give agg ck => exact more lo (by simpa [Qaj] using hp)
  | clo f fst t ck => exact more lo (by simpa [Qaj] using hp)
  | lent agg ck => cases lo with
   | nil => exact more [] (by simpa [Qaj] using hp)
   | cons x lo => exact more lo (by simpa [Qaj] using hp)
  | box t ck own rw =>
   cases rw with
   | false => exact more lo (by simpa [Qaj] using hp)
   | true =>
    have hpt : ∃ b, v = .one (.ptr b 0) := by
     unfold Qak at h1
     split at h1 <;> first | exact ⟨_, rfl⟩ | (cases h1; done) | (rename_i he _; cases he; done) | simp_all
    obtain ⟨b, rfl⟩ := hpt
    simp only [Qak] at h1
    split at h1
    case h_2 => cases h1
    rename_i t' l' hb
    split at h1
    case isFalse => cases h1
    rename_i hc
    simp only [Zd, Zq] at hc
    cases lo with
    | nil => exact more [] (by simpa [Qaj] using hp)
    | cons x lo =>
     simp only [Qaj, List.mem_cons] at hp
     rcases hp with rfl | hp
     ·exact ⟨_, hb, hc.1, by rw [List.filterMap_cons]; simp only [PK.rwType]; rw [hc.1]; exact List.mem_cons_self, _, List.mem_cons_self, by simp [Qax]⟩
     ·exact more lo hp
theorem Qol {c : Call} {g : FuncId} (hal : alone ops i = false) (hop : o.op = .call c) (hca : c.callee = .value (.func g)) (hro : Qfi E o = true) (hlo : loud E o = true) {K : AV → St → Option R} (hclear : Qbn E ops rid i st = true) (ho : ops[i]? = some o)
  (h : effW E key o (st.use key) K = some r) : ∃ v prs, K v ((st.use key).setBoxes prs) = some r ∧ (∀ p ∈ prs, ∃ y, st.box p.1 = some y ∧ y.1 = p.2.1 ∧ y.1 ∈ Qcm E o ∧ ∃ x ∈ o.op.operands, p.1 ∈ Qax (opnd st x)) ∧
   ∀ s u b' dd, (∀ t ∈ o.looksAt ops, s t = st.slot t) → Qfb E ops rid i st.box b' → Qfw ops rid i st.dead dd → ∀ K' : AV → St → Option R, effW E key o ((st.with s u b' dd).use key) K' = K' v (((st.with s u b' dd).use key).setBoxes prs) := by
 have hns : (Qaf o && Qaq ops i) = false := by unfold Qaf; rw [hop]; simp
 have hnst : Qba o = false := by unfold Qba; rw [hop]; simp
 have hblind : Qay o = false := by unfold Qay; rw [hop]
 have hargm : ∀ x ∈ c.args.toList, x ∈ o.op.operands := fun x hx => by
  simp [hop, Op.operands, Call.operands]; right; simpa using hx
 have hwith : ∀ s u b' dd, (∀ t ∈ o.looksAt ops, s t = st.slot t) → c.args.toList.map (opnd ((st.with s u b' dd).use key)) = c.args.toList.map (opnd st) := fun s u b' dd hs => List.map_congr_left fun x hx => by
  have := Qbx (u := u) (bx := b') (dd := dd) hs x (hargm x hx)
  rw [← this]; cases x <;> rfl
 have huse : c.args.toList.map (opnd (st.use key)) = c.args.toList.map (opnd st) := List.map_congr_left fun x _ => by cases x <;> rfl
 have hids := (Qbl ho hclear).2.2.2.1 hal hlo hro
 have hmk : E.mks g = none := by
  unfold Qfi at hro
  simp only [hop, hca, Zd, Option.isNone_iff_eq_none] at hro
  exact hro.1
 have hcall : effW E key o (st.use key) K = callW E key (st.use key) g (c.args.toList.map (opnd st)) K := by
  unfold effW
  simp only [hop, hca, huse, hmk]
 have hcall' : ∀ s u b' dd, (∀ t ∈ o.looksAt ops, s t = st.slot t) → ∀ K' : AV → St → Option R, effW E key o ((st.with s u b' dd).use key) K' = callW E key ((st.with s u b' dd).use key) g (c.args.toList.map (opnd st)) K' := fun s u b' dd hs K' => by
  unfold effW
  simp only [hop, hca, hwith s u b' dd hs, hmk]
 rw [hcall] at h
 unfold callW at h
 cases hf : E.fns g with
 | none => rw [hf] at h; cases h
 | some f =>
  rw [hf] at h
  simp only at h
  split at h
  case isFalse => cases h
  rename_i hdist
  split at h
  ·cases h
  rename_i ls hls
  split at h
  case isFalse => cases h
  rename_i hp
  split at h
  case h_2 => cases h
  rename_i x hx
  obtain ⟨y, hy, h⟩ := Option.bind_eq_some_iff.1 h
  have hps : f.sig.params.all PK.plainRo = true := by
   unfold Qfi at hro
   simpa only [hop, hca, hf, hmk, Option.isNone_none, Bool.true_and] using hro
  have hown : Qao f.sig.ins ls = [] := by
   have : ∀ (ps : List PK) (ls : List (List AC)), ps.all PK.plainRo = true → Qao (ps.map fun | .val _ c => (c, false) | .box _ c own _ => (c, own) | .lent _ c => (c, true) | .give _ c => (c, true) | .clo _ _ _ c => (c, false)) ls = [] := by
    intro ps
    induction ps with
    | nil => intro ls _; rfl
    | cons p ps ih =>
     intro ls hq
     simp only [List.all_cons, Zd] at hq
     cases ls with
     | nil => rfl
     | cons l ls =>
      cases p with
      | val agg ck => simp [Qao, ih ls hq.2]
      | box t ck own rw =>
       have : own = false := by simpa [PK.plainRo] using hq.1
       subst this
       simp [Qao, ih ls hq.2]
      | lent agg ck => simp [PK.plainRo] at hq
      | give agg ck => simp [PK.plainRo] at hq
      | clo f fst t ck => simp [Qao, ih ls hq.2]
   exact this _ ls hps
  have hcold : f.sig.cold ls = [] := by
   rcases hids with hcf | hids
   ·unfold Qjz at hcf
    simp only [hop, hca, hf] at hcf
    unfold Sig.cold
    rw [if_pos hcf]
   ·have hnoid : ∀ l ∈ ls, AC.ids l = [] := fun l hl => by
     rw [Qbe] at hls
     cases hi : AC.ids l with
     | nil => rfl
     | cons id m =>
      obtain ⟨v, hv, hh⟩ := Qdq st hls l hl id (by rw [hi]; simp)
      obtain ⟨z, hz, rfl⟩ := List.mem_map.1 hv
      rw [hids z (hargm z hz)] at hh
      simp at hh
    have hroi : ∀ rs, roIds rs ls = [] := fun rs => by
     cases hi : roIds rs ls with
     | nil => rfl
     | cons id m => obtain ⟨l, hl, hh⟩ := Qlh (rs := rs) (ls := ls) (id := id) (by rw [hi]; simp); rw [hnoid l hl] at hh; simp at hh
    unfold Sig.cold; rw [hroi]; split <;> rfl
  have hren : ∀ lo, Qau f.sig.params ls lo = [] := by
   have : ∀ (ps : List PK) (ls lo : List (List AC)), ps.all PK.plainRo = true → Qau ps ls lo = [] := by
    intro ps
    induction ps with
    | nil => intro ls lo _; rfl
    | cons p ps ih =>
     intro ls lo hq
     simp only [List.all_cons, Zd] at hq
     cases p with
     | val agg ck => cases ls <;> simp [Qau, ih _ _ hq.2]
     | box t ck own rw =>
      cases rw with
      | false => cases ls <;> simp [Qau, ih _ _ hq.2]
      | true => cases ls <;> cases lo <;> simp [Qau, ih _ _ hq.2]
     | lent agg ck => simp [PK.plainRo] at hq
     | give agg ck => simp [PK.plainRo] at hq
     | clo f fst t ck => cases ls <;> simp [Qau, ih _ _ hq.2]
   intro lo; exact this _ _ _ hps
  have hrw : ∀ lo, ∀ p ∈ Qaj f.sig.params (c.args.toList.map (opnd st)) lo, ∃ y, st.box p.1 = some y ∧ y.1 = p.2.1 ∧ y.1 ∈ f.sig.params.filterMap PK.rwType ∧ ∃ v ∈ c.args.toList.map (opnd st), p.1 ∈ Qax v := by
   rw [Qbe] at hls
   exact fun lo p hp => Qio hls lo p hp
  rw [hown, hcold, hren] at h
  refine ⟨_, _, h, fun p hp => ?_, fun s u b' dd hs hb hdd K' => ?_⟩
  ·obtain ⟨y, q1, q2, q3, v, hv, q4⟩ := hrw _ p hp
   obtain ⟨z, hz, rfl⟩ := List.mem_map.1 hv
   refine ⟨y, q1, q2, ?_, z, hargm z hz, q4⟩
   unfold Qcm
   simp only [hop, hca, hf]
   exact q3
  rw [hcall' s u b' dd hs K']
  unfold callW
  rw [hf]
  simp only
  have hls' : Qah ((st.with s u b' dd).use key) f.sig.params (c.args.toList.map (opnd st)) = some ls := by
   rw [Qbe, Qef, ← Qbe (key := key)]
   ·exact hls
   ·intro v hv b he
    obtain ⟨z, hz, rfl⟩ := List.mem_map.1 hv
    exact Qdl ho hclear hns (.inl hblind) hb z (hargm z hz) b he
  have hp' : Qbs ((st.with s u b' dd).use key) f.sig.ins ls = true := by
   rw [Qfq, Qhe (fun l hl id hi => by
    rw [Qbe] at hls
    obtain ⟨v, hv, hh⟩ := Qdq st hls l hl id hi
    obtain ⟨z, hz, rfl⟩ := List.mem_map.1 hv
    exact Qeu ho hclear (.inr hnst) hdd z (hargm z hz) id hh)]
   exact hp
  rw [if_pos hdist, hls']
  simp only
  rw [if_pos hp', hx]
  simp only [hy, Zo]
  rw [hown, hcold, hren]
  rfl
theorem Qen {o : Oper} (ho : ops[i]? = some o) (hl : ∀ t a x, o.op ≠ .store t a x) : Qcs ops i st = false := by
 unfold Qcs
 simp only [ho]
theorem Qmt {o : Oper} (h : Qba o = true) : Qay o = true := by
 unfold Qba at h
 simp only [Zd] at h
 unfold Qay
 cases hop : o.op <;> simp only [hop] at h <;> first | (cases h.2; done) | rfl
theorem stepN (hal : alone ops i = false) (ho : ops[i]? = some o) (hl : rough E ops o = false) (hst : Qaf o = true → Qaq ops i = false) (hap : (Qai ops o).isSome = true → Qda ops i = false) (h : stepD E ops rid i st K = some r) :
  ∃ v bx kl, st.used (keyOf rid i) = false ∧ K (st.upd (keyOf rid i) o.dst v bx kl) = some r ∧ (∀ p ∈ bx, (newOp o = true ∧ p.1 = keyOf rid i) ∨ ∃ y, st.box p.1 = some y ∧ y.1 = p.2.1 ∧ y.1 ∈ Qcm E o ∧ ∃ x ∈ o.op.operands, p.1 ∈ Qax (opnd st x)) ∧ (∀ id, kl = some id → ∃ d, Qai ops o = some (some d) ∧ id.1 = keyOf rid d) ∧
   ∀ s u b' dd, (∀ t ∈ o.looksAt ops, s t = st.slot t) → u (keyOf rid i) = false → Qfb E ops rid i st.box b' → Qfw ops rid i st.dead dd → ∀ K' : St → Option R, stepD E ops rid i (st.with s u b' dd) K' = K' ((st.with s u b' dd).upd (keyOf rid i) o.dst v bx kl) := by
 unfold stepD at h
 split at h
 case isFalse => cases h
 rename_i hclear
 have hns : (Qaf o && Qaq ops i) = false := by
  cases hb : Qaf o with
  | false => rfl
  | true => rw [hst hb]; rfl
 split at h
 ·cases h
 rename_i hbad
 have hbad : Qcs ops i st = false := by simpa using hbad
 have hbadw : ∀ s u b' dd, (∀ t ∈ o.looksAt ops, s t = st.slot t) → Qfb E ops rid i st.box b' → Qcs ops i (st.with s u b' dd) = false := fun s u b' dd hs hb => by
  cases hop : o.op with
  | store t a x =>
   have hbl : Qay o = false := by unfold Qay; rw [hop]
   have ha : opnd (st.with s u b' dd) a = opnd st a := Qbx hs a (by simp [hop, Op.operands])
   unfold Qcs at hbad ⊢
   simp only [ho, hop] at hbad ⊢
   rw [ha]
   cases hA : opnd st a with
   | one y =>
    rw [hA] at hbad
    cases y with
    | ptr b off =>
     simp only at hbad ⊢
     rw [show (st.with s u b' dd).box b = st.box b from Qdl ho hclear hns (.inl hbl) hb a (by simp [hop, Op.operands]) b (by rw [hA]; simp [Qax])]
     exact hbad
    | _ => exact hbad
   | _ => rw [hA] at hbad; exact hbad
  | _ => exact Qen ho (fun t a x e => by rw [hop] at e; cases e)
 unfold Qed at h
 simp only [ho] at h
 split at h
 ·cases h
 rename_i hu
 have hu : st.used (keyOf rid i) = false := by simpa using hu
 -- what the operation itself brings
 have main : ∀ {K : St → Option R}, exec E (keyOf rid i) o (st.use (keyOf rid i)) K = some r → ∃ v bx kl, K (st.upd (keyOf rid i) o.dst v bx kl) = some r ∧ (∀ p ∈ bx, (newOp o = true ∧ p.1 = keyOf rid i) ∨ ∃ y, st.box p.1 = some y ∧ y.1 = p.2.1 ∧ y.1 ∈ Qcm E o ∧ ∃ x ∈ o.op.operands, p.1 ∈ Qax (opnd st x)) ∧ (∀ id, kl = some id → ∃ d, Qai ops o = some (some d) ∧ id.1 = keyOf rid d) ∧
   ∀ s u b' dd, (∀ t ∈ o.looksAt ops, s t = st.slot t) → Qfb E ops rid i st.box b' → Qfw ops rid i st.dead dd → ∀ K' : St → Option R, exec E (keyOf rid i) o ((st.with s u b' dd).use (keyOf rid i)) K' = K' ((st.with s u b' dd).upd (keyOf rid i) o.dst v bx kl) := by
  intro K h
  unfold exec at h
  have hd : ∀ d, o.dst = some d → d < E.N := fun d he => by
   by_cases hlt : d < E.N
   ·exact hlt
   ·simp [he, hlt, dstOk] at h
  have hc : dstOk E.N o.dst = true := by cases hdd : o.dst with | none => rfl | some d => simpa [dstOk] using hd d hdd
  rw [if_pos hc] at h
  cases hlo : loud E o with
  | false =>
   rw [if_neg (by simp [hlo])] at h
   rw [Qgo] at h
   obtain ⟨v, hv, hK⟩ := Option.bind_eq_some_iff.1 h
   refine ⟨v, [], none, hK, (fun p hp => by cases hp), (fun id h => by cases h), fun s u b' dd hs hb hdd K' => ?_⟩
   unfold exec
   rw [if_pos hc, if_neg (by simp [hlo])]
   have e : (st.with s u b' dd).use (keyOf rid i) = (st.use (keyOf rid i)).with s (fun n => if n = keyOf rid i then true else u n) b' dd := rfl
   have e0 : ∀ x, opnd (st.use (keyOf rid i)) x = opnd st x := fun x => by cases x <;> rfl
   by_cases hbl : Qay o = true ∧ Qal ops = true
   ·rw [e, Qmf (st := st.use (keyOf rid i)) hbl.1 (Qbx (st := st.use (keyOf rid i)) (ops := ops) hs), Qgo, hv]
    rfl
   ·have hbl : Qay o = false ∨ Qal ops = false := by
     cases h1 : Qay o <;> cases h2 : Qal ops <;> simp_all
    have hps : Qal ops = false ∨ Qba o = false := hbl.symm.imp id fun hb => by
     cases hst : Qba o with
     | false => rfl
     | true => rw [Qmt hst] at hb; cases hb
    rw [e, Qnt (st := st.use (keyOf rid i)) (Qbx (st := st.use (keyOf rid i)) (ops := ops) hs) (fun x hx b he => Qdl (st := st) ho hclear hns hbl hb x hx b (by
     rw [e0] at he; exact he)) (fun x hx id hi => Qeu ho hclear hps hdd x hx id (by rw [e0] at hi; exact hi)), Qgo, hv]
    rfl
  | true =>
   rw [if_pos hlo] at h
   have hneat : newOp o = true ∨ (∃ d?, Qai ops o = some d?) ∨ Qfi E o = true ∨ Qaf o = true := by
    unfold rough at hl
    rw [hlo] at hl
    simp only [Bool.true_and, Bool.and_eq_false_iff, Bool.not_eq_false', Option.isNone_eq_false_iff] at hl
    rcases hl with ((h1 | h1) | h1) | h1
    ·exact .inl h1
    ·exact .inr (.inl (Option.isSome_iff_exists.1 h1))
    ·exact .inr (.inr (.inl h1))
    ·exact .inr (.inr (.inr h1))
   rcases hneat with hnew | ⟨d?, hab⟩ | hro | hbs
   ·cases hop : o.op with
    | alloc t =>
     simp only [effW, hop] at h
     split at h
     ·rename_i l hz
      refine ⟨.one (.ptr (keyOf rid i) 0), [(keyOf rid i, t, l)], none, h, (fun p hp => .inl ⟨hnew, by rw [List.mem_singleton.1 hp]⟩), (fun id h => by cases h), fun s u b' dd hs hb hdd K' => ?_⟩
      unfold exec
      rw [if_pos hc, if_pos hlo]
      simp only [effW, hop, hz]
      rfl
     ·cases h
    | box t x =>
     simp only [effW, hop] at h
     split at h
     ·rename_i hp
      refine ⟨.one (.ptr (keyOf rid i) 0), [(keyOf rid i, t, (opnd st x).cells)], none, by
       have e : opnd (st.use (keyOf rid i)) x = opnd st x := by cases x <;> rfl
       rw [e] at h; exact h, (fun p hp => .inl ⟨hnew, by rw [List.mem_singleton.1 hp]⟩), (fun id h => by cases h), fun s u b' dd hs hb hdd K' => ?_⟩
      unfold exec
      rw [if_pos hc, if_pos hlo]
      have e : opnd ((st.with s u b' dd).use (keyOf rid i)) x = opnd st x := by
       have := Qbx (st := st) (u := u) (bx := b') (dd := dd) hs x (by simp [hop, Op.operands])
       rw [← this]; cases x <;> rfl
      have e0 : opnd (st.use (keyOf rid i)) x = opnd st x := by cases x <;> rfl
      rw [e0] at hp
      simp only [effW, hop, e, hp, if_true]
      rfl
     ·cases h
    | _ => simp [newOp, hop] at hnew
   ·obtain ⟨c, X, Y, hop, hca, _, _⟩ := Qet hab
    obtain ⟨v, kl, h1, h2, h3⟩ := Qhw hal hab hop hca hclear ho h
    have hnst : Qba o = false := by unfold Qba; rw [hop]; simp
    refine ⟨v, [], kl, h1, (fun p hp => by cases hp), h2 (hap (by rw [hab]; rfl)), fun s u b' dd hs hb hdd K' => ?_⟩
    unfold exec
    rw [if_pos hc, if_pos hlo, h3 s u b' dd hs (Qeu ho hclear (.inr hnst) hdd)]
    rfl
   ·have : ∃ c g, o.op = .call c ∧ c.callee = .value (.func g) := by
     unfold Qfi at hro
     split at hro
     ·rename_i c hop
      split at hro
      ·rename_i g hca; exact ⟨c, g, hop, hca⟩
      ·cases hro
     ·cases hro
    obtain ⟨c, g, hop, hca⟩ := this
    obtain ⟨v, prs, h1, hprs, h3⟩ := Qol hal hop hca hro hlo hclear ho h
    rw [Qgf] at h1
    refine ⟨v, prs, none, h1, (fun p hp => .inr (hprs p hp)), (fun id h => by cases h), fun s u b' dd hs hb hdd K' => ?_⟩
    unfold exec
    rw [if_pos hc, if_pos hlo, h3 s u b' dd hs hb hdd, Qgf]
    rfl
   ·-- a store into a box of the type that it stores
    have hbs' := hbs
    unfold Qaf at hbs'
    simp only [Zd, Option.isNone_iff_eq_none] at hbs'
    obtain ⟨⟨_, hdst⟩, hop'⟩ := hbs'
    cases hop : o.op <;> simp only [hop] at hop' <;> try (cases hop'; done)
    rename_i t a x
    have hbl : Qay o = false := by unfold Qay; rw [hop]
    have e0 : ∀ x, opnd (st.use (keyOf rid i)) x = opnd st x := fun x => by cases x <;> rfl
    have hbad' := hbad
    unfold Qcs at hbad'
    simp only [ho, hop, hal, Bool.not_false, Bool.true_and] at hbad'
    simp only [effW, hop, e0] at h
    cases hA : opnd st a with
    | one y =>
     rw [hA] at hbad' h
     cases y with
     | ptr b off =>
      simp only [hst hbs, Bool.not_false, Bool.true_and] at hbad' h
      have hbx : (st.use (keyOf rid i)).box b = st.box b := rfl
      rw [hbx] at h
      cases hB : st.box b with
      | none => rw [hB] at h; cases h
      | some q =>
       obtain ⟨T, l⟩ := q
       rw [hB] at hbad' h
       simp only [Bool.not_eq_false', Zq] at hbad' h
       subst hbad'
       split at h
       case isFalse => cases h
       rename_i hcond
       refine ⟨.bad, [(b, T, Qbh l off (opnd st x).cells)], none, h, (fun p hp => .inr ?_), (fun id hk => by cases hk), fun s u b' dd hs hb hdd K' => ?_⟩
       ·rw [List.mem_singleton.1 hp]
        exact ⟨_, hB, rfl, by simp [Qcm, hop], a, by simp [hop, Op.operands], by rw [hA]; simp [Qax]⟩
       ·unfold exec
        rw [if_pos hc, if_pos hlo]
        have e1 : ∀ y ∈ o.op.operands, opnd ((st.with s u b' dd).use (keyOf rid i)) y = opnd st y := fun y hy => by
         have := Qbx (st := st) (u := u) (bx := b') (dd := dd) hs y hy
         rw [← this]; cases y <;> rfl
        have eb : ((st.with s u b' dd).use (keyOf rid i)).box b = some (T, l) := by
         show b' b = _
         rw [Qdl ho hclear hns (.inl hbl) hb a (by simp [hop, Op.operands]) b (by rw [hA]; simp [Qax])]; exact hB
        have ec : ((opnd st x).cells.length == sizeT E T && 0 < sizeT E T && off + sizeT E T ≤ l.length && !((st.with s u b' dd).use (keyOf rid i)).lock b && (opnd st x).plain && AC.good (opnd st x).cells) = true := hcond
        simp only [effW, hop, e1 a (by simp [hop, Op.operands]), e1 x (by simp [hop, Op.operands]), hA, eb]
        rw [if_pos ec]
        rfl
     | _ => simp at hbad'
    | _ => rw [hA] at hbad'; simp at hbad'
 have hcl : ∀ s u b' dd, (∀ t ∈ o.looksAt ops, s t = st.slot t) → Qfb E ops rid i st.box b' → Qbn E ops rid i (st.with s u b' dd) = true := fun s u b' dd hs hb => by
  by_cases hbl : Qay o = true ∧ Qal ops = true
  ·rw [Qjy ho hbl.1 hbl.2 hs]; exact hclear
  ·have hbl : Qay o = false ∨ Qal ops = false := by
    cases h1 : Qay o <;> cases h2 : Qal ops <;> simp_all
   rw [Qhb ho hs (Qdl ho hclear hns hbl hb)]; exact hclear
 cases hg : o.guard with
 | none =>
  simp only [hg] at h
  obtain ⟨v, bx, kl, h1, h3, h4, h2⟩ := main h
  refine ⟨v, bx, kl, hu, h1, h3, h4, fun s u b' dd hs hus hb hdd K' => ?_⟩
  unfold stepD
  rw [if_pos (hcl s u b' dd hs hb), hbadw s u b' dd hs hb, if_neg (by simp)]
  unfold Qed
  simp only [ho, hg]
  rw [if_neg (by show ¬ (u (keyOf rid i) = true); simp [hus])]
  exact h2 s u b' dd hs hb hdd K'
 | some gw =>
  obtain ⟨g, want⟩ := gw
  simp only [hg] at h
  cases ht : (ops[g]?).bind (·.dst) with
  | none => simp [ht] at h
  | some t =>
   simp only [ht] at h
   have hlook : t ∈ o.looksAt ops := List.mem_append_right _ (by simp [hg, ht])
   by_cases hun : Qfm (st.slot t) = true
   ·rw [if_pos hun] at h
    refine ⟨.one .undef, [], none, hu, h, (fun p hp => by cases hp), (fun id h => by cases h), fun s u b' dd hs hus hb hdd K' => ?_⟩
    unfold stepD
    rw [if_pos (hcl s u b' dd hs hb), hbadw s u b' dd hs hb, if_neg (by simp)]
    unfold Qed
    simp only [ho, hg, ht]
    rw [if_neg (by show ¬ (u (keyOf rid i) = true); simp [hus])]
    rw [if_pos (by show Qfm (s t) = true; rw [hs t hlook]; exact hun)]
    rfl
   rw [if_neg hun] at h
   obtain ⟨p, hp, h⟩ := Qfk h
   by_cases hw : p = want
   ·rw [if_pos hw] at h
    obtain ⟨v, bx, kl, h1, h3, h4, h2⟩ := main h
    refine ⟨v, bx, kl, hu, h1, h3, h4, fun s u b' dd hs hus hb hdd K' => ?_⟩
    unfold stepD
    rw [if_pos (hcl s u b' dd hs hb), hbadw s u b' dd hs hb, if_neg (by simp)]
    unfold Qed
    simp only [ho, hg, ht]
    rw [if_neg (by show ¬ (u (keyOf rid i) = true); simp [hus])]
    rw [if_neg (by show ¬ Qfm (s t) = true; rw [hs t hlook]; exact hun), Qku (p := p) (show s t = .one (.bool p) by rw [hs t hlook]; exact hp), if_pos hw]
    exact h2 s u b' dd hs hb hdd K'
   ·rw [if_neg hw] at h
    refine ⟨.one .undef, [], none, hu, h, (fun p hp => by cases hp), (fun id h => by cases h), fun s u b' dd hs hus hb hdd K' => ?_⟩
    unfold stepD
    rw [if_pos (hcl s u b' dd hs hb), hbadw s u b' dd hs hb, if_neg (by simp)]
    unfold Qed
    simp only [ho, hg, ht]
    rw [if_neg (by show ¬ (u (keyOf rid i) = true); simp [hus])]
    rw [if_neg (by show ¬ Qfm (s t) = true; rw [hs t hlook]; exact hun), Qku (p := p) (show s t = .one (.bool p) by rw [hs t hlook]; exact hp), if_neg hw]
    rfl
theorem Qgc (h : keyOf rid i = keyOf rid j) : i = j := by unfold keyOf at h; omega
theorem Qlv (st : St) : st.with st.slot st.used st.box st.dead = st := rfl
theorem Qis (hal : alone ops i = false) (ho : ops[i]? = some o) (hl : rough E ops o = false) (hst : Qaf o = true → Qaq ops i = false) (hap : (Qai ops o).isSome = true → Qda ops i = false) {K' : St → Option R} (h : stepD E ops rid i st K = some r) (hk : ∀ st', K st' = some r → K' st' = some r) : stepD E ops rid i st K' = some r := by
 obtain ⟨v, bx, kl, hu, h1, _, _, h2⟩ := stepN hal ho hl hst hap h
 have := h2 st.slot st.used st.box st.dead (fun _ _ => rfl) hu (fun n => .inl rfl) (fun id => .inl rfl) K'
 rw [Qlv] at this
 rw [this]; exact hk _ h1
theorem Qpr (st : St) (k : Nat) (d : Option Nat) (v : AV) (bx : List (Nat × TypeId × List AC)) (kl : Option Id) : st.upd k d v bx kl = st.with (st.upd k d v bx kl).slot (st.upd k d v bx kl).used (st.upd k d v bx kl).box (st.upd k d v bx kl).dead := by
 cases d <;> cases kl <;> rfl
theorem Qdg (st : St) (k : Nat) (d : Option Nat) (v : AV) (bx : List (Nat × TypeId × List AC)) (kl : Option Id) : (st.upd k d v bx kl).used = fun n => if n = k then true else st.used n := by
 cases d <;> cases kl <;> rfl
theorem Qdf (st : St) (k : Nat) (d : Option Nat) (v : AV) (bx : List (Nat × TypeId × List AC)) (kl : Option Id) : (st.upd k d v bx kl).slot = fun n => if d = some n then v else st.slot n := by
 funext n
 cases d with
 | none => cases kl <;> rfl
 | some t =>
  have : (st.upd k (some t) v bx kl).slot n = if n = t then v else st.slot n := by cases kl <;> rfl
  rw [this]
  by_cases h : n = t
  ·simp [h]
  ·simp [h, Ne.symm h]
theorem Qiu (st : St) (k : Nat) (d : Option Nat) (v : AV) (bx : List (Nat × TypeId × List AC)) (kl : Option Id) : (st.upd k d v bx kl).box = fun n => match Qdr bx n with | some y => some y | none => st.box n := by
 funext n
 have : (st.upd k d v bx kl).box n = (st.setBoxes bx).box n := by cases d <;> rfl
 rw [this, Qde]
theorem Qkp (st : St) (k : Nat) (d : Option Nat) (v : AV) (bx : List (Nat × TypeId × List AC)) (kl : Option Id) : (st.upd k d v bx kl).dead = fun id => if kl = some id then true else st.dead id := by
 funext id
 cases kl with
 | none => cases d <;> simp [St.upd, St.put?, St.put]
 | some id' =>
  have : (st.upd k d v bx (some id')).dead id = if id = id' then true else st.dead id := by cases d <;> rfl
  rw [this]
  by_cases h : id = id'
  ·simp [h]
  ·simp [h, Ne.symm h]
theorem Qkq (st : St) (k : Nat) (d : Option Nat) (v : AV) (bx : List (Nat × TypeId × List AC)) (kl : Option Id) : (st.upd k d v bx kl).ice = st.ice ∧ (st.upd k d v bx kl).lock = st.lock := by
 cases d <;> cases kl <;> exact ⟨rfl, rfl⟩
theorem St.ext' {a b : St} (h1 : a.slot = b.slot) (h2 : a.box = b.box) (h3 : a.dead = b.dead) (h4 : a.ice = b.ice) (h5 : a.used = b.used) (h6 : a.lock = b.lock) : a = b := by
 cases a; cases b; simp_all
theorem Qhc (hj : ops[j]? = some oj) (hne : j ≠ i) (hord : Qam ops i j = false) {d : Nat} (hab : Qai ops oj = some (some d)) : keyOf rid d ∈ Qff ops rid i := by
 have hjs : j < ops.size := (Array.getElem?_eq_some_iff.1 hj).1
 have hod : ops.getD j default = oj := by simp [Array.getD_eq_getD_getElem?, hj]
 refine List.mem_filterMap.2 ⟨j, List.mem_range.2 hjs, ?_⟩
 rw [hod, hab]
 simp [hne, hord]
theorem Qjs (h : stepD E ops rid i st K = some r) : Qbn E ops rid i st = true := by
 unfold stepD at h
 split at h
 ·assumption
 ·cases h
theorem Qlu {t : TypeId} (h : t ∈ Qcm E o) : Qay o = false := by
 unfold Qcm at h
 unfold Qay
 split at h
 ·rename_i c hop; rw [hop]
 ·rename_i t' a x hop; rw [hop]
 ·cases h
theorem Qpc (hi : ops[i]? = some oi) (hj : ops[j]? = some oj) (hli : rough E ops oi = false) (hlj : rough E ops oj = false) (hsi : Qaf oi = true → Qaq ops i = false) (hai : (Qai ops oi).isSome = true → Qda ops i = false) (hsj : Qaf oj = true → Qaq ops j = false) (haj : (Qai ops oj).isSome = true → Qda ops j = false) (hpf : Qal ops = true ∨ (Qcm E oi = [] ∧ Qcm E oj = [])) (hne : i ≠ j) (hap : oi.apart ops oj = true) (hord : Qam ops i j = false)
  (h : stepD E ops rid i st (fun st' => stepD E ops rid j st' K) = some r) : stepD E ops rid j st (fun st' => stepD E ops rid i st' K) = some r := by
 obtain ⟨a1, a2, a3⟩ := Oper.apart_spec hap
 have hkk : keyOf rid i ≠ keyOf rid j := fun e => hne (Qgc e)
 have hord' : Qam ops j i = false := by unfold Qam at hord ⊢; rw [Bool.or_comm]; exact hord
 obtain ⟨vi, bi, ki, ui, h1, ni, di, h2⟩ := stepN (Qea hj (Ne.symm hne) hord) hi hli hsi hai h
 obtain ⟨vj, bj, kj, uj, h3, nj, dj, h4⟩ := stepN (Qea hi hne hord') hj hlj hsj haj h1
 have cl1 := Qjs h
 have cl2 := Qjs h1
 have hpi : ∀ t, t ∈ Qcm E oi → Qal ops = true := fun t ht => hpf.resolve_right fun hc => by rw [hc.1] at ht; cases ht
 have hpj : ∀ t, t ∈ Qcm E oj → Qal ops = true := fun t ht => hpf.resolve_right fun hc => by rw [hc.2] at ht; cases ht
 have disj : ∀ n y z, Qdr bi n = some y → Qdr bj n = some z → False := fun n y z hy hz => by
  have hbx : (st.upd (keyOf rid i) oi.dst vi bi ki).box n = some y := by rw [Qiu]; simp only [hy]
  rcases ni _ (Qdy hy) with ⟨n1, k1⟩ | ⟨x, q1, q2, q3, o1, ho1, hp1⟩ <;> rcases nj _ (Qdy hz) with ⟨n2, k2⟩ | ⟨x', r1, r2, r3, o2, ho2, hp2⟩
  ·exact hkk (k1.symm.trans k2)
  ·have := (Qbl hj cl2).1 o2 ho2 _ hp2 i (Array.getElem?_eq_some_iff.1 hi).1
   rw [show ops.getD i default = oi by simp [Array.getD_eq_getD_getElem?, hi], n1, hord', k1] at this
   simp at this
  ·have := (Qbl hi cl1).1 o1 ho1 _ hp1 j (Array.getElem?_eq_some_iff.1 hj).1
   rw [show ops.getD j default = oj by simp [Array.getD_eq_getD_getElem?, hj], n2, hord, k2] at this
   simp at this
  ·rw [hbx] at r1
   have e := Option.some.inj r1
   refine (Qbl hi cl1).2.2.2.2 (Qlu q3) (by cases hb : Qaf oi with
    | false => rfl
    | true => rw [hsi hb]; rfl) o1 ho1 _ hp1 x q1 j oj hj (Ne.symm hne) hord ?_
   rw [q2, e]
   exact r3
 rw [Qdg] at uj
 have uj' : st.used (keyOf rid j) = false := by simpa [Ne.symm hkk] using uj
 -- the later one first
 have e1 : stepD E ops rid j st (fun st' => stepD E ops rid i st' K) = stepD E ops rid i (st.upd (keyOf rid j) oj.dst vj bj kj) K := by
  have := h4 st.slot st.used st.box st.dead (fun t ht => by
   rw [Qdf]
   simp only
   rw [if_neg (fun e => a1 t e ht)]) uj' (fun n => by
   rw [Qiu]
   simp only
   split
   ·rename_i y hn
    rcases ni _ (Qdy hn) with ⟨n1, k1⟩ | ⟨x, q1, q2, q3, _⟩
    ·exact .inr (.inl ⟨i, oi, hi, n1, hord', k1⟩)
    ·exact .inr (.inr ⟨hpi _ q3, i, oi, y, hi, hne, hord', rfl, by rw [← q2]; exact q3⟩)
   ·exact .inl rfl) (fun id => by
   rw [Qkp]
   simp only
   split
   ·rename_i hk
    obtain ⟨d, hd1, hd2⟩ := di id hk
    exact .inr (by rw [hd2]; exact Qhc hi hne hord' hd1)
   ·exact .inl rfl) (fun st' => stepD E ops rid i st' K)
  have e : (st.upd (keyOf rid i) oi.dst vi bi ki).with st.slot st.used st.box st.dead = st := by
   obtain ⟨r2, r3⟩ := Qkq st (keyOf rid i) oi.dst vi bi ki
   exact St.ext' rfl rfl rfl r2 rfl r3
  rw [e] at this
  exact this
 rw [e1]
 have e2 := h2 (st.upd (keyOf rid j) oj.dst vj bj kj).slot (st.upd (keyOf rid j) oj.dst vj bj kj).used (st.upd (keyOf rid j) oj.dst vj bj kj).box (st.upd (keyOf rid j) oj.dst vj bj kj).dead (fun t ht => by
   rw [Qdf]
   simp only
   rw [if_neg (fun e => a3 t e ht)]) (by rw [Qdg]; simp [hkk, ui]) (fun n => by
   rw [Qiu]
   simp only
   split
   ·rename_i y hn
    rcases nj _ (Qdy hn) with ⟨n1, k1⟩ | ⟨x, q1, q2, q3, _⟩
    ·exact .inr (.inl ⟨j, oj, hj, n1, hord, k1⟩)
    ·refine .inr (.inr ⟨hpj _ q3, j, oj, x, hj, Ne.symm hne, hord, ?_, q3⟩)
     rw [Qiu] at q1
     simp only at q1
     cases hf : Qdr bi n with
     | some z => exact (disj n z y hf hn).elim
     | none => rw [hf] at q1; exact q1
   ·exact .inl rfl) (fun id => by
   rw [Qkp]
   simp only
   split
   ·rename_i hk
    obtain ⟨d, hd1, hd2⟩ := dj id hk
    exact .inr (by rw [hd2]; exact Qhc hj (Ne.symm hne) hord hd1)
   ·exact .inl rfl) K
 rw [← Qpr] at e2
 rw [e2, ← h3]
 congr 1
 -- the same state
 have hd : ∀ n, oi.dst = some n → oj.dst = some n → False := fun n h1 h2 => a2 n h1 h2
 refine St.ext' ?_ ?_ ?_ ?_ ?_ ?_
 ·simp only [Qdf]
  funext n
  by_cases h1 : oi.dst = some n
  ·simp only [if_pos h1]
   rw [if_neg (fun h => hd n h1 h)]
  ·simp only [if_neg h1]
 ·simp only [Qiu]
  funext n
  cases hA : Qdr bi n with
  | none => cases hB : Qdr bj n <;> simp only [hA, hB]
  | some y => cases hB : Qdr bj n with
   | none => simp only [hA, hB]
   | some z => exact (disj n y z hA hB).elim
 ·simp only [Qkp]
  funext id
  by_cases A : ki = some id <;> by_cases B : kj = some id <;> simp [A, B]
 ·simp only [(Qkq _ _ _ _ _ _).1]
 ·simp only [Qdg]
  funext n
  by_cases h1 : n = keyOf rid i <;> by_cases h2 : n = keyOf rid j <;> simp [h1, h2]
 ·simp only [(Qkq _ _ _ _ _ _).2]
def Qem (st : St) (o : Oper) : Option AV := match o.op with
 | .move x => some ((opnd st x).from (locOf x))
 | .assign x => some ((opnd st x).from .no)
 | .extract x i => match opnd st x with
  | .tup l => match l[i]? with
   | some (true, m) => some (.agg m)
   | some (false, [y]) => some (.one y)
   | _ => none
  | _ => none
 | _ => none
def Qeo (E : Env) (st : St) (o : Oper) : Option (Nat × TypeId × List AC) := match o.op with
 | .store t a x => match opnd st a with
  | .one (.ptr b off) => match st.box b with
   | some (T, l) => if (opnd st x).cells.length == sizeT E t && 0 < sizeT E t && off + sizeT E t ≤ l.length && !st.lock b && (opnd st x).plain && AC.good (opnd st x).cells then some (b, T, Qbh l off (opnd st x).cells) else none
   | none => none
  | _ => none
 | _ => none
def Qbc (ops : Array Oper) (rid i : Nat) (st : St) (o : Oper) : Bool := o.op.operands.toList.all fun x => Qdb ops rid i (opnd st x)
theorem Qhp (st : St) (k : Nat) (x : Operand) : opnd (st.use k) x = opnd st x := by cases x <;> rfl
theorem Qdk (ho : ops[i]? = some o) (hs : Qba o = true) (hp : Qal ops = true) (K : St → Option R) :
  stepD E ops rid i st K = if Qbc ops rid i st o then (if st.used (keyOf rid i) then none else if dstOk E.N o.dst then (Qem st o).bind fun v => K ((st.use (keyOf rid i)).put? o.dst v) else none) else none := by
 unfold Qba at hs
 simp only [Zd, Option.isNone_iff_eq_none] at hs
 obtain ⟨hg, hs⟩ := hs
 have hbl : Qay o = true := by
  unfold Qay
  cases hop : o.op <;> simp only [hop] at hs <;> first | (cases hs; done) | rfl
 have hc : Qbn E ops rid i st = Qbc ops rid i st o := by
  unfold Qbn Qbc
  simp only [ho, hp, hbl, Bool.true_or, Bool.and_true]
  cases hop : o.op <;> simp only [hop] at hs <;> first | (cases hs; done) | simp [Qai, loud, hop]
 have he : Qcs ops i st = false := Qen ho fun t a x e => by rw [e] at hs; cases hs
 unfold stepD
 rw [hc, he]
 congr 1
 simp only [Bool.false_eq_true, if_false]
 unfold Qed
 simp only [ho, hg]
 congr 1
 unfold exec
 congr 1
 have hl : loud E o = false := by
  unfold loud
  cases hop : o.op <;> simp only [hop] at hs <;> first | (cases hs; done) | rfl
 rw [hl]
 simp only [Bool.false_eq_true, if_false]
 unfold evalQ Qem
 cases hop : o.op <;> simp only [hop] at hs <;> try (cases hs; done)
 ·simp only [Qhp, Zo]
 ·simp only [Qhp, Zo]
 ·rename_i x n
  simp only [Qhp]
  cases opnd st x with
  | tup l =>
   simp only
   cases l[n]? with
   | none => rfl
   | some q =>
    obtain ⟨g, m⟩ := q
    cases g with
    | true => rfl
    | false => match m with
     | [] => rfl
     | [y] => rfl
     | _ :: _ :: _ => rfl
  | _ => rfl
theorem Qgx (ho : ops[i]? = some o) (hs : Qaf o = true) (has : Qaq ops i = true) (hp : Qal ops = true) (hal : alone ops i = false) (K : St → Option R) :
  stepD E ops rid i st K = if Qbc ops rid i st o then (if st.used (keyOf rid i) then none else (Qeo E st o).bind fun p => K ((st.use (keyOf rid i)).setBox p.1 p.2)) else none := by
 have hs0 := hs
 unfold Qaf at hs
 simp only [Zd, Option.isNone_iff_eq_none] at hs
 obtain ⟨⟨hg, hd⟩, hs⟩ := hs
 cases hop : o.op <;> simp only [hop] at hs <;> try (cases hs; done)
 rename_i t a x
 have hc : Qbn E ops rid i st = Qbc ops rid i st o := by
  unfold Qbn Qbc
  simp only [ho, hp, hs0, has, Bool.true_or, Bool.and_true, Bool.or_true, Bool.and_self]
  simp [Qai, loud, hop, Qfi]
 unfold stepD
 rw [hc]
 congr 1
 have hloud : loud E o = true := by simp [loud, hop]
 unfold Qcs Qed exec Qeo
 simp only [ho, hop, hal, has, hg, hd, hloud, dstOk, if_true, Bool.not_false, Bool.true_and, effW, Qhp]
 cases hA : opnd st a with
 | one y =>
  cases y with
  | ptr b off =>
   simp only [Zx, Bool.false_and, Bool.false_eq_true, if_false]
   split
   ·rfl
   ·show (match st.box b with | some (T, l) => _ | none => none) = _
    cases hb : st.box b with
    | none => rfl
    | some q =>
     obtain ⟨T, l⟩ := q
     simp only
     split <;> split
     ·rfl
     ·rename_i h1 h2; exact absurd h1 h2
     ·rename_i h1 h2; exact absurd h2 h1
     ·rfl
  | _ => simp
 | _ => simp
theorem Qnj {d : Option Nat} {v : AV} {k : Nat} (h : ∀ t, d = some t → t ∉ o.looksAt ops) : ∀ x ∈ o.op.operands, opnd ((st.use k).put? d v) x = opnd st x := by
 intro x hx
 cases x with
 | tmp t =>
  have ht : t ∈ o.looksAt ops := List.mem_append_left _ (List.mem_filterMap.2 ⟨.tmp t, by simpa using hx, rfl⟩)
  cases d with
  | none => rfl
  | some d =>
   show (if t = d then v else st.slot t) = st.slot t
   rw [if_neg (fun (e : t = d) => h d rfl (e ▸ ht))]
 | const c => rfl
 | func f => rfl
 | global g => rfl
theorem Qfv {st' : St} (h : ∀ x ∈ o.op.operands, opnd st' x = opnd st x) : Qem st' o = Qem st o := by
 unfold Qem
 cases hop : o.op <;> simp only
 all_goals simp only [hop, Op.operands] at h
 ·rw [h _ (by simp)]
 ·rw [h _ (by simp)]
 ·rw [h _ (by simp)]
theorem Qmu {st' : St} (h : ∀ x ∈ o.op.operands, opnd st' x = opnd st x) (hb : st'.box = st.box) (hl : st'.lock = st.lock) : Qeo E st' o = Qeo E st o := by
 unfold Qeo
 cases hop : o.op <;> simp only
 simp only [hop, Op.operands] at h
 rw [h _ (by simp), h _ (by simp), hb, hl]
theorem Qdc {st' : St} (h : ∀ x ∈ o.op.operands, opnd st' x = opnd st x) : Qbc ops rid i st' o = Qbc ops rid i st o :=
 Qbi fun x hx => by rw [h x (by simpa using hx)]
theorem Qmr (st : St) (d : Option Nat) (v : AV) (k k' b : Nat) (x : TypeId × List AC) : (((st.use k).put? d v).use k').setBox b x = ((((st.use k').setBox b x).use k).put? d v) := by
 cases d <;> refine St.ext' rfl rfl rfl rfl ?_ rfl <;> funext n <;> simp only [St.use, St.put?, St.put, St.setBox] <;> (repeat' split) <;> rfl
theorem Qit (hi : ops[i]? = some oi) (hj : ops[j]? = some oj) (hs : Qba oi = true) (hb : Qaf oj = true) (has : Qaq ops j = true) (hp : Qal ops = true) (hne : i ≠ j) (hap : oi.apart ops oj = true) (hord : Qam ops i j = false) :
  stepD E ops rid i st (fun st' => stepD E ops rid j st' K) = stepD E ops rid j st (fun st' => stepD E ops rid i st' K) ∨ stepD E ops rid i st (fun st' => stepD E ops rid j st' K) = none ∧ stepD E ops rid j st (fun st' => stepD E ops rid i st' K) = none := by
 obtain ⟨a1, a2, a3⟩ := Oper.apart_spec hap
 have hkk : keyOf rid j ≠ keyOf rid i := fun e => hne (Qgc e).symm
 have hord' : Qam ops j i = false := by unfold Qam at hord ⊢; rw [Bool.or_comm]; exact hord
 have hal := Qea hi hne hord'
 have hbd : oj.dst = none := by
  unfold Qaf at hb
  simp only [Zd, Option.isNone_iff_eq_none] at hb
  exact hb.1.2
 rw [Qdk hi hs hp, Qgx hj hb has hp hal]
 have e1 : ∀ v, stepD E ops rid j ((st.use (keyOf rid i)).put? oi.dst v) K = if Qbc ops rid j st oj then (if st.used (keyOf rid j) then none else (Qeo E st oj).bind fun p => K ((((st.use (keyOf rid i)).put? oi.dst v).use (keyOf rid j)).setBox p.1 p.2)) else none := fun v => by
  rw [Qgx hj hb has hp hal, Qdc (Qnj a1), Qmu (Qnj a1) (by cases oi.dst <;> rfl) (by cases oi.dst <;> rfl)]
  congr 1
  congr 1
  have : ((st.use (keyOf rid i)).put? oi.dst v).used (keyOf rid j) = st.used (keyOf rid j) := by
   cases oi.dst <;> (show (if keyOf rid j = keyOf rid i then true else st.used (keyOf rid j)) = _; rw [if_neg hkk])
  rw [this]
 have h2 : ∀ (b : Nat) (x : TypeId × List AC) (y : Operand), opnd ((st.use (keyOf rid j)).setBox b x) y = opnd st y := fun b x y => by cases y <;> rfl
 have e2 : ∀ (b : Nat) (x : TypeId × List AC), stepD E ops rid i ((st.use (keyOf rid j)).setBox b x) K = if Qbc ops rid i st oi then (if st.used (keyOf rid i) then none else if dstOk E.N oi.dst then (Qem st oi).bind fun v => K ((((st.use (keyOf rid j)).setBox b x).use (keyOf rid i)).put? oi.dst v) else none) else none := fun b x => by
  rw [Qdk hi hs hp, Qdc (fun y _ => h2 b x y), Qfv (fun y _ => h2 b x y)]
  have : ((st.use (keyOf rid j)).setBox b x).used (keyOf rid i) = st.used (keyOf rid i) := by
   show (if keyOf rid i = keyOf rid j then true else st.used (keyOf rid i)) = _
   rw [if_neg (Ne.symm hkk)]
  rw [this]
 simp only [e1, e2]
 left
 by_cases c1 : Qbc ops rid i st oi = true <;> by_cases c2 : Qbc ops rid j st oj = true <;> by_cases c3 : st.used (keyOf rid i) = true <;> by_cases c4 : st.used (keyOf rid j) = true <;> by_cases c5 : dstOk E.N oi.dst = true <;> cases c6 : Qem st oi <;> cases c7 : Qeo E st oj <;> simp [c1, c2, c3, c4, c5, Qmr]
theorem Qod (ho : ops[i]? = some o) (hs : Qaf o = true) (has : Qaq ops i = true) (hp : Qal ops = true) (hal : alone ops i = false) {K' : St → Option R} (h : stepD E ops rid i st K = some r) (hk : ∀ st', K st' = some r → K' st' = some r) : stepD E ops rid i st K' = some r := by
 rw [Qgx ho hs has hp hal] at h ⊢
 split at h
 ·rename_i c1
  rw [if_pos c1]
  split at h
  ·cases h
  ·rename_i c2
   rw [if_neg c2]
   obtain ⟨p, hp1, hp2⟩ := Option.bind_eq_some_iff.1 h
   rw [hp1]
   exact hk _ hp2
 ·cases h
theorem Qjt (hs : Qba o = true) : rough E ops o = false := by
 unfold Qba at hs
 simp only [Zd] at hs
 obtain ⟨_, hs⟩ := hs
 unfold rough loud
 cases hop : o.op <;> simp only [hop] at hs <;> first | (cases hs; done) | rfl
theorem appN (hal : alone ops i = false) (ho : ops[i]? = some o) {d? : Option Nat} (hab : Qai ops o = some d?) (h : stepD E ops rid i st K = some r) (hg : o.guard = none) :
  ∃ v kl, st.used (keyOf rid i) = false ∧ K (st.upd (keyOf rid i) o.dst v [] kl) = some r ∧
   ∀ s u, (∀ t ∈ o.looksAt ops, s t = st.slot t) → u (keyOf rid i) = false → ∀ K' : St → Option R, stepD E ops rid i (st.with s u st.box st.dead) K' = K' ((st.with s u st.box st.dead).upd (keyOf rid i) o.dst v [] kl) := by
 obtain ⟨c, X, Y, hop, hca, _, _⟩ := Qet hab
 have hbad : ∀ st : St, Qcs ops i st = false := fun st => Qen ho fun t a x e => by rw [hop] at e; cases e
 unfold stepD at h
 split at h
 case isFalse => cases h
 rename_i hclear
 rw [hbad, if_neg (by simp)] at h
 unfold Qed at h
 simp only [ho] at h
 split at h
 ·cases h
 rename_i hu
 have hu : st.used (keyOf rid i) = false := by simpa using hu
 simp only [hg] at h
 unfold exec at h
 split at h
 case isFalse => cases h
 rename_i hc
 have hlo : loud E o = true := by unfold loud; simp only [hop, hca]
 rw [if_pos hlo] at h
 obtain ⟨v, kl, h1, _, h3⟩ := Qhw hal hab hop hca hclear ho h
 refine ⟨v, kl, hu, h1, fun s u hs hus K' => ?_⟩
 unfold stepD
 rw [Qhb ho hs (fun x hx b he => rfl), if_pos hclear, hbad, if_neg (by simp)]
 unfold Qed
 simp only [ho, hg]
 rw [if_neg (by show ¬ (u (keyOf rid i) = true); simp [hus])]
 unfold exec
 rw [if_pos hc, if_pos hlo, h3 s u st.box st.dead hs (fun _ _ _ _ => rfl)]
 rfl
theorem Qpf (hal : alone ops i = false) (ho : ops[i]? = some o) {d? : Option Nat} (hab : Qai ops o = some d?) (hg : o.guard = none) {K' : St → Option R} (h : stepD E ops rid i st K = some r) (hk : ∀ st', K st' = some r → K' st' = some r) : stepD E ops rid i st K' = some r := by
 obtain ⟨v, kl, hu, h1, h2⟩ := appN hal ho hab h hg
 have := h2 st.slot st.used (fun _ _ => rfl) hu K'
 rw [Qlv] at this
 rw [this]; exact hk _ h1
theorem Qpd (hi : ops[i]? = some oi) (hj : ops[j]? = some oj) (hs : Qba oi = true) {d? : Option Nat} (hab : Qai ops oj = some d?) (hg : oj.guard = none) (hp : Qal ops = true) (hne : i ≠ j) (hap : oi.apart ops oj = true) (hord : Qam ops i j = false)
  (h : stepD E ops rid i st (fun st' => stepD E ops rid j st' K) = some r) : stepD E ops rid j st (fun st' => stepD E ops rid i st' K) = some r := by
 obtain ⟨a1, a2, a3⟩ := Oper.apart_spec hap
 have hkk : keyOf rid j ≠ keyOf rid i := fun e => hne (Qgc e).symm
 have hord' : Qam ops j i = false := by unfold Qam at hord ⊢; rw [Bool.or_comm]; exact hord
 have hal := Qea hi hne hord'
 rw [Qdk hi hs hp] at h
 split at h
 case isFalse => cases h
 rename_i c1
 split at h
 ·cases h
 rename_i c2
 split at h
 case isFalse => cases h
 rename_i c3
 obtain ⟨v, hv, h⟩ := Option.bind_eq_some_iff.1 h
 obtain ⟨w, kl, hu, h1, h2⟩ := appN hal hj hab h hg
 have e0 : ((st.use (keyOf rid i)).put? oi.dst v).with st.slot st.used ((st.use (keyOf rid i)).put? oi.dst v).box ((st.use (keyOf rid i)).put? oi.dst v).dead = st := by
  cases oi.dst <;> rfl
 have h3 := h2 st.slot st.used (fun t ht => by
  cases hd : oi.dst with
  | none => rfl
  | some d =>
   show st.slot t = (if t = d then v else st.slot t)
   rw [if_neg (fun (e : t = d) => a1 d hd (e ▸ ht))]) (by
  have : ((st.use (keyOf rid i)).put? oi.dst v).used (keyOf rid j) = st.used (keyOf rid j) := by
   cases oi.dst <;> (show (if keyOf rid j = keyOf rid i then true else st.used (keyOf rid j)) = _; rw [if_neg hkk])
  rw [this] at hu; exact hu) (fun st' => stepD E ops rid i st' K)
 rw [e0] at h3
 rw [h3, Qdk hi hs hp]
 have ho : ∀ x ∈ oi.op.operands, opnd (st.upd (keyOf rid j) oj.dst w [] kl) x = opnd st x := fun x hx => by
  cases x with
  | tmp t =>
   have ht : t ∈ oi.looksAt ops := List.mem_append_left _ (List.mem_filterMap.2 ⟨.tmp t, by simpa using hx, rfl⟩)
   show (st.upd (keyOf rid j) oj.dst w [] kl).slot t = st.slot t
   rw [Qdf]
   simp only
   rw [if_neg (fun e => a3 t e ht)]
  | const c => rfl
  | func f => rfl
  | global g => rfl
 have hun : (st.upd (keyOf rid j) oj.dst w [] kl).used (keyOf rid i) = st.used (keyOf rid i) := by rw [Qdg]; exact if_neg (Ne.symm hkk)
 rw [Qdc ho, if_pos c1, hun, if_neg c2, if_pos c3, Qfv ho, hv]
 simp only [Zo]
 rw [← h1]
 congr 1
 have hd : ∀ n, oi.dst = some n → oj.dst = some n → False := fun n h1 h2 => a2 n h1 h2
 refine St.ext' ?_ ?_ ?_ ?_ ?_ ?_
 ·funext n
  have e1 : (((st.upd (keyOf rid j) oj.dst w [] kl).use (keyOf rid i)).put? oi.dst v).slot n = if oi.dst = some n then v else (st.upd (keyOf rid j) oj.dst w [] kl).slot n := by
   cases hdi : oi.dst with
   | none => simp [St.put?, St.use]
   | some d =>
    show (if n = d then v else _) = _
    by_cases e : n = d
    ·simp [e]
    ·simp [e, Ne.symm e, St.use]
  have e2 : ((st.use (keyOf rid i)).put? oi.dst v).slot n = if oi.dst = some n then v else st.slot n := by
   cases hdi : oi.dst with
   | none => simp [St.put?, St.use]
   | some d =>
    show (if n = d then v else _) = _
    by_cases e : n = d
    ·simp [e]
    ·simp [e, Ne.symm e, St.use]
  rw [e1, Qdf, Qdf]
  simp only
  rw [e2]
  by_cases h1 : oi.dst = some n
  ·rw [if_pos h1, if_pos h1, if_neg (fun h => hd n h1 h)]
  ·rw [if_neg h1, if_neg h1]
 ·cases hdi : oi.dst <;> cases hdj : oj.dst <;> rfl
 ·cases hdi : oi.dst <;> cases hdj : oj.dst <;> cases kl <;> rfl
 ·cases hdi : oi.dst <;> cases hdj : oj.dst <;> rfl
 ·funext n
  have e1 : (((st.upd (keyOf rid j) oj.dst w [] kl).use (keyOf rid i)).put? oi.dst v).used n = if n = keyOf rid i then true else (st.upd (keyOf rid j) oj.dst w [] kl).used n := by cases oi.dst <;> rfl
  have e2 : ((st.use (keyOf rid i)).put? oi.dst v).used n = if n = keyOf rid i then true else st.used n := by cases oi.dst <;> rfl
  rw [e1, Qdg, Qdg]
  simp only
  rw [e2]
  by_cases h1 : n = keyOf rid i <;> by_cases h2 : n = keyOf rid j <;> simp [h1, h2]
 ·cases hdi : oi.dst <;> cases hdj : oj.dst <;> rfl
theorem Qoi (hi : ops[i]? = some oi) (hj : ops[j]? = some oj) (hs : Qba oi = true) {d? : Option Nat} (hab : Qai ops oj = some d?) (hg : oj.guard = none) (hp : Qal ops = true) (hne : i ≠ j) (hap : oi.apart ops oj = true) (hord : Qam ops i j = false)
  (h : stepD E ops rid j st (fun st' => stepD E ops rid i st' K) = some r) : stepD E ops rid i st (fun st' => stepD E ops rid j st' K) = some r := by
 obtain ⟨a1, a2, a3⟩ := Oper.apart_spec hap
 have hkk : keyOf rid j ≠ keyOf rid i := fun e => hne (Qgc e).symm
 have hord' : Qam ops j i = false := by unfold Qam at hord ⊢; rw [Bool.or_comm]; exact hord
 have hal := Qea hi hne hord'
 obtain ⟨w, kl, hu, h1, h2⟩ := appN hal hj hab h hg
 rw [Qdk hi hs hp] at h1
 have ho : ∀ x ∈ oi.op.operands, opnd (st.upd (keyOf rid j) oj.dst w [] kl) x = opnd st x := fun x hx => by
  cases x with
  | tmp t =>
   have ht : t ∈ oi.looksAt ops := List.mem_append_left _ (List.mem_filterMap.2 ⟨.tmp t, by simpa using hx, rfl⟩)
   show (st.upd (keyOf rid j) oj.dst w [] kl).slot t = st.slot t
   rw [Qdf]
   simp only
   rw [if_neg (fun e => a3 t e ht)]
  | const c => rfl
  | func f => rfl
  | global g => rfl
 have hun : (st.upd (keyOf rid j) oj.dst w [] kl).used (keyOf rid i) = st.used (keyOf rid i) := by rw [Qdg]; exact if_neg (Ne.symm hkk)
 rw [Qdc ho, Qfv ho, hun] at h1
 split at h1
 case isFalse => cases h1
 rename_i c1
 split at h1
 ·cases h1
 rename_i c2
 split at h1
 case isFalse => cases h1
 rename_i c3
 obtain ⟨v, hv, h1⟩ := Option.bind_eq_some_iff.1 h1
 rw [Qdk hi hs hp, if_pos c1, if_neg c2, if_pos c3, hv]
 simp only [Zo]
 have e0 : (st.use (keyOf rid i)).put? oi.dst v = st.with ((st.use (keyOf rid i)).put? oi.dst v).slot ((st.use (keyOf rid i)).put? oi.dst v).used st.box st.dead := by
  cases oi.dst <;> rfl
 have h3 := h2 ((st.use (keyOf rid i)).put? oi.dst v).slot ((st.use (keyOf rid i)).put? oi.dst v).used (fun t ht => by
  cases hd : oi.dst with
  | none => rfl
  | some d =>
   show (if t = d then v else st.slot t) = st.slot t
   rw [if_neg (fun (e : t = d) => a1 d hd (e ▸ ht))]) (by
  have : ((st.use (keyOf rid i)).put? oi.dst v).used (keyOf rid j) = st.used (keyOf rid j) := by
   cases oi.dst <;> (show (if keyOf rid j = keyOf rid i then true else st.used (keyOf rid j)) = _; rw [if_neg hkk])
  rw [this]; exact hu) K
 rw [← e0] at h3
 rw [h3, ← h1]
 congr 1
 have hd : ∀ n, oi.dst = some n → oj.dst = some n → False := fun n h1 h2 => a2 n h1 h2
 refine St.ext' ?_ ?_ ?_ ?_ ?_ ?_
 ·funext n
  have e1 : (((st.upd (keyOf rid j) oj.dst w [] kl).use (keyOf rid i)).put? oi.dst v).slot n = if oi.dst = some n then v else (st.upd (keyOf rid j) oj.dst w [] kl).slot n := by
   cases hdi : oi.dst with
   | none => simp [St.put?, St.use]
   | some d =>
    show (if n = d then v else _) = _
    by_cases e : n = d
    ·simp [e]
    ·simp [e, Ne.symm e, St.use]
  have e2 : ((st.use (keyOf rid i)).put? oi.dst v).slot n = if oi.dst = some n then v else st.slot n := by
   cases hdi : oi.dst with
   | none => simp [St.put?, St.use]
   | some d =>
    show (if n = d then v else _) = _
    by_cases e : n = d
    ·simp [e]
    ·simp [e, Ne.symm e, St.use]
  rw [e1, Qdf, Qdf]
  simp only
  rw [e2]
  by_cases h1 : oi.dst = some n
  ·rw [if_pos h1, if_pos h1, if_neg (fun h => hd n h1 h)]
  ·rw [if_neg h1, if_neg h1]
 ·cases hdi : oi.dst <;> cases hdj : oj.dst <;> rfl
 ·cases hdi : oi.dst <;> cases hdj : oj.dst <;> cases kl <;> rfl
 ·cases hdi : oi.dst <;> cases hdj : oj.dst <;> rfl
 ·funext n
  have e1 : (((st.upd (keyOf rid j) oj.dst w [] kl).use (keyOf rid i)).put? oi.dst v).used n = if n = keyOf rid i then true else (st.upd (keyOf rid j) oj.dst w [] kl).used n := by cases oi.dst <;> rfl
  have e2 : ((st.use (keyOf rid i)).put? oi.dst v).used n = if n = keyOf rid i then true else st.used n := by cases oi.dst <;> rfl
  rw [e1, Qdg, Qdg]
  simp only
  rw [e2]
  by_cases h1 : n = keyOf rid i <;> by_cases h2 : n = keyOf rid j <;> simp [h1, h2]
 ·cases hdi : oi.dst <;> cases hdj : oj.dst <;> rfl
theorem Qno (hap : oj.apart ops oi = true) (hd : oi.dst = none ∨ ∀ d, oi.dst = some d → d ∉ oj.looksAt ops ∧ oj.dst ≠ some d) : oi.apart ops oj = true := by
 obtain ⟨a1, a2, a3⟩ := Oper.apart_spec hap
 unfold Oper.apart
 simp only [Zd]
 refine ⟨?_, ?_⟩
 ·cases h : oi.dst with
  | none => rfl
  | some d =>
   have := hd.resolve_left (by rw [h]; simp)
   have := this d h
   simp [this.1, this.2]
 ·cases h : oj.dst with
  | none => rfl
  | some d => simp [a1 d h]
theorem Qnp (hap : oj.apart ops oi = true) : oi.apart ops oj = true := by
 obtain ⟨a1, a2, a3⟩ := Oper.apart_spec hap
 exact Qno hap (.inr fun d h => ⟨a3 d h, fun e => a2 d e h⟩)
theorem Qpu (hi : ops[i]? = some oi) : ∀ (L1 L2 : List Nat) (st : St), (∀ j ∈ L1, j ≠ i ∧ ∃ oj, ops[j]? = some oj ∧ calm E ops oj oi = true ∧ oj.apart ops oi = true ∧ Qam ops j i = false) →
  Qbv E ops rid (L1 ++ i :: L2) st K = some r → Qbv E ops rid (i :: (L1 ++ L2)) st K = some r
 | [], L2, st, _, h => h
 | j :: L1, L2, st, hq, h => by
  obtain ⟨hne, oj, hj, hcalm, hap, hord⟩ := hq j (by simp)
  simp only [List.cons_append, Qbv] at h ⊢
  have hord' : Qam ops i j = false := by unfold Qam at hord ⊢; rw [Bool.or_comm]; exact hord
  have hal := Qea hi (Ne.symm hne) hord
  have hrest : ∀ st', Qbv E ops rid (L1 ++ i :: L2) st' K = some r → Qbv E ops rid (i :: (L1 ++ L2)) st' K = some r := fun st' h' => Qpu hi L1 L2 st' (fun k hk => hq k (List.mem_cons_of_mem _ hk)) h'
  have hap' : oi.apart ops oj = true := Qnp hap
  unfold calm at hcalm
  simp only [Bool.or_eq_true, Zd, Bool.not_eq_true'] at hcalm
  obtain ⟨⟨hlj, hli⟩, hpw⟩ := hcalm
  have hstp : ∀ {o : Oper}, Qaf o = true → (Qcm E o).isEmpty = false := fun {o} hb => by
   unfold Qaf at hb
   simp only [Zd] at hb
   cases hop : o.op <;> simp only [hop] at hb <;> first | (cases hb.2; done) | simp [Qcm, hop]
  have hsta : ∀ {o : Oper}, Qba o = true → Qaf o = false ∧ Qai ops o = none := fun {o} hb => by
   unfold Qba at hb
   simp only [Zd] at hb
   cases hop : o.op <;> simp only [hop] at hb <;> first | (cases hb.2; done) | simp [Qaf, Qai, hop]
  have hgapp : ∀ {o : Oper} {d? : Option Nat}, Qai ops o = some d? → Qba o = false := fun {o} {d?} hb => by
   cases h : Qba o with
   | false => rfl
   | true => rw [(hsta h).2] at hb; cases hb
  -- the one that is looked at as a whole
  by_cases k1 : Qaf oj = true ∧ Qaq ops j = true
  ·have hs := Qgg hj hi (Ne.symm hne) hord k1.2
   have hp : Qal ops = true := hpw.resolve_right fun hc => by rw [hstp k1.1] at hc; cases hc.1
   have := Qod hj k1.1 k1.2 hp hal h hrest
   simp only [Qbv] at this
   rcases Qit (E := E) (rid := rid) (st := st) (K := fun st' => Qbv E ops rid (L1 ++ L2) st' K) hi hj hs k1.1 k1.2 hp (Ne.symm hne) hap' hord' with e | ⟨_, e⟩
   ·rw [e]; exact this
   ·rw [e] at this; cases this
  by_cases k2 : Qaf oi = true ∧ Qaq ops i = true
  ·have hs := Qgg hi hj hne hord' k2.2
   have hp : Qal ops = true := hpw.resolve_right fun hc => by rw [hstp k2.1] at hc; cases hc.2
   have := Qis hal hj (Qjt hs) (fun hb => by rw [(hsta hs).1] at hb; cases hb) (fun hb => by rw [(hsta hs).2] at hb; cases hb) h hrest
   simp only [Qbv] at this
   rcases Qit (E := E) (rid := rid) (st := st) (K := fun st' => Qbv E ops rid (L1 ++ L2) st' K) hj hi hs k2.1 k2.2 hp hne hap hord with e | ⟨e, _⟩
   ·rw [← e]; exact this
   ·rw [e] at this; cases this
  have w1 : Qaf oj = true → Qaq ops j = false := fun hb => by
   cases h : Qaq ops j with
   | false => rfl
   | true => exact absurd ⟨hb, h⟩ k1
  have w2 : Qaf oi = true → Qaq ops i = false := fun hb => by
   cases h : Qaq ops i with
   | false => rfl
   | true => exact absurd ⟨hb, h⟩ k2
  have hod : ∀ {k : Nat} {o : Oper}, ops[k]? = some o → Qda ops k = true → Qaq ops k = true ∧ Qal ops = true ∧ o.guard = none := fun {k o} hk h => by
   have e : ops.getD k default = o := by simp [Array.getD_eq_getD_getElem?, hk]
   unfold Qda at h
   rw [e] at h
   simp only [Zd, Option.isNone_iff_eq_none] at h
   exact ⟨h.1.1, h.1.2, h.2⟩
  by_cases k3 : (Qai ops oj).isSome = true ∧ Qda ops j = true
  ·obtain ⟨d?, hab⟩ := Option.isSome_iff_exists.1 k3.1
   obtain ⟨q1, q2, q3⟩ := hod hj k3.2
   have hs := Qgg hj hi (Ne.symm hne) hord q1
   have := Qpf hal hj hab q3 h hrest
   simp only [Qbv] at this
   exact Qoi hi hj hs hab q3 q2 (Ne.symm hne) hap' hord' this
  by_cases k4 : (Qai ops oi).isSome = true ∧ Qda ops i = true
  ·obtain ⟨d?, hab⟩ := Option.isSome_iff_exists.1 k4.1
   obtain ⟨q1, q2, q3⟩ := hod hi k4.2
   have hs := Qgg hi hj hne hord' q1
   have := Qis hal hj (Qjt hs) (fun hb => by rw [(hsta hs).1] at hb; cases hb) (fun hb => by rw [(hsta hs).2] at hb; cases hb) h hrest
   simp only [Qbv] at this
   exact Qpd hj hi hs hab q3 q2 hne hap hord this
  have w3 : (Qai ops oj).isSome = true → Qda ops j = false := fun hb => by
   cases h : Qda ops j with
   | false => rfl
   | true => exact absurd ⟨hb, h⟩ k3
  have w4 : (Qai ops oi).isSome = true → Qda ops i = false := fun hb => by
   cases h : Qda ops i with
   | false => rfl
   | true => exact absurd ⟨hb, h⟩ k4
  have := Qis hal hj hlj w1 w3 h hrest
  simp only [Qbv] at this
  exact Qpc hj hi hlj hli w1 w3 w2 w4 (hpw.imp id fun hc => ⟨by simpa using hc.1, by simpa using hc.2⟩) hne hap hord this
end
end
end Go.Proofs.YtbkcbfkehncocaaGreatDoor.Rx
