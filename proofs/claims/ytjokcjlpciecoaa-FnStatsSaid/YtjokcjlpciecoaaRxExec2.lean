/- A part of the evaluator and its soundness: Exec2. No condition beside those that each theorem states. -/
import Derived.Test.YtjokcjlpciecoaaRxExec
set_option linter.unusedSimpArgs false
set_option linter.unusedVariables false
namespace Go.Proofs.Ytjokcjlpciecoaa.Rx

section
variable {E : Env} {base : Nat} {Mod : Nat → Prop} {w0 : Org} {m : Emb} {st : St} {a : Act} {w : World} {key : Nat} {o : Oper} {R : Type} {r : R}

theorem appArg_news {c : CK} {e : TypeId} {X : Operand} {ys : List c.T} (h : Rel E.F base Mod w0 m st a w) (hpos : 0 < c.size) (hw : c.whole = true) (hx : appArg st c e (opnd st X) = some ys) : ∃ L, News m w c ys (a.eval X) L := by
  have hv := h.opnd X
  unfold appArg at hx
  split at hx
  · rename_i id own vw e' c' zs src heq
    rw [heq] at hv
    split at hx
    · cases hx
    rename_i hd
    split at hx
    case isFalse => cases hx
    obtain ⟨hcc, rfl⟩ := castList_spec hx
    subst hcc
    exact news_of (src := src) hv (by simpa using hd) hpos hw
  · rename_i heq
    rw [heq] at hv
    have hv' : a.eval X = .slice none 0 0 := hv
    simp only [Option.some.injEq] at hx; subst hx
    rw [hv']
    exact ⟨_, news_nil⟩
  · cases hx

theorem call_eta {c : Call} {s x : Operand} {t : TypeId} (hc : c.callee = .builtin .append) (ha : c.args.toList = [s, x]) (ht : c.argTypes.toList = [t, t]) : c = { callee := .builtin .append, args := #[s, x], argTypes := #[t, t] } := by
  obtain ⟨a, b, d⟩ := c
  simp only at hc ha ht
  subst hc
  congr 1
  · apply Array.toList_inj.1; simpa using ha
  · apply Array.toList_inj.1; simpa using ht

theorem eff_store_ep {K : AV → St → Option R} {t e : TypeId} {A X : Operand} {id : Id} {c : CK} {xs : List c.T} {i off : Nat} {src : Loc} (ho : o.op = .store t A X) (h : Rel E.F base Mod w0 m st a w) (hu : st.used key = false)
    (hA : opnd st A = .ep id e c xs i off src true) (hr : st.rights id = true) (hlen : (opnd st X).cells.length = sizeT E t) (hpos : 0 < sizeT E t) (hle : off + sizeT E t ≤ c.size)
    (hf : st.fresh (opnd st X).cells = true) (hp : (opnd st X).plain = true) (hg : AC.good (opnd st X).cells = true) (hni : id ∉ AC.ids (opnd st X).cells)
    {y z : c.T} (hy : xs[i]? = some y) (hz : ofCells c (putCells (toCells c y) off (opnd st X).cells) = some (z, []))
    (hK : (match (generalizing := false) src with
            | .slot t => match st.slot t with
              | .one (.sl id' true false _ _ _ _) => if id' = id then K .bad ((((st.use key).kill id).freezeAll (AC.ids (opnd st X).cells)).put t (.one (.sl (key, 0) true false e c (xs.set i z) .no))) else none
              | _ => none
            | .box b boff => match st.box b with
              | some (T, l) => match l[boff]? with
                | some (.sl id' true false _ _ _ _) => if id' = id && !st.lock b then K .bad ((((st.use key).kill id).freezeAll (AC.ids (opnd st X).cells)).setBox b (T, l.set boff (.sl (key, 0) true false e c (xs.set i z) .no))) else none
                | _ => none
              | none => none
            | .no => none) = some r) : Effs E base Mod w0 o a w fun av st' => K av st' = some r := by
  cases src with
  | no => cases hK
  | slot t =>
    obtain ⟨w', m', h1, h2, h3, h4, h5⟩ := store_ep ho h hu hA (by simp) hr hlen hpos hle hf hp hg hni hy hz
    simp only at hK
    split at hK
    · rename_i id' e' c' xs' src' hsl
      split at hK
      · rename_i he; subst he
        have hv := h.slot t
        rw [hsl] at hv
        obtain ⟨_, _, hv⟩ := hv
        simp only [if_true, (rights_spec hr).1, Bool.false_eq_true, false_or] at hv
        obtain ⟨ad, n, cap, hv1, _, _, hv2⟩ := hv
        have hv2 := hv2 rfl
        exact ⟨_, _, _, _, _, _, h1, .inr ⟨rfl, rfl⟩, hK, RelAV.bad _, h2.tell (by rw [hv2]; exact h4)⟩
      · cases hK
    · cases hK
  | box b boff =>
    obtain ⟨w', m', h1, h2, h3, h4, h5⟩ := store_ep ho h hu hA (by simp) hr hlen hpos hle hf hp hg hni hy hz
    simp only at hK
    split at hK
    · rename_i T l hb
      split at hK
      · rename_i id' e' c' xs' src' hl
        split at hK
        · rename_i he
          simp only [Bool.and_eq_true, decide_eq_true_eq] at he
          obtain ⟨rfl, _⟩ := he
          have hbs : (((st.use key).kill id').freezeAll (AC.ids (opnd st X).cells)).box = st.box := by rw [freezeAll_eq]; rfl
          obtain ⟨arr, harr, hrel⟩ := h.mem.box b T l hb
          obtain ⟨v, hv0, hv⟩ := hrel.get hl
          obtain ⟨_, _, hv⟩ := hv
          simp only [if_true, (rights_spec hr).1, Bool.false_eq_true, false_or] at hv
          obtain ⟨ad, n, cap, hv1, _, _, hv2⟩ := hv
          have hv2 := hv2 rfl
          refine ⟨_, _, _, _, _, _, h1, .inr ⟨rfl, rfl⟩, hK, RelAV.bad _, h2.tellBox (l := l) (by rw [hbs]; exact hb) fun arr' harr' hrel' => ?_⟩
          rw [h5 b (by simp [hb]), harr] at harr'
          simp only [Option.some.injEq, Obj.cells.injEq, and_true] at harr'
          obtain ⟨rfl, _⟩ := harr'
          refine All2.of_get (by rw [List.length_set]; exact hrel'.length) fun q x u hx hu' => ?_
          by_cases hq : boff = q
          · subst hq
            rw [List.getElem?_set_self (List.getElem?_eq_some_iff.1 hl).1] at hx
            simp only [Option.some.injEq] at hx; subst hx
            rw [hv0] at hu'
            simp only [Option.some.injEq] at hu'; subst hu'
            rw [hv2]; exact h4
          · rw [List.getElem?_set_ne hq] at hx
            obtain ⟨u', hu1, hu2⟩ := hrel'.get hx
            rw [hu'] at hu1
            simp only [Option.some.injEq] at hu1; subst hu1
            exact hu2
        · cases hK
      · cases hK
    · cases hK

/-- the operations that turn memory, but calls of functions -/
theorem effW_effs {K : AV → St → Option R} (hkey : 1000 ≤ key) (h : Rel E.F base Mod w0 m st a w) (hu : st.used key = false) (hnc : ∀ c g, o.op = .call c → c.callee = .value (.func g) → False)
    (hK : effW E key o (st.use key) K = some r) : Effs E base Mod w0 o a w fun av st' => K av st' = some r := by
  have h2 := h.use key
  unfold effW at hK
  split at hK
  · rename_i t X ho
    split at hK
    · rename_i hp
      exact eff_box hkey ho h hu hp rfl hK
    · cases hK
  · rename_i t ho
    split at hK
    · rename_i hz
      exact eff_alloc hkey ho h hu hz hK
    · cases hK
  · rename_i t A X ho
    split at hK
    · rename_i b off hA
      split at hK
      · rename_i T l hb
        split at hK
        · rename_i hc
          simp only [Bool.and_eq_true, decide_eq_true_eq, beq_iff_eq, Bool.not_eq_true'] at hc
          obtain ⟨⟨⟨⟨⟨hlen, hpos⟩, hle⟩, hlk⟩, hp⟩, hg⟩ := hc
          exact eff_store_box ho h2 hA hb hp hlen hpos hle hlk hg hK
        · cases hK
      · cases hK
    · rename_i b off n k j hA
      split at hK
      · rename_i T l k' v hb hX
        split at hK
        · rename_i ys rest hi
          split at hK
          · rename_i hc
            simp only [Bool.and_eq_true, decide_eq_true_eq, beq_iff_eq, Bool.not_eq_true'] at hc
            obtain ⟨⟨rfl, hsz⟩, hlk⟩ := hc
            exact eff_store_pi ho h2 hA hb hX hi hsz hlk hK
          · cases hK
        · cases hK
      · cases hK
    · rename_i id e c xs i off src hA
      split at hK
      · rename_i hc
        simp only [Bool.and_eq_true, decide_eq_true_eq, beq_iff_eq, Bool.not_eq_true'] at hc
        obtain ⟨⟨⟨⟨⟨⟨⟨hr, hlen⟩, hpos⟩, hle⟩, hf⟩, hp⟩, hg⟩, hni⟩ := hc
        obtain ⟨y, hy, hK⟩ := Option.bind_eq_some_iff.1 hK
        split at hK
        · rename_i z hz
          refine eff_store_ep (st := st) ho h hu hA hr hlen hpos hle hf hp hg (fun hm => ?_) hy hz hK
          have := List.contains_iff_mem.2 hm
          exact absurd (hni ▸ this : (false : Bool) = true) (by simp)
        · cases hK
      · cases hK
    · cases hK
  · rename_i t n parts ho
    split at hK
    · rename_i e he
      split at hK
      · rename_i c hc
        split at hK
        · rename_i hcc
          simp only [Bool.and_eq_true, decide_eq_true_eq, beq_iff_eq] at hcc
          obtain ⟨⟨⟨⟨⟨⟨⟨hn, hsz⟩, hpos⟩, hb⟩, hz⟩, hidx⟩, hp⟩, hf⟩ := hcc
          split at hK
          · rename_i hr
            exact eff_buildSlice ho h hu he hn hsz hpos hb hz hidx hp hf hr hK
          · cases hK
        · cases hK
      · cases hK
    · cases hK
  · rename_i c ho
    split at hK
    · rename_i hc
      split at hK
      · rename_i s x t t' ha ht
        split at hK
        · rename_i e he
          split at hK
          · rename_i ck z hk hz
            split at hK
            · rename_i hcc
              simp only [Bool.and_eq_true, decide_eq_true_eq, beq_iff_eq] at hcc
              obtain ⟨⟨⟨⟨rfl, hsz⟩, hzs⟩, hpos⟩, hwh⟩ := hcc
              have ho' := ho.trans (congrArg Op.call (call_eta hc ha ht))
              split at hK
              · cases hK
              rename_i ys hys
              obtain ⟨L, hL⟩ := appArg_news h2 hpos hwh hys
              split at hK
              · rename_i hs
                have hS := h2.opnd s
                rw [hs] at hS
                exact eff_append_nil ho' h hu he hz hzs hsz hS hL hK
              · rename_i id vw e' c' xs src hs
                split at hK
                · rename_i hr
                  simp only [Bool.and_eq_true, decide_eq_true_eq] at hr
                  obtain ⟨hr, rfl⟩ := hr
                  split at hK
                  · rename_i xs' hxs
                    obtain ⟨hcc, rfl⟩ := castList_spec hxs
                    subst hcc
                    have hS := h.opnd s
                    rw [show opnd st s = .one (.sl id true vw e' c' xs src) from hs] at hS
                    exact eff_append_own (src := src) ho' h hu he hz hzs hsz hpos hS hr hL hK
                  · cases hK
                · cases hK
              · cases hK
            · cases hK
          · cases hK
        · cases hK
      · cases hK
    · rename_i hc
      exact (hnc _ _ ho hc).elim
    · cases hK
  · cases hK

/-- one operation -/
theorem exec_sound (hE : EnvOk E) (hpd : ∀ d, o.dst = some d → E.pin d = false) {K : St → Option R} (hkey : 1000 ≤ key) (h : Rel E.F base Mod w0 m st a w) (hu : st.used key = false) (hK : exec E key o (st.use key) K = some r)
    {next : Act → World → Prop} {Q : Exit → Act → World → Prop} (hn : ∀ m' st' a' w', Rel E.F base Mod w0 m' st' a' w' → K st' = some r → next a' w') : o.wp E.P a w next Q := by
  unfold exec at hK
  have hd0 : ∀ d, o.dst = some d → d < E.N := fun d he => by
    by_cases hlt : d < E.N
    · exact hlt
    · simp [he, hlt, dstOk] at hK
  rw [if_pos (by cases hdd : o.dst with | none => rfl | some d => simpa [dstOk] using hd0 d hdd)] at hK
  have hd : ∀ d, o.dst = some d → d < E.F.1 ∧ E.F.2 d = false := fun d he => ⟨hd0 d he, hpd d he⟩
  by_cases hc : ∃ c g, o.op = .call c ∧ c.callee = .value (.func g)
  · obtain ⟨c, g, ho, hc⟩ := hc
    split at hK
    · simp only [effW, ho, hc] at hK
      split at hK
      · rename_i mk hmk
        exact callM_sound (hE.mks g mk hmk) hkey ho hc h hu hK fun m' st' av v w' h1 h2 h3 => hn _ _ _ _ (h1.put hd h2) h3
      · exact callW_sound hE.fns ho hc h hu hK fun m' st' av v w' h1 h2 h3 => hn _ _ _ _ (h1.put hd h2) h3
    · simp only [evalQ, ho, hc] at hK
      rw [show (opnd (st.use key)) = opnd st from funext fun x => by cases x <;> rfl] at hK
      rw [callQ_use] at hK
      exact callQ_sound hE.fns ho hc h hu hK fun m' av v w' h1 h2 h3 => hn _ _ _ _ (h1.put hd h2) h3
  · have hnc : ∀ c g, o.op = .call c → c.callee = .value (.func g) → False := fun c g h1 h2 => hc ⟨c, g, h1, h2⟩
    split at hK
    · exact Effs.wp (effW_effs hkey h hu hnc hK) hd (fun _ _ => rfl) hn
    · by_cases hv : ∃ c t, o.op = .call c ∧ c.callee = .value (.tmp t)
      · obtain ⟨c, t, ho, hc⟩ := hv
        simp only [evalQ, ho, hc] at hK
        split at hK
        · rename_i g fst caps ht
          rw [show (opnd (st.use key)) = opnd st from funext fun x => by cases x <;> rfl] at hK
          rw [callQ_use] at hK
          exact callV_sound (st := st) hE.fns ho hc (show st.slot t = _ from ht) h hu hK fun m' av v w' h1 h2 h3 => hn _ _ _ _ (h1.put hd h2) h3
        · cases hK
      · exact Vals.wp (evalQ_vals (h.use key) h hu (fun c x h1 h2 => by
          cases x with
          | func g => exact hnc c g h1 h2
          | tmp t => exact hv ⟨c, t, h1, h2⟩
          | const v => simp [evalQ, h1, h2] at hK
          | global g => simp [evalQ, h1, h2] at hK) hK) hd (fun _ => rfl) hn
end
end Go.Proofs.Ytjokcjlpciecoaa.Rx
