/- A part of the evaluator and its soundness: Interp. No condition beside those that each theorem states. -/
import Derived.Test.YtjokcjlpciecoaaRxLay
set_option linter.unusedSimpArgs false
set_option linter.unusedVariables false
namespace Go.Proofs.Ytjokcjlpciecoaa.Rx

theorem wp_loop_fuel {P : Program} {Q : Exit → Act → World → Prop} {c : Code} (J : Nat → Act → World → Prop)
    (round : ∀ k a w, J k a w → c.wp P (Exit.then (fun a' w' => ∃ k', k' < k ∧ J k' a' w') Q) a w) {n : Nat} {a : Act} {w : World} (h₀ : J n a w) : (Code.loop c).wp P Q a w := by
  intro b k cs
  have key : ∀ n a w, J n a w → ∃ e a' w', Q e a' w' ∧ Arrives P (lone (b.at a (.code c :: .inLoop c :: k)) cs w) b k cs e a' w' := by
    intro n
    induction n using Nat.strongRecOn with
    | _ n ih =>
      intro a w hI
      obtain ⟨e, a₁, w₁, hq, harr⟩ := round n a w hI b (.inLoop c :: k) cs
      cases e with
      | normal =>
        obtain ⟨n', hlt, hI₁⟩ := hq
        obtain ⟨e₂, a₂, w₂, hq₂, harr₂⟩ := ih n' hlt a₁ w₁ hI₁
        exact ⟨e₂, a₂, w₂, hq₂, .of_steps (Steps.trans harr (.one step_inLoop)) harr₂⟩
      | exit id => exact ⟨_, a₁, w₁, hq, .pass (x := .inLoop c) rfl (fun _ _ => .inl (by simp)) harr⟩
      | goto l => exact ⟨_, a₁, w₁, hq, .pass (x := .inLoop c) rfl (fun _ _ => .inl (by simp)) harr⟩
      | ret => exact ⟨_, a₁, w₁, hq, .pass (x := .inLoop c) rfl (fun _ _ => .inl (by simp)) harr⟩
      | panic ch => exact ⟨_, a₁, w₁, hq, .pass (x := .inLoop c) rfl (fun _ _ => .inl (by simp)) harr⟩
      | outgrown => exact ⟨_, a₁, w₁, hq, .pass (x := .inLoop c) rfl (fun _ _ => .inl (by simp)) harr⟩
  obtain ⟨e, a', w', hq, harr⟩ := key n a w h₀
  exact ⟨e, a', w', hq, .of_steps (.one step_loop) harr⟩

theorem Exit.then_ne {next : Act → World → Prop} {Q : Exit → Act → World → Prop} {e : Exit} (h : e ≠ .normal) {a : Act} {w : World} : Exit.then next Q e a w = Q e a w := by
  cases e <;> first | rfl | exact absurd rfl h

section
variable {E : Env} {base : Nat} {Mod : Nat → Prop} {w0 : Org} {O : Type} {ret : St → Option O}

theorem interp_sound (hE : EnvOk E) (hmix : E.P.follows .mixedOrders = true) :
    ∀ (ann : Ann) (c : Code) {R : Type} (K : Kont O R) (st : St) (r : R) (m : Emb) (a : Act) (w : World) (Q : Exit → Act → World → Prop),
      interp E ret ann c K st = some r → Rel E.F base Mod w0 m st a w →
      (∀ m' st' a' w', Rel E.F base Mod w0 m' st' a' w' → K.nor st' = some r → Q .normal a' w') →
      (∀ id m' st' a' w', Rel E.F base Mod w0 m' st' a' w' → K.ex id st' = some r → Q (.exit id) a' w') →
      (∀ o m' st' a' w', Rel E.F base Mod w0 m' st' a' w' → ret st' = some o → K.ret o = some r → Q .ret a' w') → c.wp E.P Q a w := by
  intro ann
  induction ann with
  | leaf =>
    intro c R K st r m a w Q hK h hn hx hr
    cases c <;> simp only [interp] at hK <;> try (cases hK; done)
    · exact wp_skip (hn _ _ _ _ h hK)
    · exact region_sound hE hmix h hK hn
    · exact wp_exit (hx _ _ _ _ _ h hK)
    · obtain ⟨o, ho, hK⟩ := Option.bind_eq_some_iff.1 hK
      exact wp_ret (hr o _ _ _ _ h ho hK)
  | seq x y ihx ihy =>
    intro c R K st r m a w Q hK h hn hx hr
    cases c <;> simp only [interp] at hK <;> try (cases hK; done)
    refine wp_seq (ihx _ _ st r m a w _ hK h ?_ ?_ ?_)
    · intro m' st' a' w' h' hK'
      exact ihy _ K st' r m' a' w' Q hK' h' hn hx hr
    · intro id m' st' a' w' h' hK'; exact hx id m' st' a' w' h' hK'
    · intro o m' st' a' w' h' ho hK'; exact hr o m' st' a' w' h' ho hK'
  | cond x y ihx ihy =>
    intro c R K st r m a w Q hK h hn hx hr
    cases c with
    | cond cc p q =>
      cases cc with
      | tmp t =>
        simp only [interp] at hK
        obtain ⟨b, hb, hK⟩ := boolOf_spec hK
        have hv := h.slot t
        rw [hb] at hv
        refine wp_cond (t := b) (show a.eval (.tmp t) = .bool b from hv) ?_
        cases b with
        | true => exact ihx _ K st r m a w Q hK h hn hx hr
        | false => exact ihy _ K st r m a w Q hK h hn hx hr
      | _ => simp [interp] at hK
    | _ => simp [interp] at hK
  | blk x ih =>
    intro c R K st r m a w Q hK h hn hx hr
    cases c <;> simp only [interp] at hK <;> try (cases hK; done)
    rename_i id c
    refine wp_block (ih _ _ st r m a w _ hK h ?_ ?_ ?_)
    · exact hn
    · intro i m' st' a' w' h' hK'
      show if i = id then Q .normal a' w' else Q (.exit i) a' w'
      simp only at hK'
      split at hK'
      · rename_i e; rw [if_pos e]; exact hn _ _ _ _ h' hK'
      · rename_i e; rw [if_neg e]; exact hx _ _ _ _ _ h' hK'
    · exact hr
  | loop v x body ih =>
    intro c R K st r m a w Q hK h hn hx hr
    cases c with
    | block id c =>
      cases c with
      | loop c =>
        simp only [interp] at hK
        split at hK
        · cases hK
        rename_i s hs
        obtain ⟨y, hy, hK⟩ := Option.bind_eq_some_iff.1 hK
        obtain ⟨m1, h1⟩ := pack_rel h hs
        refine wp_block (wp_loop_fuel (fun k a w => ∃ s m, Rel E.F base Mod w0 m (unpack v s) a w ∧ iter (X := Item.T x ⊕ O) (fun s => interp E ret body c
          { nor := fun st' => (pack v st').map .inl, ex := fun i st' => if i = id then (pack x st').map (fun y => .inr (.inl y)) else none, ret := fun o => some (.inr (.inr o)) } (unpack v s)) k s = some y) ?_ (n := E.k) ⟨s, m1, h1, hy⟩)
        rintro k a1 w1 ⟨s1, m2, h2, hit⟩
        cases k with
        | zero => simp [iter] at hit
        | succ k =>
          simp only [iter] at hit
          obtain ⟨res, hres, hit⟩ := Option.bind_eq_some_iff.1 hit
          refine ih c _ _ res m2 a1 w1 _ hres h2 ?_ ?_ ?_
          · intro m' st' a' w' h' hK'
            obtain ⟨s2, hs2, rfl⟩ := Option.map_eq_some_iff.1 hK'
            obtain ⟨m3, h3⟩ := pack_rel h' hs2
            exact ⟨k, Nat.lt_succ_self k, s2, m3, h3, hit⟩
          · intro i m' st' a' w' h' hK'
            simp only at hK'
            split at hK'
            · rename_i e
              obtain ⟨y2, hy2, rfl⟩ := Option.map_eq_some_iff.1 hK'
              simp only [Option.some.injEq] at hit; subst hit
              obtain ⟨m3, h3⟩ := pack_rel h' hy2
              show if i = id then Q .normal a' w' else Q (.exit i) a' w'
              rw [if_pos e]
              exact hn _ _ _ _ h3 hK
            · cases hK'
          · intro o m' st' a' w' h' ho hK'
            simp only [Option.some.injEq] at hK'; subst hK'
            simp only [Option.some.injEq] at hit; subst hit
            exact hr o _ _ _ _ h' ho hK
      | _ => simp [interp] at hK
    | _ => simp [interp] at hK
  | cut x body ih =>
    intro c R K st r m a w Q hK h hn hx hr
    rw [interp] at hK
    obtain ⟨y, hy, hK⟩ := Option.bind_eq_some_iff.1 hK
    refine ih c _ st y m a w _ hy h ?_ ?_ ?_
    · intro m' st' a' w' h' hK'
      obtain ⟨s2, hs2, rfl⟩ := Option.map_eq_some_iff.1 hK'
      obtain ⟨m3, h3⟩ := pack_rel h' hs2
      exact hn _ _ _ _ h3 hK
    · intro id m' st' a' w' h' hK'; cases hK'
    · intro o m' st' a' w' h' ho hK'
      simp only [Option.some.injEq] at hK'; subst hK'
      exact hr o _ _ _ _ h' ho hK
end
end Go.Proofs.Ytjokcjlpciecoaa.Rx
