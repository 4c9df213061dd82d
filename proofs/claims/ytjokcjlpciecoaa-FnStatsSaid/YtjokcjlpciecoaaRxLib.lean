/- A part of the evaluator and its soundness: Lib. No condition beside those that each theorem states. -/
import Derived.Test.YtjokcjlpciecoaaRxStd
set_option linter.unusedVariables false
set_option linter.unusedSimpArgs false
namespace Go.Proofs.Ytjokcjlpciecoaa.Rx

/-! what the library's functions that turn rows do -/
/-- slices.Insert of one element -/
def insF {α : Type} (bytes : Nat) (l : List α) (i : Int) (v : List α) : Option (List α) :=
  if v.length = 1 ∧ 0 ≤ i ∧ i ≤ l.length ∧ (l.length + 1) * bytes ≤ 140737488355328 then some (l.take i.toNat ++ v ++ l.drop i.toNat) else none

/-- slices.Delete -/
def delR {α : Type} (l : List α) (i j : Int) : Option (List α) :=
  if 0 ≤ i ∧ i ≤ j ∧ j ≤ l.length then some (l.take i.toNat ++ l.drop j.toNat) else none

/-- slices.DeleteFunc -/
def delF {α : Type} (p : α → Option Bool) : List α → Option (List α)
  | [] => some []
  | x :: l => (p x).bind fun b => (delF p l).bind fun r => some (bif b then r else x :: r)

/-- slices.DeleteFunc: from the first place on that the search names -/
def delG {α : Type} (idx : Option Int) (p : α → Option Bool) (l : List α) : Option (List α) :=
  idx.bind fun i => if i = -1 then some l else if 0 ≤ i ∧ i < l.length ∧ l.length ≤ 9223372036854775806 then (delF p (l.drop (i.toNat + 1))).map (l.take i.toNat ++ ·) else none

theorem delF_eq {α : Type} {p : α → Option Bool} : ∀ {l r : List α}, delF p l = some r → (∀ x ∈ l, ∃ b, p x = some b) ∧ r = l.filter fun x => !(p x).getD false
  | [], r, h => by simp only [delF, Option.some.injEq] at h; subst h; simp
  | x :: l, r, h => by
    simp only [delF] at h
    obtain ⟨b, hb, h⟩ := Option.bind_eq_some_iff.1 h
    obtain ⟨s, hs, h⟩ := Option.bind_eq_some_iff.1 h
    obtain ⟨h1, h2⟩ := delF_eq hs
    simp only [Option.some.injEq] at h
    subst h
    refine ⟨fun y hy => ?_, ?_⟩
    · rcases List.mem_cons.1 hy with rfl | hy
      · exact ⟨b, hb⟩
      · exact h1 y hy
    · cases b <;> simp [hb, h2]

theorem delF_of {α : Type} {p : α → Option Bool} {q : α → Bool} : ∀ {l : List α}, (∀ x ∈ l, p x = some (q x)) → delF p l = some (l.filter fun x => !q x)
  | [], _ => rfl
  | x :: l, h => by
    rw [delF, h x (by simp), Option.bind_some, delF_of fun y hy => h y (by simp [hy])]
    cases hq : q x <;> simp [hq]
end Go.Proofs.Ytjokcjlpciecoaa.Rx
