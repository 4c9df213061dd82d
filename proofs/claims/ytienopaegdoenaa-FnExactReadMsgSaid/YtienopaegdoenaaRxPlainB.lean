/- The plain side of the law of MsgOk. No condition beside those that each theorem states. -/
import Derived.Test.YtienopaegdoenaaRxPlainV
import Derived.Test.YtienopaegdoenaaRxStdB
set_option linter.unusedVariables false
set_option linter.unusedSimpArgs false
namespace Go.Proofs.Ytienopaegdoenaa.Rx
abbrev EntT := Int × ByteArray
abbrev MsgT := Int × Int × Int × Int × Int × Int × Int × Bool × List EntT × ByteArray

theorem list_all_eq {α : Type} [DecidableEq α] {a b : List α} (h : a.length = b.length) : (List.range a.length).all (fun i => decide (a[i]? = b[i]?)) = decide (a = b) := by
  rw [Bool.eq_iff_iff, range_all, decide_eq_true_eq]
  constructor
  · intro hp
    apply List.ext_getElem?
    intro i
    by_cases hi : i < a.length
    · simpa using hp i hi
    · rw [List.getElem?_eq_none (by omega), List.getElem?_eq_none (by omega)]
  · rintro rfl i _
    simp

theorem ent_dec (x y : EntT) : (decide (x.1 = y.1) && (decide (x.2 = y.2) && true)) = decide (x = y) := by
  rw [Bool.eq_iff_iff]; simp [Prod.ext_iff]

theorem specEnts {k : Nat} (hk : 9223372036854775808 ≤ k) (a b : List EntT) (ha : a.length ≤ 1048576) : spec_l15SameEntries.f k a b = some (decide (a = b)) := by
  unfold spec_l15SameEntries.f
  by_cases hl : a.length = b.length
  rotate_left
  · rw [decide_eq_false (show ¬ (a.length : Int) = (b.length : Int) by omega), decide_eq_false (fun e => hl (by rw [e]))]; rfl
  rw [decide_eq_true (show (a.length : Int) = (b.length : Int) by omega), ← list_all_eq hl]
  have key := all_iter (B := spec_l15SameEntries.b0 k) a.length (fun i => (a, b, false, (i : Int))) (fun i => decide (a[i]? = b[i]?)) (.inl false) (.inr false) (fun i hi => by
    have hb : i < b.length := by omega
    have e1 : decide ((i : Int) < (a.length : Int)) = true := by simp; omega
    have e2 : inb? a.length (i : Int) = some i := by rw [inb_ok (by omega) (by omega), Int.toNat_natCast]
    have e3 : inb? b.length (i : Int) = some i := by rw [inb_ok (by omega) (by omega), Int.toNat_natCast]
    unfold spec_l15SameEntries.b0
    dsimp only
    simp (disch := omega) only [e1, cond_true, e2, e3, Option.bind_some, List.getElem?_eq_getElem hi, List.getElem?_eq_getElem hb, wrap_i64, ent_dec, Option.some.injEq]
    cases decide (a[i] = b[i]) <;> rfl) (by
    have e1 : decide ((a.length : Int) < (a.length : Int)) = false := by simp
    unfold spec_l15SameEntries.b0
    dsimp only
    rw [e1]; rfl) k (by omega)
  have e0 : ((0 : Nat) : Int) = 0 := rfl
  simp only [e0] at key
  rw [key]
  cases (List.range a.length).all (fun i => decide (a[i]? = b[i]?)) <;> rfl

theorem implEnts {k : Nat} (hk : 9223372036854775808 ≤ k) (a b : List EntT) (ha : a.length ≤ 1048576) : impl_Entry.f k a b = some (decide (a = b)) := by
  unfold impl_Entry.f
  by_cases hl : a.length = b.length
  rotate_left
  · rw [decide_eq_false (show ¬ (a.length : Int) = (b.length : Int) by omega), decide_eq_false (fun e => hl (by rw [e]))]; rfl
  rw [decide_eq_true (show (a.length : Int) = (b.length : Int) by omega), ← list_all_eq hl]
  have key := all_iter (B := impl_Entry.b0 k) a.length (fun i => (a, b, false, (a.length : Int), (i : Int))) (fun i => decide (a[i]? = b[i]?)) (.inl false) (.inr false) (fun i hi => by
    have hb : i < b.length := by omega
    have e1 : decide ((i : Int) < (a.length : Int)) = true := by simp; omega
    have e2 : inb? a.length (i : Int) = some i := by rw [inb_ok (by omega) (by omega), Int.toNat_natCast]
    have e3 : inb? b.length (i : Int) = some i := by rw [inb_ok (by omega) (by omega), Int.toNat_natCast]
    unfold impl_Entry.b0
    dsimp only
    simp (disch := omega) only [e1, cond_true, e2, e3, Option.bind_some, List.getElem?_eq_getElem hi, List.getElem?_eq_getElem hb, wrap_i64, ent_dec, Option.some.injEq]
    cases decide (a[i] = b[i]) <;> rfl) (by
    have e1 : decide ((a.length : Int) < (a.length : Int)) = false := by simp
    unfold impl_Entry.b0
    dsimp only
    rw [e1]; rfl) k (by omega)
  have e0 : ((0 : Nat) : Int) = 0 := rfl
  simp only [e0] at key
  rw [key]
  cases (List.range a.length).all (fun i => decide (a[i]? = b[i]?)) <;> rfl

/-- two messages, field by field -/
def sameB (a b : MsgT) : Bool := decide (a.1 = b.1) && (decide (a.2.1 = b.2.1) && (decide (a.2.2.1 = b.2.2.1) && (decide (a.2.2.2.1 = b.2.2.2.1) && (decide (a.2.2.2.2.1 = b.2.2.2.2.1) && (decide (a.2.2.2.2.2.1 = b.2.2.2.2.2.1) && (decide (a.2.2.2.2.2.2.1 = b.2.2.2.2.2.2.1) && (decide (a.2.2.2.2.2.2.2.1 = b.2.2.2.2.2.2.2.1) && (decide (a.2.2.2.2.2.2.2.2.1 = b.2.2.2.2.2.2.2.2.1) && decide (a.2.2.2.2.2.2.2.2.2 = b.2.2.2.2.2.2.2.2.2)))))))))

theorem implSame {k : Nat} (hk : 9223372036854775808 ≤ k) (a b : MsgT) (ha : a.2.2.2.2.2.2.2.2.1.length ≤ 1048576) : impl_sameMsg.f k a b = some (sameB a b) := by
  unfold impl_sameMsg.f sameB
  rw [implEnts hk _ _ ha]
  simp only [Option.bind_some]
  refine bif_tt fun _ => bif_tt fun _ => bif_tt fun _ => bif_tt fun _ => bif_tt fun _ => bif_tt fun _ => bif_tt fun _ => bif_tt fun _ => bif_tt fun _ => rfl

theorem specSame {k : Nat} (hk : 9223372036854775808 ≤ k) (a b : MsgT) (ha : a.2.2.2.2.2.2.2.2.1.length ≤ 1048576) : spec_l15Same.f k a b = some (sameB a b) := by
  unfold spec_l15Same.f sameB
  rw [specEnts hk _ _ ha]
  simp only [Option.bind_some]
  refine bif_ff fun _ => bif_ff fun _ => bif_ff fun _ => bif_ff fun _ => bif_ff fun _ => bif_ff fun _ => bif_ff fun _ => bif_ff fun _ => ?_
  rw [Bool.and_comm]
  exact bif_ff fun _ => rfl

/-- entries whose terms run from one to another -/
def runP (d high : Int) (l : List EntT) (i : Nat) : Bool := match l[i]? with
  | some y => decide (y.2.size ≤ 900) && (decide (lastOf l d i ≤ y.1) && decide (y.1 ≤ high))
  | none => true

theorem specRun {k : Nat} (hk : 9223372036854775808 ≤ k) (l : List EntT) (low high : Int) (hl : l.length ≤ 1048576) : spec_l15Run.f k l low high = some ((List.range l.length).all (runP (if low > 1 then low else 1) high l)) := by
  have main : ∀ d, spec_l15Run.c0 k (l, d, high, false) = some ((List.range l.length).all (runP d high l)) := fun d => by
    unfold spec_l15Run.c0
    have key := all_iter (B := spec_l15Run.b0 k) l.length (fun i => (l, lastOf l d i, high, false, (i : Int))) (runP d high l) (.inl false) (.inr false) (fun i hi => by
      have e1 : decide ((i : Int) < (l.length : Int)) = true := by simp; omega
      have e2 : inb? l.length (i : Int) = some i := by rw [inb_ok (by omega) (by omega), Int.toNat_natCast]
      unfold spec_l15Run.b0 runP
      dsimp only
      rw [lastOf_succ l d hi]
      simp (disch := omega) only [e1, cond_true, e2, Option.bind_some, List.getElem?_eq_getElem hi, wrap_i64, Go.Proofs.Ytienopaegdoenaa.Rx.l1]
      cases (decide (lastOf l d i ≤ l[i].1) && decide (l[i].1 ≤ high))
      · simp
      by_cases a4 : (900 : Int) < (l[i].2.size : Int)
      · rw [decide_eq_true a4, decide_eq_false (show ¬ l[i].2.size ≤ 900 by omega)]; rfl
      rw [decide_eq_false a4, decide_eq_true (show l[i].2.size ≤ 900 by omega)]; rfl) (by
      have e1 : decide ((l.length : Int) < (l.length : Int)) = false := by simp
      unfold spec_l15Run.b0
      dsimp only
      rw [e1]; rfl) k (by omega)
    have e0 : ((0 : Nat) : Int) = 0 := rfl
    have e00 : lastOf l d 0 = d := rfl
    simp only [e0, e00] at key
    dsimp only
    rw [key]
    cases (List.range l.length).all (runP d high l) <;> rfl
  unfold spec_l15Run.f
  by_cases h : low < 1
  · rw [decide_eq_true h, if_neg (by omega)]
    exact main 1
  · rw [decide_eq_false h]
    have : (if low > 1 then low else 1) = low := by split <;> omega
    rw [this]
    exact main low

theorem implRun {k : Nat} (hk : 9223372036854775808 ≤ k) (m : MsgT) (hl : m.2.2.2.2.2.2.2.2.1.length ≤ 1048576) (hi0 : 0 ≤ m.2.2.2.2.1) (hi1 : m.2.2.2.2.1 ≤ 100000) :
    impl_entriesOk.f k m = some ((List.range m.2.2.2.2.2.2.2.2.1.length).all (runP (if m.2.2.2.2.2.1 > 1 then m.2.2.2.2.2.1 else 1) m.2.2.2.1 m.2.2.2.2.2.2.2.2.1) && (decide (m.2.2.2.2.2.2.2.2.1.length ≤ 4) && decide (m.2.2.2.2.1 + m.2.2.2.2.2.2.2.2.1.length ≤ 100000))) := by
  obtain ⟨kind, frm, to, term, index, iterm, commit, yes, l, data⟩ := m
  dsimp only at hl hi0 hi1 ⊢
  unfold impl_entriesOk.f
  dsimp only
  obtain ⟨d, hd⟩ : ∃ d, (if iterm > 1 then iterm else 1) = d := ⟨_, rfl⟩
  rw [hd]
  have key := all_iter (B := impl_entriesOk.b0 k) l.length (fun i => (false, lastOf l d i, l, (l.length : Int), (i : Int), kind, frm, to, term, index, iterm, commit, yes, l, data)) (runP d term l) (.inl (false, kind, frm, to, term, index, iterm, commit, yes, l, data)) (.inr false) (fun i hi => by
    have e1 : decide ((i : Int) < (l.length : Int)) = true := by simp; omega
    have e2 : inb? l.length (i : Int) = some i := by rw [inb_ok (by omega) (by omega), Int.toNat_natCast]
    unfold impl_entriesOk.b0 runP
    dsimp only
    rw [lastOf_succ l d hi]
    simp (disch := omega) only [e1, cond_true, e2, Option.bind_some, List.getElem?_eq_getElem hi, wrap_i64, within_eq]
    by_cases a4 : (900 : Int) < (l[i].2.size : Int)
    · rw [decide_eq_true a4, decide_eq_false (show ¬ l[i].2.size ≤ 900 by omega)]; rfl
    rw [decide_eq_false a4, decide_eq_true (show l[i].2.size ≤ 900 by omega)]
    cases (decide (lastOf l d i ≤ l[i].1) && decide (l[i].1 ≤ term)) <;> rfl) (by
    have e1 : decide ((l.length : Int) < (l.length : Int)) = false := by simp
    unfold impl_entriesOk.b0
    dsimp only
    rw [e1]; rfl) k (by omega)
  have e0 : ((0 : Nat) : Int) = 0 := rfl
  have e00 : lastOf l d 0 = d := rfl
  simp only [e0, e00] at key
  rw [key]
  cases (List.range l.length).all (runP d term l)
  · rfl
  simp only [if_true, Option.bind_some, Bool.true_and]
  unfold impl_entriesOk.d0
  dsimp only
  rw [wrap_i64 (by omega) (by omega)]
  have : decide ((l.length : Int) ≤ 4) = decide (l.length ≤ 4) := by rw [Bool.eq_iff_iff]; simp only [decide_eq_true_eq]; omega
  rw [this]
  exact bif_tt fun _ => rfl
end Go.Proofs.Ytienopaegdoenaa.Rx
namespace Go.Proofs.Ytienopaegdoenaa.Rx

theorem srvS (k : Nat) (x : Int) : spec_l15Server.f k x = some (decide (0 ≤ x) && decide (x ≤ 4)) := by unfold spec_l15Server.f; rw [Go.Proofs.Ytienopaegdoenaa.Rx.l1]; rfl
theorem srvI (k : Nat) (x : Int) : impl_isServer.f k x = some (decide (0 ≤ x) && decide (x ≤ 4)) := by unfold impl_isServer.f; rw [within_eq]; rfl
theorem cliS (k : Nat) (x : Int) : spec_l15Client.f k x = some (decide (11 ≤ x) && decide (x ≤ 16)) := by unfold spec_l15Client.f; rw [Go.Proofs.Ytienopaegdoenaa.Rx.l1]; rfl
theorem cliI (k : Nat) (x : Int) : impl_isClient.f k x = some (decide (11 ≤ x) && decide (x ≤ 16)) := by unfold impl_isClient.f; rw [within_eq]; rfl
theorem verI (k : Nat) (x : Int) : impl_isVersion.f k x = some (decide (1 ≤ x) && decide (x ≤ 6)) := by unfold impl_isVersion.f; rw [within_eq]; rfl

/-- are the addresses as the kind wants them -/
def addrB (m : MsgT) : Bool :=
  if 1 ≤ m.1 ∧ m.1 ≤ 5 then (decide (0 ≤ m.2.1) && decide (m.2.1 ≤ 4)) && ((decide (0 ≤ m.2.2.1) && decide (m.2.2.1 ≤ 4)) && !decide (m.2.1 = m.2.2.1))
  else if m.1 = 6 ∨ m.1 = 8 then (decide (11 ≤ m.2.1) && decide (m.2.1 ≤ 16)) && (decide (0 ≤ m.2.2.1) && decide (m.2.2.1 ≤ 4))
  else if m.1 = 7 ∨ m.1 = 9 then (decide (0 ≤ m.2.1) && decide (m.2.1 ≤ 4)) && (decide (11 ≤ m.2.2.1) && decide (m.2.2.1 ≤ 16))
  else false

theorem addr_eq (k : Nat) (m : MsgT) : impl_addressed.f k m = some (addrB m) := by
  obtain ⟨kind, frm, to, term, index, iterm, commit, yes, l, data⟩ := m
  have c2 : ∀ b, impl_addressed.c2 k (false, b, kind, frm, to, term, index, iterm, commit, yes, l, data) = some (b && ((decide (0 ≤ frm) && decide (frm ≤ 4)) && (decide (11 ≤ to) && decide (to ≤ 16)))) := fun b => by
    unfold impl_addressed.c2
    dsimp only
    simp only [srvI, cliI, Option.bind_some]
    exact bif_tt fun _ => bif_tt fun _ => rfl
  have c1 : ∀ b, impl_addressed.c1 k (false, kind, b, kind, frm, to, term, index, iterm, commit, yes, l, data) = some (bif b then ((decide (11 ≤ frm) && decide (frm ≤ 16)) && (decide (0 ≤ to) && decide (to ≤ 4))) else ((decide (kind = 7 ∨ kind = 9)) && ((decide (0 ≤ frm) && decide (frm ≤ 4)) && (decide (11 ≤ to) && decide (to ≤ 16))))) := fun b => by
    unfold impl_addressed.c1
    dsimp only
    simp only [srvI, cliI, Option.bind_some]
    cases b
    · simp only [cond_false]
      by_cases h7 : kind = 7
      · rw [decide_eq_true h7, cond_true, decide_eq_true (Or.inl h7)]
        exact c2 true
      · rw [decide_eq_false h7, cond_false]
        simp only [Option.bind_some]
        rw [c2]
        by_cases h9 : kind = 9 <;> simp [h7, h9]
    · simp only [cond_true]
      exact bif_tt fun _ => rfl
  have c0 : ∀ b, impl_addressed.c0 k (false, kind, b, kind, frm, to, term, index, iterm, commit, yes, l, data) = some (bif b then ((decide (0 ≤ frm) && decide (frm ≤ 4)) && ((decide (0 ≤ to) && decide (to ≤ 4)) && !decide (frm = to))) else (bif decide (kind = 6 ∨ kind = 8) then ((decide (11 ≤ frm) && decide (frm ≤ 16)) && (decide (0 ≤ to) && decide (to ≤ 4))) else ((decide (kind = 7 ∨ kind = 9)) && ((decide (0 ≤ frm) && decide (frm ≤ 4)) && (decide (11 ≤ to) && decide (to ≤ 16)))))) := fun b => by
    unfold impl_addressed.c0
    dsimp only
    simp only [srvI, cliI, Option.bind_some]
    cases b
    · simp only [cond_false]
      by_cases h6 : kind = 6
      · rw [decide_eq_true h6, cond_true, decide_eq_true (Or.inl h6)]
        exact c1 true
      · rw [decide_eq_false h6, cond_false]
        simp only [Option.bind_some]
        rw [c1]
        by_cases h8 : kind = 8 <;> simp [h6, h8]
    · simp only [cond_true]
      exact bif_tt fun _ => bif_tt fun _ => rfl
  have main : impl_addressed.f k (kind, frm, to, term, index, iterm, commit, yes, l, data) = impl_addressed.c0 k (false, kind, decide (1 ≤ kind ∧ kind ≤ 5), kind, frm, to, term, index, iterm, commit, yes, l, data) := by
    unfold impl_addressed.f
    dsimp only
    by_cases h1 : kind = 1
    · subst h1; rfl
    by_cases h2 : kind = 2
    · subst h2; rfl
    by_cases h3 : kind = 3
    · subst h3; rfl
    by_cases h4 : kind = 4
    · subst h4; rfl
    by_cases h5 : kind = 5
    · subst h5; rfl
    rw [decide_eq_false h1, decide_eq_false h2, decide_eq_false h3, decide_eq_false h4, decide_eq_false h5, decide_eq_false (show ¬ (1 ≤ kind ∧ kind ≤ 5) by omega)]
    rfl
  rw [main, c0]
  unfold addrB
  dsimp only
  by_cases h1 : 1 ≤ kind ∧ kind ≤ 5
  · rw [decide_eq_true h1, if_pos h1]; rfl
  rw [decide_eq_false h1, if_neg h1, cond_false]
  by_cases h6 : kind = 6 ∨ kind = 8
  · rw [decide_eq_true h6, if_pos h6]; rfl
  rw [decide_eq_false h6, if_neg h6, cond_false]
  by_cases h7 : kind = 7 ∨ kind = 9
  · rw [decide_eq_true h7, if_pos h7]; simp
  · rw [decide_eq_false h7, if_neg h7]; rfl
end Go.Proofs.Ytienopaegdoenaa.Rx
namespace Go.Proofs.Ytienopaegdoenaa.Rx

theorem gd {α β : Type} {b : Bool} {F : Bool → α} {g : Bool} {x : Option (α ⊕ β)} (h : b = true → x = some (.inl (F g))) : (bif b then x else some (.inl (F false))) = some (.inl (F (b && g))) := by
  cases b
  · rfl
  · simpa using h rfl

abbrev Gd := Bool × Bool × MsgT × MsgT
def gF (m z : MsgT) (g : Bool) : Gd := (false, g, m, z)

theorem spec_c1 {k : Nat} (hk : 9223372036854775808 ≤ k) (m z : MsgT) (g : Bool) (ha : m.2.2.2.2.2.2.2.2.1.length ≤ 1048576) : spec_MsgOk.c1 k (gF m z g) = some (g && sameB m z) := by
  unfold spec_MsgOk.c1 gF
  dsimp only
  have := specSame hk m z ha
  simp only [Prod.eta, this, Option.bind_some]
  exact bif_tt fun _ => rfl

/-- the message that spec compares with, as far as it is laid before the kinds part -/
def z0 (m : MsgT) (sv : Bool) : MsgT := (m.1, m.2.1, m.2.2.1, bif sv then m.2.2.2.1 else 0, 0, 0, 0, false, [], ⟨#[]⟩)

theorem spec_head (k : Nat) (m : MsgT) :
    spec_MsgOk.f k m = spec_MsgOk.c0 k (false, (decide (0 ≤ m.2.1) && decide (m.2.1 ≤ 4)) && ((decide (0 ≤ m.2.2.1) && decide (m.2.2.1 ≤ 4)) && !decide (m.2.1 = m.2.2.1)), (decide (11 ≤ m.2.1) && decide (m.2.1 ≤ 16)) && (decide (0 ≤ m.2.2.1) && decide (m.2.2.1 ≤ 4)),
      (decide (0 ≤ m.2.1) && decide (m.2.1 ≤ 4)) && (decide (11 ≤ m.2.2.1) && decide (m.2.2.1 ≤ 16)), decide (1 ≤ m.2.2.2.1) && decide (m.2.2.2.1 ≤ 100000), m, z0 m ((decide (0 ≤ m.2.1) && decide (m.2.1 ≤ 4)) && ((decide (0 ≤ m.2.2.1) && decide (m.2.2.1 ≤ 4)) && !decide (m.2.1 = m.2.2.1)))) := by
  obtain ⟨kind, frm, to, term, index, iterm, commit, yes, l, data⟩ := m
  unfold spec_MsgOk.f z0
  dsimp only
  simp only [srvS, cliS, Go.Proofs.Ytienopaegdoenaa.Rx.l1, Option.bind_some]
  cases (decide (0 ≤ frm) && decide (frm ≤ 4)) <;> cases (decide (0 ≤ to) && decide (to ≤ 4)) <;> cases (decide (11 ≤ frm) && decide (frm ≤ 16)) <;> cases (decide (11 ≤ to) && decide (to ≤ 16)) <;> cases decide (frm = to) <;> rfl

/-- what each kind asks beyond the addresses and the names -/
def goodB (k : Nat) (m : MsgT) : Bool :=
  if m.1 = 1 then (decide (1 ≤ m.2.2.2.1) && decide (m.2.2.2.1 ≤ 100000)) && (decide ((m.2.2.2.2.1 = 0 ∧ m.2.2.2.2.2.1 = 0) ∨ (1 ≤ m.2.2.2.2.1 ∧ m.2.2.2.2.1 ≤ 100000 ∧ 1 ≤ m.2.2.2.2.2.1 ∧ m.2.2.2.2.2.1 ≤ 100000)) && decide (m.2.2.2.2.2.1 ≤ m.2.2.2.1))
  else if m.1 = 2 then (decide (1 ≤ m.2.2.2.1) && decide (m.2.2.2.1 ≤ 100000))
  else if m.1 = 3 then (decide (1 ≤ m.2.2.2.1) && decide (m.2.2.2.1 ≤ 100000)) && (decide ((m.2.2.2.2.1 = 0 ∧ m.2.2.2.2.2.1 = 0) ∨ (1 ≤ m.2.2.2.2.1 ∧ m.2.2.2.2.1 ≤ 100000 ∧ 1 ≤ m.2.2.2.2.2.1 ∧ m.2.2.2.2.2.1 ≤ 100000)) && (decide (m.2.2.2.2.2.1 ≤ m.2.2.2.1) && ((decide (0 ≤ m.2.2.2.2.2.2.1) && decide (m.2.2.2.2.2.2.1 ≤ 100000)) && (decide (m.2.2.2.2.2.2.2.2.1.length ≤ 4) && ((List.range m.2.2.2.2.2.2.2.2.1.length).all (runP (if m.2.2.2.2.2.1 > 1 then m.2.2.2.2.2.1 else 1) m.2.2.2.1 m.2.2.2.2.2.2.2.2.1) && decide (m.2.2.2.2.1 + m.2.2.2.2.2.2.2.2.1.length ≤ 100000))))))
  else if m.1 = 4 then (decide (1 ≤ m.2.2.2.1) && decide (m.2.2.2.1 ≤ 100000)) && (decide (0 ≤ m.2.2.2.2.1) && decide (m.2.2.2.2.1 ≤ 100000))
  else if m.1 = 5 then (decide (1 ≤ m.2.2.2.1) && decide (m.2.2.2.1 ≤ 100000)) && ((decide (1 ≤ m.2.2.2.2.1) && decide (m.2.2.2.2.1 ≤ 100000)) && ((decide (1 ≤ m.2.2.2.2.2.1) && decide (m.2.2.2.2.2.1 ≤ m.2.2.2.1)) && decide ((m.2.2.2.2.2.2.2.2.2.size : Int) ≤ 8000)))
  else if m.1 = 6 then (decide (1 ≤ m.2.2.2.2.1) && decide (m.2.2.2.2.1 ≤ 1000000)) && (V.rop k m.2.2.2.2.2.2.2.2.2).2
  else if m.1 = 7 then (decide (1 ≤ m.2.2.2.2.1) && decide (m.2.2.2.2.1 ≤ 1000000)) && ((spec_ReadAnswer.f k m.2.2.2.2.2.2.2.2.2).map (·.2)).getD false
  else if m.1 = 8 then (decide (1 ≤ m.2.2.2.2.1) && decide (m.2.2.2.2.1 ≤ 6)) && (decide (0 ≤ m.2.2.2.2.2.2.1) && decide (m.2.2.2.2.2.2.1 ≤ 250))
  else if m.1 = 9 then (decide (1 ≤ m.2.2.2.2.1) && decide (m.2.2.2.2.1 ≤ 6)) && ((decide (0 ≤ m.2.2.2.2.2.2.1) && decide (m.2.2.2.2.2.2.1 ≤ 250)) && (decide ((m.2.2.2.2.2.2.2.2.2.size : Int) ≤ 64) && (m.2.2.2.2.2.2.2.1 || decide (m.2.2.2.2.2.2.2.2.2 = ⟨#[]⟩))))
  else false

/-- the message with what its kind names alone -/
def nameM (m : MsgT) : MsgT := (m.1, m.2.1, m.2.2.1, if m.1 ≤ 5 then m.2.2.2.1 else 0, if m.1 = 2 then 0 else m.2.2.2.2.1, if m.1 = 1 ∨ m.1 = 3 ∨ m.1 = 5 then m.2.2.2.2.2.1 else 0, if m.1 = 3 ∨ m.1 = 8 ∨ m.1 = 9 then m.2.2.2.2.2.2.1 else 0, if m.1 = 2 ∨ m.1 = 4 ∨ m.1 = 9 then m.2.2.2.2.2.2.2.1 else false, if m.1 = 3 then m.2.2.2.2.2.2.2.2.1 else [], if m.1 = 5 ∨ m.1 = 6 ∨ m.1 = 7 ∨ m.1 = 9 then m.2.2.2.2.2.2.2.2.2 else ⟨#[]⟩)

def msgB (k : Nat) (m : MsgT) : Bool := addrB m && (sameB m (nameM m) && goodB k m)
def msgS (m : MsgT) : Prop := m.2.2.2.2.2.2.2.2.1.length ≤ 1048576 ∧ m.2.2.2.2.2.2.2.2.2.size ≤ 1048576

theorem ac3 (a b c : Bool) : (some ((a && b) && c)) = some (a && (c && b)) := by cases a <;> cases b <;> cases c <;> rfl

theorem specMsg {k : Nat} (hk : 9223372036854775808 ≤ k) (m : MsgT) (hs : msgS m) : spec_MsgOk.f k m = some (msgB k m) := by
  rw [spec_head]
  obtain ⟨kind, frm, to, term, index, iterm, commit, yes, l, data⟩ := m
  obtain ⟨s1, s2⟩ := hs
  dsimp only at s1 s2 ⊢
  obtain ⟨ra, hra, _⟩ := V.readAnswer_same hk data s2
  obtain ⟨hrop, _⟩ := V.specOp hk data s2
  have hc1 := fun z g => spec_c1 hk (kind, frm, to, term, index, iterm, commit, yes, l, data) z g s1
  unfold msgB addrB goodB nameM
  dsimp only
  have dF : ((decide (11 ≤ frm) && decide (frm ≤ 16)) && (decide (0 ≤ frm) && decide (frm ≤ 4))) = false := by
    cases h : ((decide (11 ≤ frm) && decide (frm ≤ 16)) && (decide (0 ≤ frm) && decide (frm ≤ 4))) with
    | false => rfl
    | true => simp only [Bool.and_eq_true, decide_eq_true_eq] at h; omega
  have dT : ((decide (11 ≤ to) && decide (to ≤ 16)) && (decide (0 ≤ to) && decide (to ≤ 4))) = false := by
    cases h : ((decide (11 ≤ to) && decide (to ≤ 16)) && (decide (0 ≤ to) && decide (to ≤ 4))) with
    | false => rfl
    | true => simp only [Bool.and_eq_true, decide_eq_true_eq] at h; omega
  generalize (decide (0 ≤ frm) && decide (frm ≤ 4)) = sF at dF ⊢
  generalize (decide (0 ≤ to) && decide (to ≤ 4)) = sT at dT ⊢
  generalize (decide (11 ≤ frm) && decide (frm ≤ 16)) = cF at dF ⊢
  generalize (decide (11 ≤ to) && decide (to ≤ 16)) = cT at dT ⊢
  generalize (!decide (frm = to)) = ne
  by_cases k1 : kind = 1
  · subst k1
    have hz : ∀ sv g, (sv && (sameB (1, frm, to, term, index, iterm, commit, yes, l, data) (1, frm, to, bif sv then term else 0, index, iterm, 0, false, [], ⟨#[]⟩) && g)) = (sv && (sameB (1, frm, to, term, index, iterm, commit, yes, l, data) (1, frm, to, term, index, iterm, 0, false, [], ⟨#[]⟩) && g)) := fun sv g => by cases sv <;> rfl
    unfold spec_MsgOk.c0 z0
    dsimp only
    simp only [Int.reduceEq, Int.reduceLE, decide_true, decide_false, cond_true, cond_false, based_eq, Option.bind_some, if_true, if_false, true_or, or_true, or_false, false_or, and_true, true_and, and_self]
    generalize hsv : (sF && (sT && ne)) = sv
    have step := gd (β := Bool) (F := gF (1, frm, to, term, index, iterm, commit, yes, l, data) (1, frm, to, bif sv then term else 0, index, iterm, 0, false, [], ⟨#[]⟩)) (b := sv) (fun _ => gd (b := decide (1 ≤ term) && decide (term ≤ 100000)) (fun _ => gd (b := decide ((index = 0 ∧ iterm = 0) ∨ (1 ≤ index ∧ index ≤ 100000 ∧ 1 ≤ iterm ∧ iterm ≤ 100000))) (g := decide (iterm ≤ term)) (fun _ => rfl)))
    refine Eq.trans (congrArg (fun x => Option.bind x _) step) ?_
    simp only [Option.bind_some, hc1]
    rw [ac3, hz]
  by_cases k2 : kind = 2
  · subst k2
    have hz : ∀ sv g, (sv && (sameB (2, frm, to, term, index, iterm, commit, yes, l, data) (2, frm, to, bif sv then term else 0, 0, 0, 0, yes, [], ⟨#[]⟩) && g)) = (sv && (sameB (2, frm, to, term, index, iterm, commit, yes, l, data) (2, frm, to, term, 0, 0, 0, yes, [], ⟨#[]⟩) && g)) := fun sv g => by cases sv <;> rfl
    unfold spec_MsgOk.c0 z0
    dsimp only
    simp only [Int.reduceEq, Int.reduceLE, decide_true, decide_false, cond_true, cond_false, based_eq, Go.Proofs.Ytienopaegdoenaa.Rx.l1, Option.bind_some, if_true, if_false, true_or, or_true, or_false, false_or, and_true, true_and, and_self, false_and, and_false, hrop, hra, Option.map_some, Option.getD_some]
    generalize hsv : (sF && (sT && ne)) = sv
    have step := gd (β := Bool) (F := gF (2, frm, to, term, index, iterm, commit, yes, l, data) (2, frm, to, bif sv then term else 0, 0, 0, 0, yes, [], ⟨#[]⟩)) (b := sv) (g := decide (1 ≤ term) && decide (term ≤ 100000)) (fun _ => rfl)
    refine Eq.trans (congrArg (fun x => Option.bind x _) step) ?_
    simp only [Option.bind_some, hc1]
    rw [ac3, hz]
  by_cases k3 : kind = 3
  · subst k3
    have hz : ∀ sv g, (sv && (sameB (3, frm, to, term, index, iterm, commit, yes, l, data) (3, frm, to, bif sv then term else 0, index, iterm, commit, false, l, ⟨#[]⟩) && g)) = (sv && (sameB (3, frm, to, term, index, iterm, commit, yes, l, data) (3, frm, to, term, index, iterm, commit, false, l, ⟨#[]⟩) && g)) := fun sv g => by cases sv <;> rfl
    unfold spec_MsgOk.c0 z0
    dsimp only
    simp only [Int.reduceEq, Int.reduceLE, decide_true, decide_false, cond_true, cond_false, based_eq, Go.Proofs.Ytienopaegdoenaa.Rx.l1, Option.bind_some, if_true, if_false, true_or, or_true, or_false, false_or, and_true, true_and, and_self, false_and, and_false, hrop, hra, Option.map_some, Option.getD_some, specRun hk l iterm term s1]
    generalize hsv : (sF && (sT && ne)) = sv
    have step := gd (β := Bool) (F := gF (3, frm, to, term, index, iterm, commit, yes, l, data) (3, frm, to, bif sv then term else 0, index, iterm, commit, false, l, ⟨#[]⟩)) (b := sv) (fun _ => gd (b := decide (1 ≤ term) && decide (term ≤ 100000)) (fun h => gd (b := decide ((index = 0 ∧ iterm = 0) ∨ (1 ≤ index ∧ index ≤ 100000 ∧ 1 ≤ iterm ∧ iterm ≤ 100000))) (fun hb => gd (b := decide (iterm ≤ term)) (fun h => gd (b := decide (0 ≤ commit) && decide (commit ≤ 100000)) (fun h => gd (b := decide ((l.length : Int) ≤ 4)) (fun h => gd (b := (List.range l.length).all (runP (if iterm > 1 then iterm else 1) term l)) (g := decide (IntKind.wrap .i64 (index + (l.length : Int)) ≤ 100000)) (fun h => rfl)))))))
    refine Eq.trans (congrArg (fun x => Option.bind x _) step) ?_
    simp only [Option.bind_some, hc1]
    rw [ac3, hz]
    have hlen : decide ((l.length : Int) ≤ 4) = decide (l.length ≤ 4) := by rw [Bool.eq_iff_iff]; simp only [decide_eq_true_eq]; omega
    rw [hlen]
    by_cases hb : (index = 0 ∧ iterm = 0) ∨ (1 ≤ index ∧ index ≤ 100000 ∧ 1 ≤ iterm ∧ iterm ≤ 100000)
    · by_cases h4 : l.length ≤ 4
      · rw [wrap_i64 (by omega) (by omega)]
      · simp only [decide_eq_false h4, Bool.false_and]
    · simp only [decide_eq_false hb, Bool.false_and]
  by_cases k4 : kind = 4
  · subst k4
    have hz : ∀ sv g, (sv && (sameB (4, frm, to, term, index, iterm, commit, yes, l, data) (4, frm, to, bif sv then term else 0, index, 0, 0, yes, [], ⟨#[]⟩) && g)) = (sv && (sameB (4, frm, to, term, index, iterm, commit, yes, l, data) (4, frm, to, term, index, 0, 0, yes, [], ⟨#[]⟩) && g)) := fun sv g => by cases sv <;> rfl
    unfold spec_MsgOk.c0 z0
    dsimp only
    simp only [Int.reduceEq, Int.reduceLE, decide_true, decide_false, cond_true, cond_false, based_eq, Go.Proofs.Ytienopaegdoenaa.Rx.l1, Option.bind_some, if_true, if_false, true_or, or_true, or_false, false_or, and_true, true_and, and_self, false_and, and_false, hrop, hra, Option.map_some, Option.getD_some]
    generalize hsv : (sF && (sT && ne)) = sv
    have step := gd (β := Bool) (F := gF (4, frm, to, term, index, iterm, commit, yes, l, data) (4, frm, to, bif sv then term else 0, index, 0, 0, yes, [], ⟨#[]⟩)) (b := sv) (fun _ => gd (b := decide (1 ≤ term) && decide (term ≤ 100000)) (g := decide (0 ≤ index) && decide (index ≤ 100000)) (fun h => rfl))
    refine Eq.trans (congrArg (fun x => Option.bind x _) step) ?_
    simp only [Option.bind_some, hc1]
    rw [ac3, hz]
  by_cases k5 : kind = 5
  · subst k5
    have hz : ∀ sv g, (sv && (sameB (5, frm, to, term, index, iterm, commit, yes, l, data) (5, frm, to, bif sv then term else 0, index, iterm, 0, false, [], data) && g)) = (sv && (sameB (5, frm, to, term, index, iterm, commit, yes, l, data) (5, frm, to, term, index, iterm, 0, false, [], data) && g)) := fun sv g => by cases sv <;> rfl
    unfold spec_MsgOk.c0 z0
    dsimp only
    simp only [Int.reduceEq, Int.reduceLE, decide_true, decide_false, cond_true, cond_false, based_eq, Go.Proofs.Ytienopaegdoenaa.Rx.l1, Option.bind_some, if_true, if_false, true_or, or_true, or_false, false_or, and_true, true_and, and_self, false_and, and_false, hrop, hra, Option.map_some, Option.getD_some]
    generalize hsv : (sF && (sT && ne)) = sv
    have step := gd (β := Bool) (F := gF (5, frm, to, term, index, iterm, commit, yes, l, data) (5, frm, to, bif sv then term else 0, index, iterm, 0, false, [], data)) (b := sv) (fun _ => gd (b := decide (1 ≤ term) && decide (term ≤ 100000)) (fun h => gd (b := decide (1 ≤ index) && decide (index ≤ 100000)) (fun h => gd (b := decide (1 ≤ iterm) && decide (iterm ≤ term)) (g := decide ((data.size : Int) ≤ 8000)) (fun h => rfl))))
    refine Eq.trans (congrArg (fun x => Option.bind x _) step) ?_
    simp only [Option.bind_some, hc1]
    rw [ac3, hz]
  by_cases k6 : kind = 6
  · subst k6
    have hz : ∀ g, ((cF && sT) && (sameB (6, frm, to, term, index, iterm, commit, yes, l, data) (6, frm, to, bif (sF && (sT && ne)) then term else 0, index, 0, 0, false, [], data) && g)) = ((cF && sT) && (sameB (6, frm, to, term, index, iterm, commit, yes, l, data) (6, frm, to, 0, index, 0, 0, false, [], data) && g)) := fun g => by
      cases sF <;> cases sT <;> cases cF <;> cases cT <;> first | rfl | exact absurd dF (by decide) | exact absurd dT (by decide)
    unfold spec_MsgOk.c0 z0
    dsimp only
    simp only [Int.reduceEq, Int.reduceLE, decide_true, decide_false, cond_true, cond_false, based_eq, Go.Proofs.Ytienopaegdoenaa.Rx.l1, Option.bind_some, if_true, if_false, true_or, or_true, or_false, false_or, and_true, true_and, and_self, false_and, and_false, hrop, hra, Option.map_some, Option.getD_some]
    have step := gd (β := Bool) (F := gF (6, frm, to, term, index, iterm, commit, yes, l, data) (6, frm, to, bif (sF && (sT && ne)) then term else 0, index, 0, 0, false, [], data)) (b := cF && sT) (fun _ => gd (b := decide (1 ≤ index) && decide (index ≤ 1000000)) (g := (V.rop k data).2) (fun h => rfl))
    refine Eq.trans (congrArg (fun x => Option.bind x _) step) ?_
    simp only [Option.bind_some, hc1]
    rw [ac3, hz]
  by_cases k7 : kind = 7
  · subst k7
    have hz : ∀ g, ((sF && cT) && (sameB (7, frm, to, term, index, iterm, commit, yes, l, data) (7, frm, to, bif (sF && (sT && ne)) then term else 0, index, 0, 0, false, [], data) && g)) = ((sF && cT) && (sameB (7, frm, to, term, index, iterm, commit, yes, l, data) (7, frm, to, 0, index, 0, 0, false, [], data) && g)) := fun g => by
      cases sF <;> cases sT <;> cases cF <;> cases cT <;> first | rfl | exact absurd dF (by decide) | exact absurd dT (by decide)
    unfold spec_MsgOk.c0 z0
    dsimp only
    simp only [Int.reduceEq, Int.reduceLE, decide_true, decide_false, cond_true, cond_false, based_eq, Go.Proofs.Ytienopaegdoenaa.Rx.l1, Option.bind_some, if_true, if_false, true_or, or_true, or_false, false_or, and_true, true_and, and_self, false_and, and_false, hrop, hra, Option.map_some, Option.getD_some]
    have step := gd (β := Bool) (F := gF (7, frm, to, term, index, iterm, commit, yes, l, data) (7, frm, to, bif (sF && (sT && ne)) then term else 0, index, 0, 0, false, [], data)) (b := sF && cT) (fun _ => gd (b := decide (1 ≤ index) && decide (index ≤ 1000000)) (g := ra.2) (fun h => rfl))
    refine Eq.trans (congrArg (fun x => Option.bind x _) step) ?_
    simp only [Option.bind_some, hc1]
    rw [ac3, hz]
  by_cases k8 : kind = 8
  · subst k8
    have hz : ∀ g, ((cF && sT) && (sameB (8, frm, to, term, index, iterm, commit, yes, l, data) (8, frm, to, bif (sF && (sT && ne)) then term else 0, index, 0, commit, false, [], ⟨#[]⟩) && g)) = ((cF && sT) && (sameB (8, frm, to, term, index, iterm, commit, yes, l, data) (8, frm, to, 0, index, 0, commit, false, [], ⟨#[]⟩) && g)) := fun g => by
      cases sF <;> cases sT <;> cases cF <;> cases cT <;> first | rfl | exact absurd dF (by decide) | exact absurd dT (by decide)
    unfold spec_MsgOk.c0 z0
    dsimp only
    simp only [Int.reduceEq, Int.reduceLE, decide_true, decide_false, cond_true, cond_false, based_eq, Go.Proofs.Ytienopaegdoenaa.Rx.l1, Option.bind_some, if_true, if_false, true_or, or_true, or_false, false_or, and_true, true_and, and_self, false_and, and_false, hrop, hra, Option.map_some, Option.getD_some]
    have step := gd (β := Bool) (F := gF (8, frm, to, term, index, iterm, commit, yes, l, data) (8, frm, to, bif (sF && (sT && ne)) then term else 0, index, 0, commit, false, [], ⟨#[]⟩)) (b := cF && sT) (fun _ => gd (b := decide (1 ≤ index) && decide (index ≤ 6)) (g := decide (0 ≤ commit) && decide (commit ≤ 250)) (fun h => rfl))
    refine Eq.trans (congrArg (fun x => Option.bind x _) step) ?_
    simp only [Option.bind_some, hc1]
    rw [ac3, hz]
  by_cases k9 : kind = 9
  · subst k9
    cases yes
    · have hz : ∀ g, ((sF && cT) && (sameB (9, frm, to, term, index, iterm, commit, false, l, data) (9, frm, to, bif (sF && (sT && ne)) then term else 0, index, 0, commit, false, [], data) && g)) = ((sF && cT) && (sameB (9, frm, to, term, index, iterm, commit, false, l, data) (9, frm, to, 0, index, 0, commit, false, [], data) && g)) := fun g => by
        cases sF <;> cases sT <;> cases cF <;> cases cT <;> first | rfl | exact absurd dF (by decide) | exact absurd dT (by decide)
      unfold spec_MsgOk.c0 z0
      dsimp only
      simp only [Int.reduceEq, Int.reduceLE, decide_true, decide_false, cond_true, cond_false, based_eq, Go.Proofs.Ytienopaegdoenaa.Rx.l1, Option.bind_some, if_true, if_false, true_or, or_true, or_false, false_or, and_true, true_and, and_self, false_and, and_false, hrop, hra, Option.map_some, Option.getD_some]
      have step := gd (β := Bool) (F := gF (9, frm, to, term, index, iterm, commit, false, l, data) (9, frm, to, bif (sF && (sT && ne)) then term else 0, index, 0, commit, false, [], data)) (b := sF && cT) (fun _ => gd (b := decide (1 ≤ index) && decide (index ≤ 6)) (fun h => gd (b := decide (0 ≤ commit) && decide (commit ≤ 250)) (fun h => gd (b := decide ((data.size : Int) ≤ 64)) (g := false || decide (data = ⟨#[]⟩)) (fun h => rfl))))
      refine Eq.trans (congrArg (fun x => Option.bind x _) step) ?_
      simp only [Option.bind_some, hc1]
      rw [ac3, hz]
    · have hz : ∀ g, ((sF && cT) && (sameB (9, frm, to, term, index, iterm, commit, true, l, data) (9, frm, to, bif (sF && (sT && ne)) then term else 0, index, 0, commit, true, [], data) && g)) = ((sF && cT) && (sameB (9, frm, to, term, index, iterm, commit, true, l, data) (9, frm, to, 0, index, 0, commit, true, [], data) && g)) := fun g => by
        cases sF <;> cases sT <;> cases cF <;> cases cT <;> first | rfl | exact absurd dF (by decide) | exact absurd dT (by decide)
      unfold spec_MsgOk.c0 z0
      dsimp only
      simp only [Int.reduceEq, Int.reduceLE, decide_true, decide_false, cond_true, cond_false, based_eq, Go.Proofs.Ytienopaegdoenaa.Rx.l1, Option.bind_some, if_true, if_false, true_or, or_true, or_false, false_or, and_true, true_and, and_self, false_and, and_false, hrop, hra, Option.map_some, Option.getD_some]
      have step := gd (β := Bool) (F := gF (9, frm, to, term, index, iterm, commit, true, l, data) (9, frm, to, bif (sF && (sT && ne)) then term else 0, index, 0, commit, true, [], data)) (b := sF && cT) (fun _ => gd (b := decide (1 ≤ index) && decide (index ≤ 6)) (fun h => gd (b := decide (0 ≤ commit) && decide (commit ≤ 250)) (fun h => gd (b := decide ((data.size : Int) ≤ 64)) (g := true || decide (data = ⟨#[]⟩)) (fun h => rfl))))
      refine Eq.trans (congrArg (fun x => Option.bind x _) step) ?_
      simp only [Option.bind_some, hc1]
      rw [ac3, hz]
  unfold spec_MsgOk.c0 z0
  dsimp only
  simp only [decide_eq_false k1, decide_eq_false k2, decide_eq_false k3, decide_eq_false k4, decide_eq_false k5, decide_eq_false k6, decide_eq_false k7, decide_eq_false k8, decide_eq_false k9, cond_false, Option.bind_some]
  have : ¬ (1 ≤ kind ∧ kind ≤ 5) := by omega
  have h2 : ¬ (kind = 6 ∨ kind = 8) := by omega
  have h3 : ¬ (kind = 7 ∨ kind = 9) := by omega
  rw [if_neg this, if_neg h2, if_neg h3, Bool.false_and]
  have := hc1 (kind, frm, to, (bif (sF && (sT && ne)) then term else 0), index, 0, 0, false, [], ⟨#[]⟩) false
  exact this
end Go.Proofs.Ytienopaegdoenaa.Rx
namespace Go.Proofs.Ytienopaegdoenaa.Rx

theorem addr_kind {m : MsgT} (h : addrB m = true) : 1 ≤ m.1 ∧ m.1 ≤ 9 := by
  unfold addrB at h
  split at h
  · omega
  split at h
  · omega
  split at h
  · omega
  · cases h

theorem implMsg {k : Nat} (hk : 9223372036854775808 ≤ k) (m : MsgT) (hs : msgS m) : impl_MsgOk.f k m = some (msgB k m) := by
  obtain ⟨kind, frm, to, term, index, iterm, commit, yes, l, data⟩ := m
  obtain ⟨s1, s2⟩ := hs
  dsimp only at s1 s2
  obtain ⟨ra, hra0, hra⟩ := V.readAnswer_same hk data s2
  have hrop := V.implOp hk data s2
  unfold impl_MsgOk.f msgB
  simp only [Prod.eta, addr_eq, Option.bind_some]
  refine bif_ff fun haddr => ?_
  have hkind := addr_kind haddr
  dsimp only at hkind
  have hc : kind = 1 ∨ kind = 2 ∨ kind = 3 ∨ kind = 4 ∨ kind = 5 ∨ kind = 6 ∨ kind = 7 ∨ kind = 8 ∨ kind = 9 := by omega
  rcases hc with rfl | rfl | rfl | rfl | rfl | rfl | rfl | rfl | rfl
  · have hn : impl_named.f k (1, frm, to, term, index, iterm, commit, yes, l, data) = some (nameM (1, frm, to, term, index, iterm, commit, yes, l, data)) := rfl
    simp only [hn, Option.bind_some, Prod.eta, implSame hk (1, frm, to, term, index, iterm, commit, yes, l, data) (nameM (1, frm, to, term, index, iterm, commit, yes, l, data)) s1]
    refine bif_ff fun hsame => ?_
    unfold goodB
    dsimp only
    rw [hra0]
    simp only [Int.reduceEq, Int.reduceLE, decide_true, decide_false, cond_true, cond_false, within_eq, isBase_eq, based_eq, verI, Option.bind_some, if_true, if_false, true_or, or_true, or_false, false_or, and_true, true_and, and_self, false_and, and_false, hrop, hra, Option.map_some, Option.getD_some]
    cases decide ((index = 0 ∧ iterm = 0) ∨ (1 ≤ index ∧ index ≤ 100000 ∧ 1 ≤ iterm ∧ iterm ≤ 100000)) <;> cases (decide (1 ≤ term) && decide (term ≤ 100000)) <;> rfl
  · have hn : impl_named.f k (2, frm, to, term, index, iterm, commit, yes, l, data) = some (nameM (2, frm, to, term, index, iterm, commit, yes, l, data)) := rfl
    simp only [hn, Option.bind_some, Prod.eta, implSame hk (2, frm, to, term, index, iterm, commit, yes, l, data) (nameM (2, frm, to, term, index, iterm, commit, yes, l, data)) s1]
    refine bif_ff fun hsame => ?_
    unfold goodB
    dsimp only
    rw [hra0]
    simp only [Int.reduceEq, Int.reduceLE, decide_true, decide_false, cond_true, cond_false, within_eq, isBase_eq, based_eq, verI, Option.bind_some, if_true, if_false, true_or, or_true, or_false, false_or, and_true, true_and, and_self, false_and, and_false, hrop, hra, Option.map_some, Option.getD_some]
    cases decide ((index = 0 ∧ iterm = 0) ∨ (1 ≤ index ∧ index ≤ 100000 ∧ 1 ≤ iterm ∧ iterm ≤ 100000)) <;> rfl
  · have hn : impl_named.f k (3, frm, to, term, index, iterm, commit, yes, l, data) = some (nameM (3, frm, to, term, index, iterm, commit, yes, l, data)) := rfl
    simp only [hn, Option.bind_some, Prod.eta, implSame hk (3, frm, to, term, index, iterm, commit, yes, l, data) (nameM (3, frm, to, term, index, iterm, commit, yes, l, data)) s1]
    refine bif_ff fun hsame => ?_
    unfold goodB
    dsimp only
    rw [hra0]
    simp only [Int.reduceEq, Int.reduceLE, decide_true, decide_false, cond_true, cond_false, within_eq, isBase_eq, based_eq, verI, Option.bind_some, if_true, if_false, true_or, or_true, or_false, false_or, and_true, true_and, and_self, false_and, and_false, hrop, hra, Option.map_some, Option.getD_some]
    by_cases hb : (index = 0 ∧ iterm = 0) ∨ (1 ≤ index ∧ index ≤ 100000 ∧ 1 ≤ iterm ∧ iterm ≤ 100000)
    · rw [decide_eq_true hb]
      have hr := implRun hk (3, frm, to, term, index, iterm, commit, yes, l, data) s1 (by show 0 ≤ index; omega) (by show index ≤ 100000; omega)
      simp only [hr, Option.bind_some, cond_true, Bool.true_and]
      cases (decide (1 ≤ term) && decide (term ≤ 100000)) <;> cases decide (iterm ≤ term) <;> cases (decide (0 ≤ commit) && decide (commit ≤ 100000)) <;> first | rfl | skip
      simp only [cond_true, Bool.true_and]
      cases (List.range l.length).all (runP (if iterm > 1 then iterm else 1) term l) <;> cases decide (l.length ≤ 4) <;> rfl
    · rw [decide_eq_false hb]
      cases (decide (1 ≤ term) && decide (term ≤ 100000)) <;> rfl
  · have hn : impl_named.f k (4, frm, to, term, index, iterm, commit, yes, l, data) = some (nameM (4, frm, to, term, index, iterm, commit, yes, l, data)) := rfl
    simp only [hn, Option.bind_some, Prod.eta, implSame hk (4, frm, to, term, index, iterm, commit, yes, l, data) (nameM (4, frm, to, term, index, iterm, commit, yes, l, data)) s1]
    refine bif_ff fun hsame => ?_
    unfold goodB
    dsimp only
    rw [hra0]
    simp only [Int.reduceEq, Int.reduceLE, decide_true, decide_false, cond_true, cond_false, within_eq, isBase_eq, based_eq, verI, Option.bind_some, if_true, if_false, true_or, or_true, or_false, false_or, and_true, true_and, and_self, false_and, and_false, hrop, hra, Option.map_some, Option.getD_some]
    cases decide ((index = 0 ∧ iterm = 0) ∨ (1 ≤ index ∧ index ≤ 100000 ∧ 1 ≤ iterm ∧ iterm ≤ 100000)) <;> cases (decide (1 ≤ term) && decide (term ≤ 100000)) <;> rfl
  · have hn : impl_named.f k (5, frm, to, term, index, iterm, commit, yes, l, data) = some (nameM (5, frm, to, term, index, iterm, commit, yes, l, data)) := rfl
    simp only [hn, Option.bind_some, Prod.eta, implSame hk (5, frm, to, term, index, iterm, commit, yes, l, data) (nameM (5, frm, to, term, index, iterm, commit, yes, l, data)) s1]
    refine bif_ff fun hsame => ?_
    unfold goodB
    dsimp only
    rw [hra0]
    simp only [Int.reduceEq, Int.reduceLE, decide_true, decide_false, cond_true, cond_false, within_eq, isBase_eq, based_eq, verI, Option.bind_some, if_true, if_false, true_or, or_true, or_false, false_or, and_true, true_and, and_self, false_and, and_false, hrop, hra, Option.map_some, Option.getD_some]
    cases decide ((index = 0 ∧ iterm = 0) ∨ (1 ≤ index ∧ index ≤ 100000 ∧ 1 ≤ iterm ∧ iterm ≤ 100000)) <;> cases (decide (1 ≤ term) && decide (term ≤ 100000)) <;> cases (decide (1 ≤ index) && decide (index ≤ 100000)) <;> cases (decide (1 ≤ iterm) && decide (iterm ≤ term)) <;> rfl
  · have hn : impl_named.f k (6, frm, to, term, index, iterm, commit, yes, l, data) = some (nameM (6, frm, to, term, index, iterm, commit, yes, l, data)) := rfl
    simp only [hn, Option.bind_some, Prod.eta, implSame hk (6, frm, to, term, index, iterm, commit, yes, l, data) (nameM (6, frm, to, term, index, iterm, commit, yes, l, data)) s1]
    refine bif_ff fun hsame => ?_
    unfold goodB
    dsimp only
    rw [hra0]
    simp only [Int.reduceEq, Int.reduceLE, decide_true, decide_false, cond_true, cond_false, within_eq, isBase_eq, based_eq, verI, Option.bind_some, if_true, if_false, true_or, or_true, or_false, false_or, and_true, true_and, and_self, false_and, and_false, hrop, hra, Option.map_some, Option.getD_some]
    cases decide ((index = 0 ∧ iterm = 0) ∨ (1 ≤ index ∧ index ≤ 100000 ∧ 1 ≤ iterm ∧ iterm ≤ 100000)) <;> cases (V.rop k data).2 <;> cases (decide (1 ≤ index) && decide (index ≤ 1000000)) <;> rfl
  · have hn : impl_named.f k (7, frm, to, term, index, iterm, commit, yes, l, data) = some (nameM (7, frm, to, term, index, iterm, commit, yes, l, data)) := rfl
    simp only [hn, Option.bind_some, Prod.eta, implSame hk (7, frm, to, term, index, iterm, commit, yes, l, data) (nameM (7, frm, to, term, index, iterm, commit, yes, l, data)) s1]
    refine bif_ff fun hsame => ?_
    unfold goodB
    dsimp only
    rw [hra0]
    simp only [Int.reduceEq, Int.reduceLE, decide_true, decide_false, cond_true, cond_false, within_eq, isBase_eq, based_eq, verI, Option.bind_some, if_true, if_false, true_or, or_true, or_false, false_or, and_true, true_and, and_self, false_and, and_false, hrop, hra, Option.map_some, Option.getD_some]
    cases decide ((index = 0 ∧ iterm = 0) ∨ (1 ≤ index ∧ index ≤ 100000 ∧ 1 ≤ iterm ∧ iterm ≤ 100000)) <;> cases ra.2 <;> cases (decide (1 ≤ index) && decide (index ≤ 1000000)) <;> rfl
  · have hn : impl_named.f k (8, frm, to, term, index, iterm, commit, yes, l, data) = some (nameM (8, frm, to, term, index, iterm, commit, yes, l, data)) := rfl
    simp only [hn, Option.bind_some, Prod.eta, implSame hk (8, frm, to, term, index, iterm, commit, yes, l, data) (nameM (8, frm, to, term, index, iterm, commit, yes, l, data)) s1]
    refine bif_ff fun hsame => ?_
    unfold goodB
    dsimp only
    rw [hra0]
    simp only [Int.reduceEq, Int.reduceLE, decide_true, decide_false, cond_true, cond_false, within_eq, isBase_eq, based_eq, verI, Option.bind_some, if_true, if_false, true_or, or_true, or_false, false_or, and_true, true_and, and_self, false_and, and_false, hrop, hra, Option.map_some, Option.getD_some]
    unfold sameB nameM at hsame
    simp only [Bool.and_eq_true, decide_eq_true_eq] at hsame
    obtain ⟨_, _, _, _, _, _, _, hy, _, hd⟩ := hsame
    have hy' : yes = false := hy
    have hd' : data = ⟨#[]⟩ := hd
    subst hy' hd'
    cases decide ((index = 0 ∧ iterm = 0) ∨ (1 ≤ index ∧ index ≤ 100000 ∧ 1 ≤ iterm ∧ iterm ≤ 100000)) <;> cases (decide (1 ≤ index) && decide (index ≤ 6)) <;> cases (decide (0 ≤ commit) && decide (commit ≤ 250)) <;> rfl
  · have hn : impl_named.f k (9, frm, to, term, index, iterm, commit, yes, l, data) = some (nameM (9, frm, to, term, index, iterm, commit, yes, l, data)) := rfl
    simp only [hn, Option.bind_some, Prod.eta, implSame hk (9, frm, to, term, index, iterm, commit, yes, l, data) (nameM (9, frm, to, term, index, iterm, commit, yes, l, data)) s1]
    refine bif_ff fun hsame => ?_
    unfold goodB
    dsimp only
    rw [hra0]
    simp only [Int.reduceEq, Int.reduceLE, decide_true, decide_false, cond_true, cond_false, within_eq, isBase_eq, based_eq, verI, Option.bind_some, if_true, if_false, true_or, or_true, or_false, false_or, and_true, true_and, and_self, false_and, and_false, hrop, hra, Option.map_some, Option.getD_some]
    cases decide ((index = 0 ∧ iterm = 0) ∨ (1 ≤ index ∧ index ≤ 100000 ∧ 1 ≤ iterm ∧ iterm ≤ 100000)) <;> cases (decide (1 ≤ index) && decide (index ≤ 6)) <;> cases (decide (0 ≤ commit) && decide (commit ≤ 250)) <;> cases decide ((data.size : Int) ≤ 64) <;> cases yes <;> rfl

theorem law_MsgOk (m : MsgT) (hw : WfT (.pair (.int .i64) (.pair (.int .i64) (.pair (.int .i64) (.pair (.int .i64) (.pair (.int .i64) (.pair (.int .i64) (.pair (.int .i64) (.pair .bool (.pair (.sl 153 (.pair (.int .i64) .str)) .str))))))))) m) : ∃ k, laws_FnExactMsgOk.f k m = some true := by
  refine ⟨9223372036854775808, ?_⟩
  have hk : 9223372036854775808 ≤ 9223372036854775808 := Nat.le_refl _
  obtain ⟨v, hv, hv2⟩ := szMsg_sz hk m hw.2.2.2.2.2.2.2.2.1.1 ((fun x hx => (hw.2.2.2.2.2.2.2.2.1.2 x hx).2)) hw.2.2.2.2.2.2.2.2.2 1048576 (by omega) (by omega)
  unfold laws_FnExactMsgOk.f
  simp only [Prod.eta, hv, Option.bind_some]
  rcases hv2 with rfl | ⟨h0, h1⟩
  · rfl
  have hs : msgS m := ⟨by omega, by omega⟩
  rw [neg_f h0, cond_false]
  simp only [toMsg_eq hk m (by omega), specMsg hk m hs, implMsg hk m hs, Option.bind_some, Prod.eta, eqMsg_self hk m (by omega), decide_true, Bool.not_true, cond_false]
end Go.Proofs.Ytienopaegdoenaa.Rx
