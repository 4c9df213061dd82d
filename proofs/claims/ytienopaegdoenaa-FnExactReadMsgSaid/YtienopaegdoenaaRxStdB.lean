/- What the laws' own functions do with a message. No condition beside those that each theorem states. -/
import Derived.Test.YtienopaegdoenaaRxStdA
import Derived.Test.YtienopaegdoenaaRxFnsB
set_option linter.unusedVariables false
set_option linter.unusedSimpArgs false
namespace Go.Proofs.Ytienopaegdoenaa.Rx
theorem szMsg_sz {k : Nat} (hk : 9223372036854775808 ≤ k) (a : Int × Int × Int × Int × Int × Int × Int × Bool × List (Int × ByteArray) × ByteArray) (wa : a.2.2.2.2.2.2.2.2.1.length ≤ 9223372036854775807) (wb : ∀ x ∈ a.2.2.2.2.2.2.2.2.1, x.2.size ≤ 9223372036854775807) (wc : a.2.2.2.2.2.2.2.2.2.size ≤ 9223372036854775807) (l : Int) (h0 : 0 ≤ l) (h1 : l ≤ 1048576) : Sz (laws_szMsg.f k a l) l (a.2.2.2.2.2.2.2.2.1.length + (a.2.2.2.2.2.2.2.2.1.map fun x => x.2.size).sum + a.2.2.2.2.2.2.2.2.2.size) := by
  unfold laws_szMsg.f
  exact (Sz.bind (szEntryS_sz hk a.2.2.2.2.2.2.2.2.1 wa wb _ h0 h1) fun v0 p0 q0 => Sz.sub p0 (by omega) wc fun v1 p1 q1 => Sz.ret p1).cast (by omega)

theorem toMsg_eq {k : Nat} (hk : 9223372036854775808 ≤ k) (a : Int × Int × Int × Int × Int × Int × Int × Bool × List (Int × ByteArray) × ByteArray) (ha : a.2.2.2.2.2.2.2.2.1.length ≤ 1048576) : laws_toMsg.f k a = some a := by
  unfold laws_toMsg.f
  simp only [toEntryS_eq hk a.2.2.2.2.2.2.2.2.1 ha, Option.bind_some, Prod.eta]

theorem eqMsg_self {k : Nat} (hk : 9223372036854775808 ≤ k) (a : Int × Int × Int × Int × Int × Int × Int × Bool × List (Int × ByteArray) × ByteArray) (ha : a.2.2.2.2.2.2.2.2.1.length ≤ 9223372036854775807) : laws_eqMsg.f k a a = some true := by
  unfold laws_eqMsg.f
  simp only [eqEntryS_self hk a.2.2.2.2.2.2.2.2.1 ha, decide_true, Bool.not_true, cond_false, Option.bind_some, Prod.eta]

theorem markMsg_held {k : Nat} (hk : 9223372036854775808 ≤ k) (a : Int × Int × Int × Int × Int × Int × Int × Bool × List (Int × ByteArray) × ByteArray) (n : Int) (h0 : 0 ≤ n) (h1 : n ≤ 277235259873951744) (ha : a.2.2.2.2.2.2.2.2.1.length ≤ 1099511627776) :
    ∃ n' l0, laws_markMsg.f k a n = some (n', (a.1, a.2.1, a.2.2.1, a.2.2.2.1, a.2.2.2.2.1, a.2.2.2.2.2.1, a.2.2.2.2.2.2.1, a.2.2.2.2.2.2.2.1, l0, a.2.2.2.2.2.2.2.2.2)) ∧ laws_heldMsg.f k (a.1, a.2.1, a.2.2.1, a.2.2.2.1, a.2.2.2.2.1, a.2.2.2.2.2.1, a.2.2.2.2.2.2.1, a.2.2.2.2.2.2.2.1, l0, a.2.2.2.2.2.2.2.2.2) n = some n' ∧ 0 ≤ n' ∧ n' ≤ n + 109951162777600 := by
  obtain ⟨n0, l0, p0, q0, b0, c0⟩ := markEntryS_held hk a.2.2.2.2.2.2.2.2.1 n h0 (by omega) ha
  have d (x : Int) (hx : 0 ≤ x) : decide (x < 0) = false := by simp; omega
  refine ⟨n0, l0, ?_, ?_, b0, by omega⟩
  · unfold laws_markMsg.f
    simp only [p0, Option.bind_some, Prod.eta]
  · unfold laws_heldMsg.f
    simp only [q0, Option.bind_some, d _ b0, cond_false, Prod.eta]

end Go.Proofs.Ytienopaegdoenaa.Rx
