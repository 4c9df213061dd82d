/-
  No cell of these rows narrows 'for every input' (looked for: loops, veiled, ifaces, maps, wideKeys, modest, calm, conditions, laid).
  DERIVED. THE GIVEN ROWS OF THIS SEAT. 9 by the template 'for every input the law returns true; each argument reads behind the call as it read before'; 0 by the template 'total and deterministic' (their statements: YtkjiojhkjpbokaaTotals.lean).
  GIVEN WITH THE SEED: the statements are not yours to turn. If you find one false, say at which input.
  Laid BY PROGRAM, IN A SANDBOX (cutbox-rows.mjs): the forced cells as the released guide's own fill.sh prints them over the translation ff9f6420aca988c0… (all of the seat's roots in one cut). By AI agents, Wed Nov 11 2026. No macro, syntax, notation, axiom, sorry.
-/
import Derived.Test.YtkjiojhkjpbokaaChecked
import GoSem.Claim
import GoSem.ClaimJoined
import GoSem.ClaimMapViews
import Derived.JoinedTies
import Derived.KernelRfl
namespace Go.Proofs.Ytkjiojhkjpbokaa
/- THE CELL 'sum', in the pinned program and in every row, IS THE sha256 OF THE DUMP (.gsa) THAT YtkjiojhkjpbokaaProg.lean LOADS. Nothing in Lean hashes anything: it is a label: what it is worth is what the hold of that sum in a sandbox is worth. -/
noncomputable def Try.pinned : Pinned := { name := "ytkjiojhkjpbokaa", sum := "ff9f6420aca988c04e121da796f790cbe365042b6f226ce5007794e42a78bc5e", checked := Try.checked }
namespace Rows
def none {H : Type} : Left H := { results := [], args := [] }

/-- 'laws.FnExactAnswerOk': WHATEVER THE INPUT: true; the input reads as it did. -/
def fnExactAnswerOkSpec : ChangeSpec := { name := "fnExactAnswerOk", fn := fun _ => fun
  | [d] => { results := [.lit (.bool true)], args := [d] }
  | _ => none }
def fnExactAnswerOkRow : OpenClaim := { program := "ytkjiojhkjpbokaa", sum := "ff9f6420aca988c04e121da796f790cbe365042b6f226ce5007794e42a78bc5e", func := "loop.example/g00358/laws.FnExactAnswerOk", spec := "fnExactAnswerOk", apart := false }
def FnExactAnswerOkSaid : Prop := fnExactAnswerOkRow.holds Try.pinned (OpenSpec.ofChange fnExactAnswerOkSpec)

/-- ITS FALSE NEIGHBOUR: 'it returns false'. Refute it at one input. -/
def fnExactAnswerOkWrong : ChangeSpec := { name := "fnExactAnswerOk", fn := fun _ => fun
  | [d] => { results := [.lit (.bool false)], args := [d] }
  | _ => none }
def FnExactAnswerOkWrongFalsely : Prop := fnExactAnswerOkRow.holds Try.pinned (OpenSpec.ofChange fnExactAnswerOkWrong)

/-- 'laws.FnExactOpOk': WHATEVER THE INPUT: true; the input reads as it did. -/
def fnExactOpOkSpec : ChangeSpec := { name := "fnExactOpOk", fn := fun _ => fun
  | [d] => { results := [.lit (.bool true)], args := [d] }
  | _ => none }
def fnExactOpOkRow : OpenClaim := { program := "ytkjiojhkjpbokaa", sum := "ff9f6420aca988c04e121da796f790cbe365042b6f226ce5007794e42a78bc5e", func := "loop.example/g00358/laws.FnExactOpOk", spec := "fnExactOpOk", apart := false }
def FnExactOpOkSaid : Prop := fnExactOpOkRow.holds Try.pinned (OpenSpec.ofChange fnExactOpOkSpec)

/-- ITS FALSE NEIGHBOUR: 'it returns false'. Refute it at one input. -/
def fnExactOpOkWrong : ChangeSpec := { name := "fnExactOpOk", fn := fun _ => fun
  | [d] => { results := [.lit (.bool false)], args := [d] }
  | _ => none }
def FnExactOpOkWrongFalsely : Prop := fnExactOpOkRow.holds Try.pinned (OpenSpec.ofChange fnExactOpOkWrong)

/-- 'laws.FnExactShowAnswer': WHATEVER THE INPUT: true; the input reads as it did. -/
def fnExactShowAnswerSpec : ChangeSpec := { name := "fnExactShowAnswer", fn := fun _ => fun
  | [d] => { results := [.lit (.bool true)], args := [d] }
  | _ => none }
def fnExactShowAnswerRow : OpenClaim := { program := "ytkjiojhkjpbokaa", sum := "ff9f6420aca988c04e121da796f790cbe365042b6f226ce5007794e42a78bc5e", func := "loop.example/g00358/laws.FnExactShowAnswer", spec := "fnExactShowAnswer", apart := false }
def FnExactShowAnswerSaid : Prop := fnExactShowAnswerRow.holds Try.pinned (OpenSpec.ofChange fnExactShowAnswerSpec)

/-- ITS FALSE NEIGHBOUR: 'it returns false'. Refute it at one input. -/
def fnExactShowAnswerWrong : ChangeSpec := { name := "fnExactShowAnswer", fn := fun _ => fun
  | [d] => { results := [.lit (.bool false)], args := [d] }
  | _ => none }
def FnExactShowAnswerWrongFalsely : Prop := fnExactShowAnswerRow.holds Try.pinned (OpenSpec.ofChange fnExactShowAnswerWrong)

/-- 'laws.FnExactShowOp': WHATEVER THE INPUT: true; the input reads as it did. -/
def fnExactShowOpSpec : ChangeSpec := { name := "fnExactShowOp", fn := fun _ => fun
  | [d] => { results := [.lit (.bool true)], args := [d] }
  | _ => none }
def fnExactShowOpRow : OpenClaim := { program := "ytkjiojhkjpbokaa", sum := "ff9f6420aca988c04e121da796f790cbe365042b6f226ce5007794e42a78bc5e", func := "loop.example/g00358/laws.FnExactShowOp", spec := "fnExactShowOp", apart := false }
def FnExactShowOpSaid : Prop := fnExactShowOpRow.holds Try.pinned (OpenSpec.ofChange fnExactShowOpSpec)

/-- ITS FALSE NEIGHBOUR: 'it returns false'. Refute it at one input. -/
def fnExactShowOpWrong : ChangeSpec := { name := "fnExactShowOp", fn := fun _ => fun
  | [d] => { results := [.lit (.bool false)], args := [d] }
  | _ => none }
def FnExactShowOpWrongFalsely : Prop := fnExactShowOpRow.holds Try.pinned (OpenSpec.ofChange fnExactShowOpWrong)

/-- 'laws.FnExactShowCmd': WHATEVER THE INPUT: true; the input reads as it did. -/
def fnExactShowCmdSpec : ChangeSpec := { name := "fnExactShowCmd", fn := fun _ => fun
  | [d] => { results := [.lit (.bool true)], args := [d] }
  | _ => none }
def fnExactShowCmdRow : OpenClaim := { program := "ytkjiojhkjpbokaa", sum := "ff9f6420aca988c04e121da796f790cbe365042b6f226ce5007794e42a78bc5e", func := "loop.example/g00358/laws.FnExactShowCmd", spec := "fnExactShowCmd", apart := false }
def FnExactShowCmdSaid : Prop := fnExactShowCmdRow.holds Try.pinned (OpenSpec.ofChange fnExactShowCmdSpec)

/-- ITS FALSE NEIGHBOUR: 'it returns false'. Refute it at one input. -/
def fnExactShowCmdWrong : ChangeSpec := { name := "fnExactShowCmd", fn := fun _ => fun
  | [d] => { results := [.lit (.bool false)], args := [d] }
  | _ => none }
def FnExactShowCmdWrongFalsely : Prop := fnExactShowCmdRow.holds Try.pinned (OpenSpec.ofChange fnExactShowCmdWrong)

/-- 'laws.FnExactReadAnswer': WHATEVER THE INPUT: true; the input reads as it did. -/
def fnExactReadAnswerSpec : ChangeSpec := { name := "fnExactReadAnswer", fn := fun _ => fun
  | [d] => { results := [.lit (.bool true)], args := [d] }
  | _ => none }
def fnExactReadAnswerRow : OpenClaim := { program := "ytkjiojhkjpbokaa", sum := "ff9f6420aca988c04e121da796f790cbe365042b6f226ce5007794e42a78bc5e", func := "loop.example/g00358/laws.FnExactReadAnswer", spec := "fnExactReadAnswer", apart := false }
def FnExactReadAnswerSaid : Prop := fnExactReadAnswerRow.holds Try.pinned (OpenSpec.ofChange fnExactReadAnswerSpec)

/-- ITS FALSE NEIGHBOUR: 'it returns false'. Refute it at one input. -/
def fnExactReadAnswerWrong : ChangeSpec := { name := "fnExactReadAnswer", fn := fun _ => fun
  | [d] => { results := [.lit (.bool false)], args := [d] }
  | _ => none }
def FnExactReadAnswerWrongFalsely : Prop := fnExactReadAnswerRow.holds Try.pinned (OpenSpec.ofChange fnExactReadAnswerWrong)

/-- 'laws.FnExactReadOp': WHATEVER THE INPUT: true; the input reads as it did. -/
def fnExactReadOpSpec : ChangeSpec := { name := "fnExactReadOp", fn := fun _ => fun
  | [d] => { results := [.lit (.bool true)], args := [d] }
  | _ => none }
def fnExactReadOpRow : OpenClaim := { program := "ytkjiojhkjpbokaa", sum := "ff9f6420aca988c04e121da796f790cbe365042b6f226ce5007794e42a78bc5e", func := "loop.example/g00358/laws.FnExactReadOp", spec := "fnExactReadOp", apart := false }
def FnExactReadOpSaid : Prop := fnExactReadOpRow.holds Try.pinned (OpenSpec.ofChange fnExactReadOpSpec)

/-- ITS FALSE NEIGHBOUR: 'it returns false'. Refute it at one input. -/
def fnExactReadOpWrong : ChangeSpec := { name := "fnExactReadOp", fn := fun _ => fun
  | [d] => { results := [.lit (.bool false)], args := [d] }
  | _ => none }
def FnExactReadOpWrongFalsely : Prop := fnExactReadOpRow.holds Try.pinned (OpenSpec.ofChange fnExactReadOpWrong)

/-- 'laws.FnExactReadCmd': WHATEVER THE INPUT: true; the input reads as it did. -/
def fnExactReadCmdSpec : ChangeSpec := { name := "fnExactReadCmd", fn := fun _ => fun
  | [d] => { results := [.lit (.bool true)], args := [d] }
  | _ => none }
def fnExactReadCmdRow : OpenClaim := { program := "ytkjiojhkjpbokaa", sum := "ff9f6420aca988c04e121da796f790cbe365042b6f226ce5007794e42a78bc5e", func := "loop.example/g00358/laws.FnExactReadCmd", spec := "fnExactReadCmd", apart := false }
def FnExactReadCmdSaid : Prop := fnExactReadCmdRow.holds Try.pinned (OpenSpec.ofChange fnExactReadCmdSpec)

/-- ITS FALSE NEIGHBOUR: 'it returns false'. Refute it at one input. -/
def fnExactReadCmdWrong : ChangeSpec := { name := "fnExactReadCmd", fn := fun _ => fun
  | [d] => { results := [.lit (.bool false)], args := [d] }
  | _ => none }
def FnExactReadCmdWrongFalsely : Prop := fnExactReadCmdRow.holds Try.pinned (OpenSpec.ofChange fnExactReadCmdWrong)

/-- 'laws.FnExactNewReg': WHATEVER THE INPUT: true; the input reads as it did. -/
def fnExactNewRegSpec : ChangeSpec := { name := "fnExactNewReg", fn := fun _ => fun
  | [] => { results := [.lit (.bool true)], args := [] }
  | _ => none }
def fnExactNewRegRow : OpenClaim := { program := "ytkjiojhkjpbokaa", sum := "ff9f6420aca988c04e121da796f790cbe365042b6f226ce5007794e42a78bc5e", func := "loop.example/g00358/laws.FnExactNewReg", spec := "fnExactNewReg", apart := false }
def FnExactNewRegSaid : Prop := fnExactNewRegRow.holds Try.pinned (OpenSpec.ofChange fnExactNewRegSpec)

/-- ITS FALSE NEIGHBOUR: 'it returns false'. Refute it at one input. -/
def fnExactNewRegWrong : ChangeSpec := { name := "fnExactNewReg", fn := fun _ => fun
  | [] => { results := [.lit (.bool false)], args := [] }
  | _ => none }
def FnExactNewRegWrongFalsely : Prop := fnExactNewRegRow.holds Try.pinned (OpenSpec.ofChange fnExactNewRegWrong)

/- THE SECOND FORM. 'bulk': how many values and letters a reading holds, each counted each time it is reached (what is shared counts as often as it is met; a slice's spare places count too). A statement '..UptoSaid' is the law's where the arguments, and the package variables that the reading takes, are together of bulk at most 1048576: NARROWER than '..Said'. Prove '..Said' where nothing that the law and all that it calls make is longer than what came in: it says more and counts as full. Else prove '..UptoSaid'. A law counts once. -/
mutual
def uptoBulk {H : Type} : DataW H → Nat
  | .lit (.string bytes) => bytes.length + 1
  | .lit _ => 1
  | .nil => 1
  | .ptr d => uptoBulk d + 1
  | .slice elems spare => uptoBulkAll elems + uptoBulkAll spare + 1
  | .agg parts => uptoBulkAll parts + 1
  | .iface _ d => uptoBulk d + 1
  | .map entries => uptoBulkEntries entries + 1
  | .held _ => 1
def uptoBulkAll {H : Type} : List (DataW H) → Nat
  | [] => 0
  | d :: r => uptoBulk d + uptoBulkAll r
def uptoBulkEntries {H : Type} : List (Lit × DataW H) → Nat
  | [] => 0
  | x :: r => uptoBulkEntry x + uptoBulkEntries r
def uptoBulkEntry {H : Type} : Lit × DataW H → Nat
  | (.string bytes, d) => bytes.length + uptoBulk d + 1
  | (_, d) => uptoBulk d + 1
 end
def uptoSmall : (H : Type) → List (DataW H) → Bool := fun _ ds => decide (uptoBulkAll ds ≤ 1048576)
def OpenSpec.upto (s : _root_.Go.ChangeSpec) : _root_.Go.OpenSpec := { _root_.Go.OpenSpec.ofChange s with cond := some uptoSmall }

/-- 'laws.FnExactAnswerOk', WHERE WHAT IT READS IS OF BULK AT MOST 1048576: true; the input reads as it did. -/
def fnExactAnswerOkUptoRow : OpenClaim := { program := "ytkjiojhkjpbokaa", sum := "ff9f6420aca988c04e121da796f790cbe365042b6f226ce5007794e42a78bc5e", func := "loop.example/g00358/laws.FnExactAnswerOk", spec := "fnExactAnswerOk", apart := false, narrowed := true }
def FnExactAnswerOkUptoSaid : Prop := fnExactAnswerOkUptoRow.holds Try.pinned (OpenSpec.upto fnExactAnswerOkSpec)

/-- 'laws.FnExactOpOk', WHERE WHAT IT READS IS OF BULK AT MOST 1048576: true; the input reads as it did. -/
def fnExactOpOkUptoRow : OpenClaim := { program := "ytkjiojhkjpbokaa", sum := "ff9f6420aca988c04e121da796f790cbe365042b6f226ce5007794e42a78bc5e", func := "loop.example/g00358/laws.FnExactOpOk", spec := "fnExactOpOk", apart := false, narrowed := true }
def FnExactOpOkUptoSaid : Prop := fnExactOpOkUptoRow.holds Try.pinned (OpenSpec.upto fnExactOpOkSpec)

/-- 'laws.FnExactShowAnswer', WHERE WHAT IT READS IS OF BULK AT MOST 1048576: true; the input reads as it did. -/
def fnExactShowAnswerUptoRow : OpenClaim := { program := "ytkjiojhkjpbokaa", sum := "ff9f6420aca988c04e121da796f790cbe365042b6f226ce5007794e42a78bc5e", func := "loop.example/g00358/laws.FnExactShowAnswer", spec := "fnExactShowAnswer", apart := false, narrowed := true }
def FnExactShowAnswerUptoSaid : Prop := fnExactShowAnswerUptoRow.holds Try.pinned (OpenSpec.upto fnExactShowAnswerSpec)

/-- 'laws.FnExactShowOp', WHERE WHAT IT READS IS OF BULK AT MOST 1048576: true; the input reads as it did. -/
def fnExactShowOpUptoRow : OpenClaim := { program := "ytkjiojhkjpbokaa", sum := "ff9f6420aca988c04e121da796f790cbe365042b6f226ce5007794e42a78bc5e", func := "loop.example/g00358/laws.FnExactShowOp", spec := "fnExactShowOp", apart := false, narrowed := true }
def FnExactShowOpUptoSaid : Prop := fnExactShowOpUptoRow.holds Try.pinned (OpenSpec.upto fnExactShowOpSpec)

/-- 'laws.FnExactShowCmd', WHERE WHAT IT READS IS OF BULK AT MOST 1048576: true; the input reads as it did. -/
def fnExactShowCmdUptoRow : OpenClaim := { program := "ytkjiojhkjpbokaa", sum := "ff9f6420aca988c04e121da796f790cbe365042b6f226ce5007794e42a78bc5e", func := "loop.example/g00358/laws.FnExactShowCmd", spec := "fnExactShowCmd", apart := false, narrowed := true }
def FnExactShowCmdUptoSaid : Prop := fnExactShowCmdUptoRow.holds Try.pinned (OpenSpec.upto fnExactShowCmdSpec)

/-- 'laws.FnExactReadAnswer', WHERE WHAT IT READS IS OF BULK AT MOST 1048576: true; the input reads as it did. -/
def fnExactReadAnswerUptoRow : OpenClaim := { program := "ytkjiojhkjpbokaa", sum := "ff9f6420aca988c04e121da796f790cbe365042b6f226ce5007794e42a78bc5e", func := "loop.example/g00358/laws.FnExactReadAnswer", spec := "fnExactReadAnswer", apart := false, narrowed := true }
def FnExactReadAnswerUptoSaid : Prop := fnExactReadAnswerUptoRow.holds Try.pinned (OpenSpec.upto fnExactReadAnswerSpec)

/-- 'laws.FnExactReadOp', WHERE WHAT IT READS IS OF BULK AT MOST 1048576: true; the input reads as it did. -/
def fnExactReadOpUptoRow : OpenClaim := { program := "ytkjiojhkjpbokaa", sum := "ff9f6420aca988c04e121da796f790cbe365042b6f226ce5007794e42a78bc5e", func := "loop.example/g00358/laws.FnExactReadOp", spec := "fnExactReadOp", apart := false, narrowed := true }
def FnExactReadOpUptoSaid : Prop := fnExactReadOpUptoRow.holds Try.pinned (OpenSpec.upto fnExactReadOpSpec)

/-- 'laws.FnExactReadCmd', WHERE WHAT IT READS IS OF BULK AT MOST 1048576: true; the input reads as it did. -/
def fnExactReadCmdUptoRow : OpenClaim := { program := "ytkjiojhkjpbokaa", sum := "ff9f6420aca988c04e121da796f790cbe365042b6f226ce5007794e42a78bc5e", func := "loop.example/g00358/laws.FnExactReadCmd", spec := "fnExactReadCmd", apart := false, narrowed := true }
def FnExactReadCmdUptoSaid : Prop := fnExactReadCmdUptoRow.holds Try.pinned (OpenSpec.upto fnExactReadCmdSpec)

/-- 'laws.FnExactNewReg', WHERE WHAT IT READS IS OF BULK AT MOST 1048576: true; the input reads as it did. -/
def fnExactNewRegUptoRow : OpenClaim := { program := "ytkjiojhkjpbokaa", sum := "ff9f6420aca988c04e121da796f790cbe365042b6f226ce5007794e42a78bc5e", func := "loop.example/g00358/laws.FnExactNewReg", spec := "fnExactNewReg", apart := false, narrowed := true }
def FnExactNewRegUptoSaid : Prop := fnExactNewRegUptoRow.holds Try.pinned (OpenSpec.upto fnExactNewRegSpec)

end Rows
end Go.Proofs.Ytkjiojhkjpbokaa
