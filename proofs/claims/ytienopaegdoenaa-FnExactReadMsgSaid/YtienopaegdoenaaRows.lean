/-
  No cell of these rows narrows 'for every input' (looked for: loops, veiled, ifaces, maps, wideKeys, modest, calm, conditions, laid).
  DERIVED. THE GIVEN ROWS OF THIS SEAT. 9 by the template 'for every input the law returns true; each argument reads behind the call as it read before'; 0 by the template 'total and deterministic' (their statements: YtienopaegdoenaaTotals.lean).
  GIVEN WITH THE SEED: the statements are not yours to turn. If you find one false, say at which input.
  Laid BY PROGRAM, IN A SANDBOX (cutbox-rows.mjs): the forced cells as the released guide's own fill.sh prints them over the translation f6f60c62ad916a25… (all of the seat's roots in one cut). By AI agents, Wed Nov 11 2026. No macro, syntax, notation, axiom, sorry.
-/
import Derived.Test.YtienopaegdoenaaChecked
import GoSem.Claim
import GoSem.ClaimJoined
import GoSem.ClaimMapViews
import Derived.JoinedTies
import Derived.KernelRfl
namespace Go.Proofs.Ytienopaegdoenaa
/- THE CELL 'sum', in the pinned program and in every row, IS THE sha256 OF THE DUMP (.gsa) THAT YtienopaegdoenaaProg.lean LOADS. Nothing in Lean hashes anything: it is a label: what it is worth is what the hold of that sum in a sandbox is worth. -/
noncomputable def Try.pinned : Pinned := { name := "ytienopaegdoenaa", sum := "f6f60c62ad916a2596afd6396630de3490669ca7149330f19a0497457594a464", checked := Try.checked }
namespace Rows
def none {H : Type} : Left H := { results := [], args := [] }

/-- 'laws.FnExactCoreOk': WHATEVER THE INPUT: true; the input reads as it did. -/
def fnExactCoreOkSpec : ChangeSpec := { name := "fnExactCoreOk", fn := fun _ => fun
  | [d] => { results := [.lit (.bool true)], args := [d] }
  | _ => none }
def fnExactCoreOkRow : OpenClaim := { program := "ytienopaegdoenaa", sum := "f6f60c62ad916a2596afd6396630de3490669ca7149330f19a0497457594a464", func := "loop.example/g00358/laws.FnExactCoreOk", spec := "fnExactCoreOk", apart := false }
def FnExactCoreOkSaid : Prop := fnExactCoreOkRow.holds Try.pinned (OpenSpec.ofChange fnExactCoreOkSpec)

/-- ITS FALSE NEIGHBOUR: 'it returns false'. Refute it at one input. -/
def fnExactCoreOkWrong : ChangeSpec := { name := "fnExactCoreOk", fn := fun _ => fun
  | [d] => { results := [.lit (.bool false)], args := [d] }
  | _ => none }
def FnExactCoreOkWrongFalsely : Prop := fnExactCoreOkRow.holds Try.pinned (OpenSpec.ofChange fnExactCoreOkWrong)

/-- 'laws.FnExactCoreOf': WHATEVER THE INPUT: true; the input reads as it did. -/
def fnExactCoreOfSpec : ChangeSpec := { name := "fnExactCoreOf", fn := fun _ => fun
  | [d1, d2, d3] => { results := [.lit (.bool true)], args := [d1, d2, d3] }
  | _ => none }
def fnExactCoreOfRow : OpenClaim := { program := "ytienopaegdoenaa", sum := "f6f60c62ad916a2596afd6396630de3490669ca7149330f19a0497457594a464", func := "loop.example/g00358/laws.FnExactCoreOf", spec := "fnExactCoreOf", apart := false }
def FnExactCoreOfSaid : Prop := fnExactCoreOfRow.holds Try.pinned (OpenSpec.ofChange fnExactCoreOfSpec)

/-- ITS FALSE NEIGHBOUR: 'it returns false'. Refute it at one input. -/
def fnExactCoreOfWrong : ChangeSpec := { name := "fnExactCoreOf", fn := fun _ => fun
  | [d1, d2, d3] => { results := [.lit (.bool false)], args := [d1, d2, d3] }
  | _ => none }
def FnExactCoreOfWrongFalsely : Prop := fnExactCoreOfRow.holds Try.pinned (OpenSpec.ofChange fnExactCoreOfWrong)

/-- 'laws.FnExactCoreWal': WHATEVER THE INPUT: true; the input reads as it did. -/
def fnExactCoreWalSpec : ChangeSpec := { name := "fnExactCoreWal", fn := fun _ => fun
  | [d] => { results := [.lit (.bool true)], args := [d] }
  | _ => none }
def fnExactCoreWalRow : OpenClaim := { program := "ytienopaegdoenaa", sum := "f6f60c62ad916a2596afd6396630de3490669ca7149330f19a0497457594a464", func := "loop.example/g00358/laws.FnExactCoreWal", spec := "fnExactCoreWal", apart := false }
def FnExactCoreWalSaid : Prop := fnExactCoreWalRow.holds Try.pinned (OpenSpec.ofChange fnExactCoreWalSpec)

/-- ITS FALSE NEIGHBOUR: 'it returns false'. Refute it at one input. -/
def fnExactCoreWalWrong : ChangeSpec := { name := "fnExactCoreWal", fn := fun _ => fun
  | [d] => { results := [.lit (.bool false)], args := [d] }
  | _ => none }
def FnExactCoreWalWrongFalsely : Prop := fnExactCoreWalRow.holds Try.pinned (OpenSpec.ofChange fnExactCoreWalWrong)

/-- 'laws.FnExactCompact': WHATEVER THE INPUT: true; the input reads as it did. -/
def fnExactCompactSpec : ChangeSpec := { name := "fnExactCompact", fn := fun _ => fun
  | [d1, d2] => { results := [.lit (.bool true)], args := [d1, d2] }
  | _ => none }
def fnExactCompactRow : OpenClaim := { program := "ytienopaegdoenaa", sum := "f6f60c62ad916a2596afd6396630de3490669ca7149330f19a0497457594a464", func := "loop.example/g00358/laws.FnExactCompact", spec := "fnExactCompact", apart := false }
def FnExactCompactSaid : Prop := fnExactCompactRow.holds Try.pinned (OpenSpec.ofChange fnExactCompactSpec)

/-- ITS FALSE NEIGHBOUR: 'it returns false'. Refute it at one input. -/
def fnExactCompactWrong : ChangeSpec := { name := "fnExactCompact", fn := fun _ => fun
  | [d1, d2] => { results := [.lit (.bool false)], args := [d1, d2] }
  | _ => none }
def FnExactCompactWrongFalsely : Prop := fnExactCompactRow.holds Try.pinned (OpenSpec.ofChange fnExactCompactWrong)

/-- 'laws.FnExactMsgOk': WHATEVER THE INPUT: true; the input reads as it did. -/
def fnExactMsgOkSpec : ChangeSpec := { name := "fnExactMsgOk", fn := fun _ => fun
  | [d] => { results := [.lit (.bool true)], args := [d] }
  | _ => none }
def fnExactMsgOkRow : OpenClaim := { program := "ytienopaegdoenaa", sum := "f6f60c62ad916a2596afd6396630de3490669ca7149330f19a0497457594a464", func := "loop.example/g00358/laws.FnExactMsgOk", spec := "fnExactMsgOk", apart := false }
def FnExactMsgOkSaid : Prop := fnExactMsgOkRow.holds Try.pinned (OpenSpec.ofChange fnExactMsgOkSpec)

/-- ITS FALSE NEIGHBOUR: 'it returns false'. Refute it at one input. -/
def fnExactMsgOkWrong : ChangeSpec := { name := "fnExactMsgOk", fn := fun _ => fun
  | [d] => { results := [.lit (.bool false)], args := [d] }
  | _ => none }
def FnExactMsgOkWrongFalsely : Prop := fnExactMsgOkRow.holds Try.pinned (OpenSpec.ofChange fnExactMsgOkWrong)

/-- 'laws.FnExactShowMsg': WHATEVER THE INPUT: true; the input reads as it did. -/
def fnExactShowMsgSpec : ChangeSpec := { name := "fnExactShowMsg", fn := fun _ => fun
  | [d] => { results := [.lit (.bool true)], args := [d] }
  | _ => none }
def fnExactShowMsgRow : OpenClaim := { program := "ytienopaegdoenaa", sum := "f6f60c62ad916a2596afd6396630de3490669ca7149330f19a0497457594a464", func := "loop.example/g00358/laws.FnExactShowMsg", spec := "fnExactShowMsg", apart := false }
def FnExactShowMsgSaid : Prop := fnExactShowMsgRow.holds Try.pinned (OpenSpec.ofChange fnExactShowMsgSpec)

/-- ITS FALSE NEIGHBOUR: 'it returns false'. Refute it at one input. -/
def fnExactShowMsgWrong : ChangeSpec := { name := "fnExactShowMsg", fn := fun _ => fun
  | [d] => { results := [.lit (.bool false)], args := [d] }
  | _ => none }
def FnExactShowMsgWrongFalsely : Prop := fnExactShowMsgRow.holds Try.pinned (OpenSpec.ofChange fnExactShowMsgWrong)

/-- 'laws.FnExactReadMsg': WHATEVER THE INPUT: true; the input reads as it did. -/
def fnExactReadMsgSpec : ChangeSpec := { name := "fnExactReadMsg", fn := fun _ => fun
  | [d] => { results := [.lit (.bool true)], args := [d] }
  | _ => none }
def fnExactReadMsgRow : OpenClaim := { program := "ytienopaegdoenaa", sum := "f6f60c62ad916a2596afd6396630de3490669ca7149330f19a0497457594a464", func := "loop.example/g00358/laws.FnExactReadMsg", spec := "fnExactReadMsg", apart := false }
def FnExactReadMsgSaid : Prop := fnExactReadMsgRow.holds Try.pinned (OpenSpec.ofChange fnExactReadMsgSpec)

/-- ITS FALSE NEIGHBOUR: 'it returns false'. Refute it at one input. -/
def fnExactReadMsgWrong : ChangeSpec := { name := "fnExactReadMsg", fn := fun _ => fun
  | [d] => { results := [.lit (.bool false)], args := [d] }
  | _ => none }
def FnExactReadMsgWrongFalsely : Prop := fnExactReadMsgRow.holds Try.pinned (OpenSpec.ofChange fnExactReadMsgWrong)

/-- 'laws.FnExactDiskOk': WHATEVER THE INPUT: true; the input reads as it did. -/
def fnExactDiskOkSpec : ChangeSpec := { name := "fnExactDiskOk", fn := fun _ => fun
  | [d] => { results := [.lit (.bool true)], args := [d] }
  | _ => none }
def fnExactDiskOkRow : OpenClaim := { program := "ytienopaegdoenaa", sum := "f6f60c62ad916a2596afd6396630de3490669ca7149330f19a0497457594a464", func := "loop.example/g00358/laws.FnExactDiskOk", spec := "fnExactDiskOk", inPlace := ["slices.overlaps[loop.example/g00358/impl.Link]"], unfollowed := true, recurses := true, apart := false }
def FnExactDiskOkSaid : Prop := fnExactDiskOkRow.holds Try.pinned (OpenSpec.ofChange fnExactDiskOkSpec)

/-- ITS FALSE NEIGHBOUR: 'it returns false'. Refute it at one input. -/
def fnExactDiskOkWrong : ChangeSpec := { name := "fnExactDiskOk", fn := fun _ => fun
  | [d] => { results := [.lit (.bool false)], args := [d] }
  | _ => none }
def FnExactDiskOkWrongFalsely : Prop := fnExactDiskOkRow.holds Try.pinned (OpenSpec.ofChange fnExactDiskOkWrong)

/-- 'laws.FnExactList': WHATEVER THE INPUT: true; the input reads as it did. -/
def fnExactListSpec : ChangeSpec := { name := "fnExactList", fn := fun _ => fun
  | [d] => { results := [.lit (.bool true)], args := [d] }
  | _ => none }
def fnExactListRow : OpenClaim := { program := "ytienopaegdoenaa", sum := "f6f60c62ad916a2596afd6396630de3490669ca7149330f19a0497457594a464", func := "loop.example/g00358/laws.FnExactList", spec := "fnExactList", inPlace := ["slices.overlaps[loop.example/g00358/impl.Link]"], unfollowed := true, recurses := true, apart := false }
def FnExactListSaid : Prop := fnExactListRow.holds Try.pinned (OpenSpec.ofChange fnExactListSpec)

/-- ITS FALSE NEIGHBOUR: 'it returns false'. Refute it at one input. -/
def fnExactListWrong : ChangeSpec := { name := "fnExactList", fn := fun _ => fun
  | [d] => { results := [.lit (.bool false)], args := [d] }
  | _ => none }
def FnExactListWrongFalsely : Prop := fnExactListRow.holds Try.pinned (OpenSpec.ofChange fnExactListWrong)

/- THE SECOND FORM. 'bulk': how many values and letters a reading holds, each counted each time it is reached (what is shared counts as often as it is met; a slice's spare places count too). A statement '..UptoSaid' is the law's where the arguments, and the package variables that the reading takes, are together of bulk at most 1048576: NARROWER than '..Said'. Prove '..Said' where nothing that the law and all that it calls make is longer than what came in: it says more and counts as full. Else prove '..UptoSaid'. A law counts once. -/
mutual
def uptoBulk {H : Type} : DataW H → Nat
  | .lit (.string bytes) => bytes.length + 1
  | .lit _ => 1
  | .nil => 1
  | .ptr d => uptoBulk d + 1
  | .slice elems spare => uptoBulkAll elems + uptoBulkAll spare + 1
  | .agg parts => uptoBulkAll parts + 1
  | .iface _ d => uptoBulk d + 1
  | .map entries => uptoBulkEntries entries + 1
  | .held _ => 1
def uptoBulkAll {H : Type} : List (DataW H) → Nat
  | [] => 0
  | d :: r => uptoBulk d + uptoBulkAll r
def uptoBulkEntries {H : Type} : List (Lit × DataW H) → Nat
  | [] => 0
  | x :: r => uptoBulkEntry x + uptoBulkEntries r
def uptoBulkEntry {H : Type} : Lit × DataW H → Nat
  | (.string bytes, d) => bytes.length + uptoBulk d + 1
  | (_, d) => uptoBulk d + 1
 end
def uptoSmall : (H : Type) → List (DataW H) → Bool := fun _ ds => decide (uptoBulkAll ds ≤ 1048576)
def OpenSpec.upto (s : _root_.Go.ChangeSpec) : _root_.Go.OpenSpec := { _root_.Go.OpenSpec.ofChange s with cond := some uptoSmall }

/-- 'laws.FnExactCoreOk', WHERE WHAT IT READS IS OF BULK AT MOST 1048576: true; the input reads as it did. -/
def fnExactCoreOkUptoRow : OpenClaim := { program := "ytienopaegdoenaa", sum := "f6f60c62ad916a2596afd6396630de3490669ca7149330f19a0497457594a464", func := "loop.example/g00358/laws.FnExactCoreOk", spec := "fnExactCoreOk", apart := false, narrowed := true }
def FnExactCoreOkUptoSaid : Prop := fnExactCoreOkUptoRow.holds Try.pinned (OpenSpec.upto fnExactCoreOkSpec)

/-- 'laws.FnExactCoreOf', WHERE WHAT IT READS IS OF BULK AT MOST 1048576: true; the input reads as it did. -/
def fnExactCoreOfUptoRow : OpenClaim := { program := "ytienopaegdoenaa", sum := "f6f60c62ad916a2596afd6396630de3490669ca7149330f19a0497457594a464", func := "loop.example/g00358/laws.FnExactCoreOf", spec := "fnExactCoreOf", apart := false, narrowed := true }
def FnExactCoreOfUptoSaid : Prop := fnExactCoreOfUptoRow.holds Try.pinned (OpenSpec.upto fnExactCoreOfSpec)

/-- 'laws.FnExactCoreWal', WHERE WHAT IT READS IS OF BULK AT MOST 1048576: true; the input reads as it did. -/
def fnExactCoreWalUptoRow : OpenClaim := { program := "ytienopaegdoenaa", sum := "f6f60c62ad916a2596afd6396630de3490669ca7149330f19a0497457594a464", func := "loop.example/g00358/laws.FnExactCoreWal", spec := "fnExactCoreWal", apart := false, narrowed := true }
def FnExactCoreWalUptoSaid : Prop := fnExactCoreWalUptoRow.holds Try.pinned (OpenSpec.upto fnExactCoreWalSpec)

/-- 'laws.FnExactCompact', WHERE WHAT IT READS IS OF BULK AT MOST 1048576: true; the input reads as it did. -/
def fnExactCompactUptoRow : OpenClaim := { program := "ytienopaegdoenaa", sum := "f6f60c62ad916a2596afd6396630de3490669ca7149330f19a0497457594a464", func := "loop.example/g00358/laws.FnExactCompact", spec := "fnExactCompact", apart := false, narrowed := true }
def FnExactCompactUptoSaid : Prop := fnExactCompactUptoRow.holds Try.pinned (OpenSpec.upto fnExactCompactSpec)

/-- 'laws.FnExactMsgOk', WHERE WHAT IT READS IS OF BULK AT MOST 1048576: true; the input reads as it did. -/
def fnExactMsgOkUptoRow : OpenClaim := { program := "ytienopaegdoenaa", sum := "f6f60c62ad916a2596afd6396630de3490669ca7149330f19a0497457594a464", func := "loop.example/g00358/laws.FnExactMsgOk", spec := "fnExactMsgOk", apart := false, narrowed := true }
def FnExactMsgOkUptoSaid : Prop := fnExactMsgOkUptoRow.holds Try.pinned (OpenSpec.upto fnExactMsgOkSpec)

/-- 'laws.FnExactShowMsg', WHERE WHAT IT READS IS OF BULK AT MOST 1048576: true; the input reads as it did. -/
def fnExactShowMsgUptoRow : OpenClaim := { program := "ytienopaegdoenaa", sum := "f6f60c62ad916a2596afd6396630de3490669ca7149330f19a0497457594a464", func := "loop.example/g00358/laws.FnExactShowMsg", spec := "fnExactShowMsg", apart := false, narrowed := true }
def FnExactShowMsgUptoSaid : Prop := fnExactShowMsgUptoRow.holds Try.pinned (OpenSpec.upto fnExactShowMsgSpec)

/-- 'laws.FnExactReadMsg', WHERE WHAT IT READS IS OF BULK AT MOST 1048576: true; the input reads as it did. -/
def fnExactReadMsgUptoRow : OpenClaim := { program := "ytienopaegdoenaa", sum := "f6f60c62ad916a2596afd6396630de3490669ca7149330f19a0497457594a464", func := "loop.example/g00358/laws.FnExactReadMsg", spec := "fnExactReadMsg", apart := false, narrowed := true }
def FnExactReadMsgUptoSaid : Prop := fnExactReadMsgUptoRow.holds Try.pinned (OpenSpec.upto fnExactReadMsgSpec)

/-- 'laws.FnExactDiskOk', WHERE WHAT IT READS IS OF BULK AT MOST 1048576: true; the input reads as it did. -/
def fnExactDiskOkUptoRow : OpenClaim := { program := "ytienopaegdoenaa", sum := "f6f60c62ad916a2596afd6396630de3490669ca7149330f19a0497457594a464", func := "loop.example/g00358/laws.FnExactDiskOk", spec := "fnExactDiskOk", inPlace := ["slices.overlaps[loop.example/g00358/impl.Link]"], unfollowed := true, recurses := true, apart := false, narrowed := true }
def FnExactDiskOkUptoSaid : Prop := fnExactDiskOkUptoRow.holds Try.pinned (OpenSpec.upto fnExactDiskOkSpec)

/-- 'laws.FnExactList', WHERE WHAT IT READS IS OF BULK AT MOST 1048576: true; the input reads as it did. -/
def fnExactListUptoRow : OpenClaim := { program := "ytienopaegdoenaa", sum := "f6f60c62ad916a2596afd6396630de3490669ca7149330f19a0497457594a464", func := "loop.example/g00358/laws.FnExactList", spec := "fnExactList", inPlace := ["slices.overlaps[loop.example/g00358/impl.Link]"], unfollowed := true, recurses := true, apart := false, narrowed := true }
def FnExactListUptoSaid : Prop := fnExactListUptoRow.holds Try.pinned (OpenSpec.upto fnExactListSpec)

end Rows
end Go.Proofs.Ytienopaegdoenaa
