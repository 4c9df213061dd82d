/-
  No cell of these rows narrows 'for every input' (looked for: loops, veiled, ifaces, maps, wideKeys, modest, calm, conditions, laid).
  DERIVED. THE GIVEN ROWS OF THIS SEAT. 4 by the template 'for every input the law returns true; each argument reads behind the call as it read before'; 0 by the template 'total and deterministic' (their statements: YtjokcjlpciecoaaTotals.lean).
  GIVEN WITH THE SEED: the statements are not yours to turn. If you find one false, say at which input.
  Laid BY PROGRAM, IN A SANDBOX (cutbox-rows.mjs): the forced cells as the released guide's own fill.sh prints them over the translation 2605dd5325d2e121… (all of the seat's roots in one cut). By AI agents, Wed Nov 11 2026. No macro, syntax, notation, axiom, sorry.
-/
import Derived.Test.YtjokcjlpciecoaaChecked
import GoSem.Claim
import GoSem.ClaimJoined
import GoSem.ClaimMapViews
import Derived.JoinedTies
import Derived.KernelRfl
namespace Go.Proofs.Ytjokcjlpciecoaa
/- THE CELL 'sum', in the pinned program and in every row, IS THE sha256 OF THE DUMP (.gsa) THAT YtjokcjlpciecoaaProg.lean LOADS. Nothing in Lean hashes anything: it is a label: what it is worth is what the hold of that sum in a sandbox is worth. -/
noncomputable def Try.pinned : Pinned := { name := "ytjokcjlpciecoaa", sum := "2605dd5325d2e121fb068204aab2986feec96ad36f422240ed81cabecccf5751", checked := Try.checked }
namespace Rows
def none {H : Type} : Left H := { results := [], args := [] }

/-- 'laws.FnExactStats': WHATEVER THE INPUT: true; the input reads as it did. -/
def fnExactStatsSpec : ChangeSpec := { name := "fnExactStats", fn := fun _ => fun
  | [d1, d2] => { results := [.lit (.bool true)], args := [d1, d2] }
  | _ => none }
def fnExactStatsRow : OpenClaim := { program := "ytjokcjlpciecoaa", sum := "2605dd5325d2e121fb068204aab2986feec96ad36f422240ed81cabecccf5751", func := "loop.example/g00358/laws.FnExactStats", spec := "fnExactStats", unfollowed := true, recurses := true, plainKeys := false, apart := false }
def FnExactStatsSaid : Prop := fnExactStatsRow.holds Try.pinned (OpenSpec.ofChange fnExactStatsSpec)

/-- ITS FALSE NEIGHBOUR: 'it returns false'. Refute it at one input. -/
def fnExactStatsWrong : ChangeSpec := { name := "fnExactStats", fn := fun _ => fun
  | [d1, d2] => { results := [.lit (.bool false)], args := [d1, d2] }
  | _ => none }
def FnExactStatsWrongFalsely : Prop := fnExactStatsRow.holds Try.pinned (OpenSpec.ofChange fnExactStatsWrong)

/-- 'laws.FnExactTrain': WHATEVER THE INPUT: true; the input reads as it did. -/
def fnExactTrainSpec : ChangeSpec := { name := "fnExactTrain", fn := fun _ => fun
  | [d1, d2] => { results := [.lit (.bool true)], args := [d1, d2] }
  | _ => none }
def fnExactTrainRow : OpenClaim := { program := "ytjokcjlpciecoaa", sum := "2605dd5325d2e121fb068204aab2986feec96ad36f422240ed81cabecccf5751", func := "loop.example/g00358/laws.FnExactTrain", spec := "fnExactTrain", unfollowed := true, recurses := true, plainKeys := false, apart := false }
def FnExactTrainSaid : Prop := fnExactTrainRow.holds Try.pinned (OpenSpec.ofChange fnExactTrainSpec)

/-- ITS FALSE NEIGHBOUR: 'it returns false'. Refute it at one input. -/
def fnExactTrainWrong : ChangeSpec := { name := "fnExactTrain", fn := fun _ => fun
  | [d1, d2] => { results := [.lit (.bool false)], args := [d1, d2] }
  | _ => none }
def FnExactTrainWrongFalsely : Prop := fnExactTrainRow.holds Try.pinned (OpenSpec.ofChange fnExactTrainWrong)

/-- 'laws.FnTrain': WHATEVER THE INPUT: true; the input reads as it did. -/
def fnTrainSpec : ChangeSpec := { name := "fnTrain", fn := fun _ => fun
  | [d] => { results := [.lit (.bool true)], args := [d] }
  | _ => none }
def fnTrainRow : OpenClaim := { program := "ytjokcjlpciecoaa", sum := "2605dd5325d2e121fb068204aab2986feec96ad36f422240ed81cabecccf5751", func := "loop.example/g00358/laws.FnTrain", spec := "fnTrain", unfollowed := true, recurses := true, plainKeys := false, apart := false }
def FnTrainSaid : Prop := fnTrainRow.holds Try.pinned (OpenSpec.ofChange fnTrainSpec)

/-- ITS FALSE NEIGHBOUR: 'it returns false'. Refute it at one input. -/
def fnTrainWrong : ChangeSpec := { name := "fnTrain", fn := fun _ => fun
  | [d] => { results := [.lit (.bool false)], args := [d] }
  | _ => none }
def FnTrainWrongFalsely : Prop := fnTrainRow.holds Try.pinned (OpenSpec.ofChange fnTrainWrong)

/-- 'laws.FnStats': WHATEVER THE INPUT: true; the input reads as it did. -/
def fnStatsSpec : ChangeSpec := { name := "fnStats", fn := fun _ => fun
  | [d] => { results := [.lit (.bool true)], args := [d] }
  | _ => none }
def fnStatsRow : OpenClaim := { program := "ytjokcjlpciecoaa", sum := "2605dd5325d2e121fb068204aab2986feec96ad36f422240ed81cabecccf5751", func := "loop.example/g00358/laws.FnStats", spec := "fnStats", unfollowed := true, recurses := true, plainKeys := false, apart := false }
def FnStatsSaid : Prop := fnStatsRow.holds Try.pinned (OpenSpec.ofChange fnStatsSpec)

/-- ITS FALSE NEIGHBOUR: 'it returns false'. Refute it at one input. -/
def fnStatsWrong : ChangeSpec := { name := "fnStats", fn := fun _ => fun
  | [d] => { results := [.lit (.bool false)], args := [d] }
  | _ => none }
def FnStatsWrongFalsely : Prop := fnStatsRow.holds Try.pinned (OpenSpec.ofChange fnStatsWrong)

/- THE SECOND FORM. 'bulk': how many values and letters a reading holds, each counted each time it is reached (what is shared counts as often as it is met; a slice's spare places count too). A statement '..UptoSaid' is the law's where the arguments, and the package variables that the reading takes, are together of bulk at most 1048576: NARROWER than '..Said'. Prove '..Said' where nothing that the law and all that it calls make is longer than what came in: it says more and counts as full. Else prove '..UptoSaid'. A law counts once. -/
mutual
def uptoBulk {H : Type} : DataW H → Nat
  | .lit (.string bytes) => bytes.length + 1
  | .lit _ => 1
  | .nil => 1
  | .ptr d => uptoBulk d + 1
  | .slice elems spare => uptoBulkAll elems + uptoBulkAll spare + 1
  | .agg parts => uptoBulkAll parts + 1
  | .iface _ d => uptoBulk d + 1
  | .map entries => uptoBulkEntries entries + 1
  | .held _ => 1
def uptoBulkAll {H : Type} : List (DataW H) → Nat
  | [] => 0
  | d :: r => uptoBulk d + uptoBulkAll r
def uptoBulkEntries {H : Type} : List (Lit × DataW H) → Nat
  | [] => 0
  | x :: r => uptoBulkEntry x + uptoBulkEntries r
def uptoBulkEntry {H : Type} : Lit × DataW H → Nat
  | (.string bytes, d) => bytes.length + uptoBulk d + 1
  | (_, d) => uptoBulk d + 1
 end
def uptoSmall : (H : Type) → List (DataW H) → Bool := fun _ ds => decide (uptoBulkAll ds ≤ 1048576)
def OpenSpec.upto (s : _root_.Go.ChangeSpec) : _root_.Go.OpenSpec := { _root_.Go.OpenSpec.ofChange s with cond := some uptoSmall }

/-- 'laws.FnExactStats', WHERE WHAT IT READS IS OF BULK AT MOST 1048576: true; the input reads as it did. -/
def fnExactStatsUptoRow : OpenClaim := { program := "ytjokcjlpciecoaa", sum := "2605dd5325d2e121fb068204aab2986feec96ad36f422240ed81cabecccf5751", func := "loop.example/g00358/laws.FnExactStats", spec := "fnExactStats", unfollowed := true, recurses := true, plainKeys := false, apart := false, narrowed := true }
def FnExactStatsUptoSaid : Prop := fnExactStatsUptoRow.holds Try.pinned (OpenSpec.upto fnExactStatsSpec)

/-- 'laws.FnExactTrain', WHERE WHAT IT READS IS OF BULK AT MOST 1048576: true; the input reads as it did. -/
def fnExactTrainUptoRow : OpenClaim := { program := "ytjokcjlpciecoaa", sum := "2605dd5325d2e121fb068204aab2986feec96ad36f422240ed81cabecccf5751", func := "loop.example/g00358/laws.FnExactTrain", spec := "fnExactTrain", unfollowed := true, recurses := true, plainKeys := false, apart := false, narrowed := true }
def FnExactTrainUptoSaid : Prop := fnExactTrainUptoRow.holds Try.pinned (OpenSpec.upto fnExactTrainSpec)

/-- 'laws.FnTrain', WHERE WHAT IT READS IS OF BULK AT MOST 1048576: true; the input reads as it did. -/
def fnTrainUptoRow : OpenClaim := { program := "ytjokcjlpciecoaa", sum := "2605dd5325d2e121fb068204aab2986feec96ad36f422240ed81cabecccf5751", func := "loop.example/g00358/laws.FnTrain", spec := "fnTrain", unfollowed := true, recurses := true, plainKeys := false, apart := false, narrowed := true }
def FnTrainUptoSaid : Prop := fnTrainUptoRow.holds Try.pinned (OpenSpec.upto fnTrainSpec)

/-- 'laws.FnStats', WHERE WHAT IT READS IS OF BULK AT MOST 1048576: true; the input reads as it did. -/
def fnStatsUptoRow : OpenClaim := { program := "ytjokcjlpciecoaa", sum := "2605dd5325d2e121fb068204aab2986feec96ad36f422240ed81cabecccf5751", func := "loop.example/g00358/laws.FnStats", spec := "fnStats", unfollowed := true, recurses := true, plainKeys := false, apart := false, narrowed := true }
def FnStatsUptoSaid : Prop := fnStatsUptoRow.holds Try.pinned (OpenSpec.upto fnStatsSpec)

end Rows
end Go.Proofs.Ytjokcjlpciecoaa
