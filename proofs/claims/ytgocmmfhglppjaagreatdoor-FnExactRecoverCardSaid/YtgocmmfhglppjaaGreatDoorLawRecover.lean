/- 'laws.FnExactRecover' returns true at every argument, and each argument reads behind the call as it read before; its package's table is tied to the program's text. No condition. -/
import Derived.Test.YtgocmmfhglppjaaGreatDoorRows
import Derived.Test.YtgocmmfhglppjaaGreatDoorCards
import Derived.Test.YtgocmmfhglppjaaGreatDoorTie
import Derived.Test.YtgocmmfhglppjaaGreatDoorRxPlain3
import Derived.Test.YtgocmmfhglppjaaGreatDoorRxCard
import Derived.ProofKit
import Derived.SevenTiedAt
set_option linter.unusedVariables false
set_option linter.unusedSimpArgs false
namespace Go.Proofs.YtgocmmfhglppjaaGreatDoor.Recover
open Go.ChangeShapes Go.WideShapes Go.ChangeAt Go.RowKit Go.Proofs.YtgocmmfhglppjaaGreatDoor.Rx Go.Proofs.YtgocmmfhglppjaaGreatDoor.Rx.S
theorem own : ownKnob Tryz.prog.godebug = none := by kernel_rfl
theorem laidOut : laidOutB Tryz.prog = true := by kernel_rfl
theorem gn : Tryz.prog.globalNamed "loop.example/g00358/impl.shaWords" = some 0 := by kernel_rfl
theorem gt : (Tryz.prog.globals[0]?).map (·.type) = some 186 := by kernel_rfl
theorem ua : Tryz.prog.underlying 186 = some (.array 64 162) := by kernel_rfl
theorem ue : Tryz.prog.underlying 162 = some (.int .u32) := by kernel_rfl
theorem ca : Tryz.prog.cellsOf 186 = 64 := by kernel_rfl
theorem ce : Tryz.prog.cellsOf 162 = 1 := by kernel_rfl
theorem hone : (List.range Tryz.prog.globals.size).all (fun i => !tabOf Tryz.prog i || i == 0) = true := by kernel_rfl
theorem datum {H : Type} : (Rows.laid_loop_example_g00358_impl_shaWords : DataW H) = .agg (shaTab.map fun x => .lit (.int .u32 x)) := by kernel_rfl
theorem reads {H : Type} (enc : TypeId × Value → H) (W : World) (sp : Nat → Bool) (held : Bool) : DataW.trod enc Tryz.prog W 0 sp held 8 186 tabCells.toList = some (Rows.laid_loop_example_g00358_impl_shaWords, []) := by kernel_rfl

noncomputable def laidWorld (os : Os) : World :=
  { World.holding Tryz.prog os ⟨#[], #[], []⟩ with heap := (World.holding Tryz.prog os ⟨#[], #[], []⟩).heap.modify 0 fun
      | .cells _ t frozen => .cells tabCells t frozen
      | o => o }
theorem laidWorld_row (os : Os) : ((laidWorld os).forCall (fun _ _ => 0) ⟨#[], #[.agg #[.int .i64 0, .int .i64 0, .slice none 0 0, .slice none 0 0, .slice none 0 0]], []⟩).memory.heap[0]? = some (.cells tabCells 186 (0, 0)) := by kernel_rfl

set_option maxRecDepth 100000 in
theorem lifted (os : Os) (started : os.Started) (H : Type) (enc : TypeId × Value → H) :
    ReturnsInHanded {} Tryz.checked os 4 .any (fun w args => (Rows.fnExactRecoverSpec.pre enc Tryz.prog Tryz.f4 [] false w args ∧ laidMet Tryz.prog [("loop.example/g00358/impl.shaWords", Rows.laid_loop_example_g00358_impl_shaWords)] w) ∧ sizedMet enc Tryz.prog Tryz.f4 (OpenSpec.ofChange Rows.fnExactRecoverSpec) false w args) (Rows.fnExactRecoverSpec.post enc Tryz.prog Tryz.f4 false true false false) := by
  refine returnsInHanded_of_change_and (C := Tryz.checked) (X := fun w _ => laidMet Tryz.prog [("loop.example/g00358/impl.shaWords", Rows.laid_loop_example_g00358_impl_shaWords)] w) (fun _ _ _ hh h => h.of_heap hh) own started (by kernel_rfl) Tryz.func4
    (ChangeSpec.witness_at (enc := enc) (C := Tryz.checked) (os := os) (X := fun w _ => laidMet Tryz.prog [("loop.example/g00358/impl.shaWords", Rows.laid_loop_example_g00358_impl_shaWords)] w) false (laidWorld os) #[.agg #[.int .i64 0, .int .i64 0, .slice none 0 0, .slice none 0 0, .slice none 0 0]] 8 rfl (by kernel_rfl) (by kernel_rfl) (by kernel_rfl) (by kernel_rfl) (by kernel_rfl)
      (laidMet_of gn gt (laidWorld_row os) (reads _ _ _ _))) ?_
  intro W base args ds gs before hval0 hW _ _ hL _
  have hval : ∀ (j : Nat) t v, Tryz.f4.params[j]? = some t → args[j]? = some v → Value.okWide Tryz.prog W .any base t v := hval0
  have hW' := hW
  obtain ⟨p, q, hA0, hV0, rfl, hfz, hnd⟩ := hW
  have hA : DataW.TrodAll enc Tryz.prog W 0 (fun _ => true) true Tryz.f4.params.toList args.toList ds p := hA0
  have hV : DataW.TrodVars enc Tryz.prog W (fun _ => true) ["loop.example/g00358/impl.shaWords"] gs q := hV0
  rw [Tryz.params4] at hA hval
  obtain ⟨v0, d0, rfl, rfl, h0⟩ := trodAll_one hA
  have hvar := cells_of_laid gn gt ua ue ce ca datum hL
  obtain ⟨g, t, cs, fuel, d, p', rfl, hg, ht, hvar0, hd, rfl⟩ := trodVars_one hV
  obtain rfl := Option.some.inj (gn.symm.trans hg)
  obtain rfl := Option.some.inj (gt.symm.trans ht)
  obtain rfl : cs = tabCells := Option.some.inj (hvar0.symm.trans hvar)
  obtain ⟨rfl, rfl⟩ := DataW.Trod.unique (v := .agg tabCells) ⟨fuel, hd⟩ ⟨8, reads enc W _ _⟩
  have hlt0 : ∀ x ∈ p, x.block < W.heap.size := fun x hx => hW'.lt x (List.mem_append_left _ (by simp [hx]))
  obtain ⟨l0, x0, e0, r0, w0⟩ := arg_rd (n := 12) (agg := true) (c := (.pair (.int .i64) (.pair (.int .i64) (.pair (.sl 104 (.pair (.int .i64) (.pair .str (.int .i64)))) (.pair (.sl 107 (.pair .str (.int .i64))) (.sl 110 (.pair (.int .i64) (.pair .str (.pair .str (.int .i64)))))))))) (by kernel_rfl) (by kernel_rfl) (hval 0 26 v0 rfl rfl) h0
  obtain ⟨k, hk⟩ := law_Recover x0 w0
  refine (law_calls (laws_FnExactRecover.ok k) rfl rfl (vs := [v0]) (vss := [l0]) (x := x0) (r := true) hk ⟨e0, trivial⟩ ⟨l0, rfl, r0, rfl⟩ ?_ (glob_of_var gn hvar hone)).mono ?_
  · rintro w S' v rows' ⟨vs, h1, h2⟩
    cases h1
    have := h2.1
    cases this; rfl
  · rintro e W' ⟨rfl, hb⟩
    exact ⟨_, rfl, _, _, _, [] ++ [], p, MemPlace.row ⟨0, 0, none⟩ tabCells.size ++ [] ++ [], hW', trodAll_mk1 (shut_bool Tryz.underlying4 true), trodAll_mk1 (Below.trod laidOut (by kernel_rfl) (of_decide_eq_true (by kernel_rfl)) h0 hb hlt0), ⟨0, 186, tabCells, 8, [], [], gn, gt, var_below gn hvar hb, reads _ _ _ _, rfl, rfl⟩, hb.frame _, fun h => by cases h⟩

theorem rowHolds : Rows.FnExactRecoverSaid :=
  OpenClaim.holds_of_wide 4 Tryz.f4 rfl rfl rfl rfl rfl rfl rfl ⟨rfl, rfl, rfl, rfl, rfl⟩ rfl rfl rfl rfl rfl (by kernel_rfl) Tryz.func4 (by kernel_rfl)
    (of_decide_eq_true (by kernel_rfl)) (by unfold Func.isWrapper; first | (rw [if_pos (by decide +kernel)]; kernel_rfl) | (rw [if_neg (by decide +kernel)]; exact ⟨rfl, rfl⟩))
    (fun os started H enc _ => lifted os started H enc)

/-- the card: the row, and its table tied to the program's text -/
theorem holds : Rows.FnExactRecoverCardSaid :=
  Claim7.holds_tied_plain_at .later [] [.data] true (true, "d62f10c3b6d3c634eef431df7268349c7c8eb652bafdc5e5122a04f3880506ae") false
    rowHolds (fun _ h => by cases h) (by kernel_rfl) (fun _ h => by cases h) fnExactRecover_row_tie rfl ⟨rfl, rfl⟩ (by kernel_rfl) rfl
    (fun f fn hf hfn => by
      obtain rfl : f = 4 := Option.some.inj ((show Tryz.prog.funcNamed "loop.example/g00358/laws.FnExactRecover" = some 4 by kernel_rfl).symm.trans hf) |>.symm
      obtain rfl : fn = Tryz.f4 := (Option.some.inj (Tryz.func4.symm.trans hfn)).symm
      exact ⟨by kernel_rfl, fun j t ht => by
        rw [Tryz.params4] at ht
        have hm := Array.mem_of_getElem? ht
        have hall : (([26] : List TypeId).all fun t => Tryz.prog.wantsStandIn t == false) = true := by kernel_rfl
        have := List.all_eq_true.1 hall t (by simpa using hm)
        exact (beq_iff_eq.1 this)⟩)
    (by kernel_rfl)
end Go.Proofs.YtgocmmfhglppjaaGreatDoor.Recover
