/- 'laws.FnExactReadReg' returns true at every argument, and each argument reads behind the call as it read before; its package's table is tied to the program's text. No condition. -/
import Derived.Test.YthiijllhonbjhaaDoorRows
import Derived.Test.YthiijllhonbjhaaDoorCards
import Derived.Test.YthiijllhonbjhaaDoorTie
import Derived.Test.YthiijllhonbjhaaDoorRxPlainD
import Derived.Test.YthiijllhonbjhaaDoorRxCard
import Derived.ProofKit
import Derived.SevenTiedAt
set_option linter.unusedVariables false
set_option linter.unusedSimpArgs false
namespace Go.Proofs.YthiijllhonbjhaaDoor.ReadReg
open Go.ChangeShapes Go.WideShapes Go.ChangeAt Go.RowKit Go.Proofs.YthiijllhonbjhaaDoor.Rx Go.Proofs.YthiijllhonbjhaaDoor.Rx.S
theorem own : ownKnob Tryd.prog.godebug = none := by kernel_rfl
theorem laidOut : laidOutB Tryd.prog = true := by kernel_rfl
theorem gn : Tryd.prog.globalNamed "loop.example/g00358/impl.shaWords" = some 0 := by kernel_rfl
theorem gt : (Tryd.prog.globals[0]?).map (·.type) = some 114 := by kernel_rfl
theorem ua : Tryd.prog.underlying 114 = some (.array 64 95) := by kernel_rfl
theorem ue : Tryd.prog.underlying 95 = some (.int .u32) := by kernel_rfl
theorem ca : Tryd.prog.cellsOf 114 = 64 := by kernel_rfl
theorem ce : Tryd.prog.cellsOf 95 = 1 := by kernel_rfl
theorem hone : (List.range Tryd.prog.globals.size).all (fun i => !tabOf Tryd.prog i || i == 0) = true := by kernel_rfl
theorem datum {H : Type} : (Rows.laid_loop_example_g00358_impl_shaWords : DataW H) = .agg (shaTab.map fun x => .lit (.int .u32 x)) := by kernel_rfl
theorem reads {H : Type} (enc : TypeId × Value → H) (W : World) (sp : Nat → Bool) (held : Bool) : DataW.trod enc Tryd.prog W 0 sp held 8 114 tabCells.toList = some (Rows.laid_loop_example_g00358_impl_shaWords, []) := by kernel_rfl

noncomputable def laidWorld (os : Os) : World :=
  { World.holding Tryd.prog os ⟨#[], #[], []⟩ with heap := (World.holding Tryd.prog os ⟨#[], #[], []⟩).heap.modify 0 fun
      | .cells _ t frozen => .cells tabCells t frozen
      | o => o }
theorem laidWorld_row (os : Os) : ((laidWorld os).forCall (fun _ _ => 0) ⟨#[], #[.string ⟨#[]⟩], []⟩).memory.heap[0]? = some (.cells tabCells 114 (0, 0)) := by kernel_rfl

set_option maxRecDepth 100000 in
theorem lifted (os : Os) (started : os.Started) (H : Type) (enc : TypeId × Value → H) :
    ReturnsInHanded {} Tryd.checked os 5 .any (fun w args => (Rows.fnExactReadRegSpec.pre enc Tryd.prog Tryd.f5 [] false w args ∧ laidMet Tryd.prog [("loop.example/g00358/impl.shaWords", Rows.laid_loop_example_g00358_impl_shaWords)] w) ∧ sizedMet enc Tryd.prog Tryd.f5 (OpenSpec.ofChange Rows.fnExactReadRegSpec) false w args) (Rows.fnExactReadRegSpec.post enc Tryd.prog Tryd.f5 false true false false) := by
  refine returnsInHanded_of_change_and (C := Tryd.checked) (X := fun w _ => laidMet Tryd.prog [("loop.example/g00358/impl.shaWords", Rows.laid_loop_example_g00358_impl_shaWords)] w) (fun _ _ _ hh h => h.of_heap hh) own started (by kernel_rfl) Tryd.func5
    (ChangeSpec.witness_at (enc := enc) (C := Tryd.checked) (os := os) (X := fun w _ => laidMet Tryd.prog [("loop.example/g00358/impl.shaWords", Rows.laid_loop_example_g00358_impl_shaWords)] w) false (laidWorld os) #[.string ⟨#[]⟩] 8 rfl (by kernel_rfl) (by kernel_rfl) (by kernel_rfl) (by kernel_rfl) (by kernel_rfl)
      (laidMet_of gn gt (laidWorld_row os) (reads _ _ _ _))) ?_
  intro W base args ds gs before hval0 hW _ _ hL _
  have hval : ∀ (j : Nat) t v, Tryd.f5.params[j]? = some t → args[j]? = some v → Value.okWide Tryd.prog W .any base t v := hval0
  have hW' := hW
  obtain ⟨p, q, hA0, hV0, rfl, hfz, hnd⟩ := hW
  have hA : DataW.TrodAll enc Tryd.prog W 0 (fun _ => true) true Tryd.f5.params.toList args.toList ds p := hA0
  have hV : DataW.TrodVars enc Tryd.prog W (fun _ => true) ["loop.example/g00358/impl.shaWords"] gs q := hV0
  rw [Tryd.params5] at hA hval
  obtain ⟨v0, d0, rfl, rfl, h0⟩ := trodAll_one hA
  have hvar := cells_of_laid gn gt ua ue ce ca datum hL
  obtain ⟨g, t, cs, fuel, d, p', rfl, hg, ht, hvar0, hd, rfl⟩ := trodVars_one hV
  obtain rfl := Option.some.inj (gn.symm.trans hg)
  obtain rfl := Option.some.inj (gt.symm.trans ht)
  obtain rfl : cs = tabCells := Option.some.inj (hvar0.symm.trans hvar)
  obtain ⟨rfl, rfl⟩ := DataW.Trod.unique (v := .agg tabCells) ⟨fuel, hd⟩ ⟨8, reads enc W _ _⟩
  have hlt0 : ∀ x ∈ p, x.block < W.heap.size := fun x hx => hW'.lt x (List.mem_append_left _ (by simp [hx]))
  obtain ⟨l0, x0, e0, r0, w0⟩ := arg_rd (n := 12) (agg := false) (c := .str) (by kernel_rfl) (by kernel_rfl) (hval 0 9 v0 rfl rfl) h0
  obtain ⟨k, hk⟩ := law_ReadReg x0 w0
  refine (law_calls (laws_FnExactReadReg.ok k) rfl rfl (vs := [v0]) (vss := [l0]) (x := x0) (r := true) hk ⟨e0, trivial⟩ ⟨l0, rfl, r0, rfl⟩ ?_ (glob_of_var gn hvar hone)).mono ?_
  · rintro w S' v rows' ⟨vs, h1, h2⟩
    cases h1
    have := h2.1
    cases this; rfl
  · rintro e W' ⟨rfl, hb⟩
    exact ⟨_, rfl, _, _, _, [] ++ [], p, MemPlace.row ⟨0, 0, none⟩ tabCells.size ++ [] ++ [], hW', trodAll_mk1 (shut_bool Tryd.underlying4 true), trodAll_mk1 (Below.trod laidOut (by kernel_rfl) (of_decide_eq_true (by kernel_rfl)) h0 hb hlt0), ⟨0, 114, tabCells, 8, [], [], gn, gt, var_below gn hvar hb, reads _ _ _ _, rfl, rfl⟩, hb.frame _, fun h => by cases h⟩

theorem rowHolds : Rows.FnExactReadRegSaid :=
  OpenClaim.holds_of_wide 5 Tryd.f5 rfl rfl rfl rfl rfl rfl rfl ⟨rfl, rfl, rfl, rfl, rfl⟩ rfl rfl rfl rfl rfl (by kernel_rfl) Tryd.func5 (by kernel_rfl)
    (of_decide_eq_true (by kernel_rfl)) (by unfold Func.isWrapper; first | (rw [if_pos (by decide +kernel)]; kernel_rfl) | (rw [if_neg (by decide +kernel)]; exact ⟨rfl, rfl⟩))
    (fun os started H enc _ => lifted os started H enc)

/-- the card: the row, and its table tied to the program's text -/
theorem holds : Rows.FnExactReadRegCardSaid :=
  Claim7.holds_tied_plain_at .later [] [.data] true (true, "e3035ac579f6818a3ece69dd4c9a6cdcf9cd6f73e11cf327b846a075dbcbcec9") false
    rowHolds (fun _ h => by cases h) (by kernel_rfl) (fun _ h => by cases h) fnExactReadReg_row_tie rfl ⟨rfl, rfl⟩ (by kernel_rfl) rfl
    (fun f fn hf hfn => by
      obtain rfl : f = 5 := Option.some.inj ((show Tryd.prog.funcNamed "loop.example/g00358/laws.FnExactReadReg" = some 5 by kernel_rfl).symm.trans hf) |>.symm
      obtain rfl : fn = Tryd.f5 := (Option.some.inj (Tryd.func5.symm.trans hfn)).symm
      exact ⟨by kernel_rfl, fun j t ht => by
        rw [Tryd.params5] at ht
        have hm := Array.mem_of_getElem? ht
        have hall : (([9] : List TypeId).all fun t => Tryd.prog.wantsStandIn t == false) = true := by kernel_rfl
        have := List.all_eq_true.1 hall t (by simpa using hm)
        exact (beq_iff_eq.1 this)⟩)
    (by kernel_rfl)
end Go.Proofs.YthiijllhonbjhaaDoor.ReadReg
