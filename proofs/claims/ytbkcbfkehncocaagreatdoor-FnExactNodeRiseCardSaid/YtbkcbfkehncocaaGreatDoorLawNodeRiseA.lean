/- The walk of the law 'laws.FnExactNodeRise', first part. No condition beside those that each theorem states. -/
import Derived.Test.YtbkcbfkehncocaaGreatDoorRows
import Derived.Test.YtbkcbfkehncocaaGreatDoorCards
import Derived.Test.YtbkcbfkehncocaaGreatDoorTie
import Derived.Test.YtbkcbfkehncocaaGreatDoorRxPlain3Rise
import Derived.ProofKit
import Derived.SevenTiedAt
set_option linter.unusedVariables false
set_option linter.unusedSimpArgs false
namespace Go.Proofs.YtbkcbfkehncocaaGreatDoor.NodeRise
open Go.ChangeShapes Go.WideShapes Go.ChangeAt Go.RowKit Rx Rx.S Rx.N
theorem own : ownKnob Tryz.prog.godebug = none := by kernel_rfl
theorem Pbhv : laidOutB Tryz.prog = true := by kernel_rfl
theorem gn : Tryz.prog.globalNamed "loop.example/g00358/impl.shaWords" = some 0 := by kernel_rfl
theorem gt : (Tryz.prog.globals[0]?).map (·.type) = some 296 := by kernel_rfl
theorem ua : Tryz.prog.underlying 296 = some (.array 64 215) := by kernel_rfl
theorem ue : Tryz.prog.underlying 215 = some (.int .u32) := by kernel_rfl
theorem ca : Tryz.prog.cellsOf 296 = 64 := by kernel_rfl
theorem ce : Tryz.prog.cellsOf 215 = 1 := by kernel_rfl
theorem hone : (List.range Tryz.prog.globals.size).all (fun i => !tabOf Tryz.prog i || i == 0) = true := by kernel_rfl
theorem datum {H : Type} : (Rows.laid_loop_example_g00358_impl_shaWords : DataW H) = .agg (Qlr.map fun x => .lit (.int .u32 x)) := by kernel_rfl
theorem reads {H : Type} (enc : TypeId × Value → H) (W : World) (sp : Nat → Bool) (held : Bool) : DataW.trod enc Tryz.prog W 0 sp held 8 296 Qcf.toList = some (Rows.laid_loop_example_g00358_impl_shaWords, []) := by kernel_rfl
noncomputable def Pxj (os : Os) : World :=
 { World.holding Tryz.prog os ⟨#[], #[], []⟩ with heap := (World.holding Tryz.prog os ⟨#[], #[], []⟩).heap.modify 0 fun
   | .cells _ t frozen => .cells Qcf t frozen
   | o => o }
theorem Pvq (os : Os) : ((Pxj os).forCall (fun _ _ => 0) ⟨#[], #[.agg #[.int .i64 0, .int .i64 0, .bool false, .int .i64 0, .int .i64 0, .int .i64 0, .int .i64 0, .int .i64 0, .int .i64 0, .int .i64 0, .int .i64 0, .slice none 0 0, .int .i64 0, .slice none 0 0, .slice none 0 0, .slice none 0 0, .slice none 0 0, .slice none 0 0, .slice none 0 0, .int .i64 0, .int .i64 0, .string ⟨#[]⟩, .int .i64 0, .int .i64 0, .slice none 0 0, .slice none 0 0, .slice none 0 0, .int .i64 0, .int .i64 0, .int .i64 0]], []⟩).memory.heap[0]? = some (.cells Qcf 296 (0, 0)) := by kernel_rfl
set_option maxRecDepth 100000 in
theorem Pbik (os : Os) (started : os.Started) (H : Type) (enc : TypeId × Value → H) :
  ReturnsInHanded {} Tryz.checked os 6 .any (fun w args => (Rows.fnExactNodeRiseSpec.pre enc Tryz.prog Tryz.f6 [] false w args ∧ laidMet Tryz.prog [("loop.example/g00358/impl.shaWords", Rows.laid_loop_example_g00358_impl_shaWords)] w) ∧ sizedMet enc Tryz.prog Tryz.f6 (OpenSpec.ofChange Rows.fnExactNodeRiseSpec) false w args) (Rows.fnExactNodeRiseSpec.post enc Tryz.prog Tryz.f6 false true false false) := by
 refine returnsInHanded_of_change_and (C := Tryz.checked) (X := fun w _ => laidMet Tryz.prog [("loop.example/g00358/impl.shaWords", Rows.laid_loop_example_g00358_impl_shaWords)] w) (fun _ _ _ hh h => h.of_heap hh) own started (by kernel_rfl) Tryz.func6
  (ChangeSpec.witness_at (enc := enc) (C := Tryz.checked) (os := os) (X := fun w _ => laidMet Tryz.prog [("loop.example/g00358/impl.shaWords", Rows.laid_loop_example_g00358_impl_shaWords)] w) false (Pxj os) #[.agg #[.int .i64 0, .int .i64 0, .bool false, .int .i64 0, .int .i64 0, .int .i64 0, .int .i64 0, .int .i64 0, .int .i64 0, .int .i64 0, .int .i64 0, .slice none 0 0, .int .i64 0, .slice none 0 0, .slice none 0 0, .slice none 0 0, .slice none 0 0, .slice none 0 0, .slice none 0 0, .int .i64 0, .int .i64 0, .string ⟨#[]⟩, .int .i64 0, .int .i64 0, .slice none 0 0, .slice none 0 0, .slice none 0 0, .int .i64 0, .int .i64 0, .int .i64 0]] 8 rfl (by kernel_rfl) (by kernel_rfl) (by kernel_rfl) (by kernel_rfl) (by kernel_rfl)
   (Qqr gn gt (Pvq os) (reads _ _ _ _))) ?_
 intro W base args ds gs before hval0 hW _ _ hL _
 have hval : ∀ (j : Nat) t v, Tryz.f6.params[j]? = some t → args[j]? = some v → Value.okWide Tryz.prog W .any base t v := hval0
 have hW' := hW
 obtain ⟨p, q, hA0, hV0, rfl, hfz, hnd⟩ := hW
 have hA : DataW.TrodAll enc Tryz.prog W 0 (fun _ => true) true Tryz.f6.params.toList args.toList ds p := hA0
 have hV : DataW.TrodVars enc Tryz.prog W (fun _ => true) ["loop.example/g00358/impl.shaWords"] gs q := hV0
 rw [Tryz.params6] at hA hval
 obtain ⟨v0, d0, rfl, rfl, h0⟩ := trodAll_one hA
 have hvar := Qpi gn gt ua ue ce ca datum hL
 obtain ⟨g, t, cs, fuel, d, p', rfl, hg, ht, hvar0, hd, rfl⟩ := trodVars_one hV
 obtain rfl := Option.some.inj (gn.symm.trans hg)
 obtain rfl := Option.some.inj (gt.symm.trans ht)
 obtain rfl : cs = Qcf := Option.some.inj (hvar0.symm.trans hvar)
 obtain ⟨rfl, rfl⟩ := DataW.Trod.unique (v := .agg Qcf) ⟨fuel, hd⟩ ⟨8, reads enc W _ _⟩
 have hlt0 : ∀ x ∈ p, x.block < W.heap.size := fun x hx => hW'.lt x (List.mem_append_left _ (by simp [hx]))
 obtain ⟨l0, x0, e0, r0, w0⟩ := Qrs (n := 12) (agg := true) (c := (.pair (.int .i64) (.pair (.int .i64) (.pair .bool (.pair (.pair (.int .i64) (.pair (.int .i64) (.pair (.int .i64) (.pair (.int .i64) (.pair (.int .i64) (.pair (.int .i64) (.pair (.int .i64) (.pair (.int .i64) (.pair (.sl 189 (.pair (.int .i64) .str)) (.pair (.int .i64) (.pair (.sl 3 (.int .i64)) (.pair (.sl 3 (.int .i64)) (.sl 3 (.int .i64)))))))))))))) (.pair (.pair (.sl 191 (.pair .str (.pair .str (.int .i64)))) (.pair (.sl 3 (.int .i64)) (.sl 195 (.pair (.int .i64) (.pair (.int .i64) (.pair (.int .i64) (.pair (.int .i64) (.pair (.int .i64) (.pair .str (.pair (.int .i64) (.int .i64))))))))))) (.pair (.pair (.int .i64) (.pair (.int .i64) .str)) (.pair (.pair (.int .i64) (.pair (.int .i64) (.pair (.sl 197 (.pair (.int .i64) (.pair .str (.int .i64)))) (.pair (.sl 199 (.pair .str (.int .i64))) (.sl 201 (.pair (.int .i64) (.pair .str (.pair .str (.int .i64))))))))) (.pair (.int .i64) (.pair (.int .i64) (.int .i64))))))))))) (by kernel_rfl) (by kernel_rfl) (hval 0 38 v0 rfl rfl) h0
 obtain ⟨k, hk⟩ := Pxk x0 w0
 refine (Qqz (Pfm.ok k) rfl rfl (vs := [v0]) (vss := [l0]) (x := x0) (r := true) hk ⟨e0, trivial⟩ ⟨l0, rfl, r0, rfl⟩ ?_ (Qqd gn hvar hone)).mono ?_
 ·rintro w S' v rows' ⟨vs, h1, h2⟩
  cases h1
  have := h2.1
  cases this; rfl
 ·rintro e W' ⟨rfl, hb⟩
  exact ⟨_, rfl, _, _, _, [] ++ [], p, MemPlace.row ⟨0, 0, none⟩ Qcf.size ++ [] ++ [], hW', trodAll_mk1 (shut_bool Tryz.underlying4 true), trodAll_mk1 (Below.trod Pbhv (by kernel_rfl) (of_decide_eq_true (by kernel_rfl)) h0 hb hlt0), ⟨0, 296, Qcf, 8, [], [], gn, gt, Qre gn hvar hb, reads _ _ _ _, rfl, rfl⟩, hb.frame _, fun h => by cases h⟩
end Go.Proofs.YtbkcbfkehncocaaGreatDoor.NodeRise
