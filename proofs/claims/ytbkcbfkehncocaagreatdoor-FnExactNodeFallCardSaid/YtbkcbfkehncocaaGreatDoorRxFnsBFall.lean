/- Functions of the program as typed functions, each with its contract, shown by the evaluator's soundness. No condition. -/
import Derived.Test.YtbkcbfkehncocaaGreatDoorRxFnsAFall
import Derived.Test.YtbkcbfkehncocaaGreatDoorProg
import Derived.KernelRfl
set_option linter.unusedVariables false
set_option linter.unusedSimpArgs false
namespace Go.Proofs.YtbkcbfkehncocaaGreatDoor.Rx
open Go.Proofs
variable (k : Nat)
def Pjb.f (a0 : List T4) (a1 : T15) : Option (List T4 × Bool) :=
 (Pcu.f k a0).bind fun r1 => (Phg.f k a0 a1.2.1).bind fun r2 => bif decide (a1.1 = 1) then bif decide (a1.2.2.1 = Ze) then bif decide (r2 < 0) then (Pdn.f k r1 (a1.2.1, a1.2.2.2)).bind fun r3 => some (r3, true) else bif decide (a1.1 = 2) then bif decide (a1.2.2.2 = 0) then bif decide (0 ≤ r2) then bif !decide (a1.2.2.1 = a1.2.1) then (Pcz.f k a1.2.2.1).bind fun r4 => bif r4 then (Pad.f k r1 a1).bind fun r5 => (inb? a0.length r2).bind fun j6 => (a0[j6]?).bind fun y7 => (Pdn.f k r5 (a1.2.2.1, y7.2)).bind fun r8 => some (r8, true) else bif decide (a1.1 = 3) then bif decide (a1.2.2.1 = Ze) then bif decide (a1.2.2.2 = 0) then bif decide (0 ≤ r2) then (Pao.f k r1 r2 (Zr (r2 + 1))).bind fun r9 => some (r9, true) else some (r1, false) else some (r1, false) else some (r1, false) else some (r1, false) else bif decide (a1.1 = 3) then bif decide (a1.2.2.1 = Ze) then bif decide (a1.2.2.2 = 0) then bif decide (0 ≤ r2) then (Pao.f k r1 r2 (Zr (r2 + 1))).bind fun r10 => some (r10, true) else some (r1, false) else some (r1, false) else some (r1, false) else some (r1, false) else bif decide (a1.1 = 3) then bif decide (a1.2.2.1 = Ze) then bif decide (a1.2.2.2 = 0) then bif decide (0 ≤ r2) then (Pao.f k r1 r2 (Zr (r2 + 1))).bind fun r11 => some (r11, true) else some (r1, false) else some (r1, false) else some (r1, false) else some (r1, false) else bif decide (a1.1 = 3) then bif decide (a1.2.2.1 = Ze) then bif decide (a1.2.2.2 = 0) then bif decide (0 ≤ r2) then (Pao.f k r1 r2 (Zr (r2 + 1))).bind fun r12 => some (r12, true) else some (r1, false) else some (r1, false) else some (r1, false) else some (r1, false) else bif decide (a1.1 = 3) then bif decide (a1.2.2.1 = Ze) then bif decide (a1.2.2.2 = 0) then bif decide (0 ≤ r2) then (Pao.f k r1 r2 (Zr (r2 + 1))).bind fun r13 => some (r13, true) else some (r1, false) else some (r1, false) else some (r1, false) else some (r1, false) else bif decide (a1.1 = 2) then bif decide (a1.2.2.2 = 0) then bif decide (0 ≤ r2) then bif !decide (a1.2.2.1 = a1.2.1) then (Pcz.f k a1.2.2.1).bind fun r14 => bif r14 then (Pad.f k r1 a1).bind fun r15 => (inb? a0.length r2).bind fun j16 => (a0[j16]?).bind fun y17 => (Pdn.f k r15 (a1.2.2.1, y17.2)).bind fun r18 => some (r18, true) else bif decide (a1.1 = 3) then bif decide (a1.2.2.1 = Ze) then bif decide (a1.2.2.2 = 0) then bif decide (0 ≤ r2) then (Pao.f k r1 r2 (Zr (r2 + 1))).bind fun r19 => some (r19, true) else some (r1, false) else some (r1, false) else some (r1, false) else some (r1, false) else bif decide (a1.1 = 3) then bif decide (a1.2.2.1 = Ze) then bif decide (a1.2.2.2 = 0) then bif decide (0 ≤ r2) then (Pao.f k r1 r2 (Zr (r2 + 1))).bind fun r20 => some (r20, true) else some (r1, false) else some (r1, false) else some (r1, false) else some (r1, false) else bif decide (a1.1 = 3) then bif decide (a1.2.2.1 = Ze) then bif decide (a1.2.2.2 = 0) then bif decide (0 ≤ r2) then (Pao.f k r1 r2 (Zr (r2 + 1))).bind fun r21 => some (r21, true) else some (r1, false) else some (r1, false) else some (r1, false) else some (r1, false) else bif decide (a1.1 = 3) then bif decide (a1.2.2.1 = Ze) then bif decide (a1.2.2.2 = 0) then bif decide (0 ≤ r2) then (Pao.f k r1 r2 (Zr (r2 + 1))).bind fun r22 => some (r22, true) else some (r1, false) else some (r1, false) else some (r1, false) else some (r1, false) else bif decide (a1.1 = 3) then bif decide (a1.2.2.1 = Ze) then bif decide (a1.2.2.2 = 0) then bif decide (0 ≤ r2) then (Pao.f k r1 r2 (Zr (r2 + 1))).bind fun r23 => some (r23, true) else some (r1, false) else some (r1, false) else some (r1, false) else some (r1, false) else bif decide (a1.1 = 2) then bif decide (a1.2.2.2 = 0) then bif decide (0 ≤ r2) then bif !decide (a1.2.2.1 = a1.2.1) then (Pcz.f k a1.2.2.1).bind fun r24 => bif r24 then (Pad.f k r1 a1).bind fun r25 => (inb? a0.length r2).bind fun j26 => (a0[j26]?).bind fun y27 => (Pdn.f k r25 (a1.2.2.1, y27.2)).bind fun r28 => some (r28, true) else bif decide (a1.1 = 3) then bif decide (a1.2.2.1 = Ze) then bif decide (a1.2.2.2 = 0) then bif decide (0 ≤ r2) then (Pao.f k r1 r2 (Zr (r2 + 1))).bind fun r29 => some (r29, true) else some (r1, false) else some (r1, false) else some (r1, false) else some (r1, false) else bif decide (a1.1 = 3) then bif decide (a1.2.2.1 = Ze) then bif decide (a1.2.2.2 = 0) then bif decide (0 ≤ r2) then (Pao.f k r1 r2 (Zr (r2 + 1))).bind fun r30 => some (r30, true) else some (r1, false) else some (r1, false) else some (r1, false) else some (r1, false) else bif decide (a1.1 = 3) then bif decide (a1.2.2.1 = Ze) then bif decide (a1.2.2.2 = 0) then bif decide (0 ≤ r2) then (Pao.f k r1 r2 (Zr (r2 + 1))).bind fun r31 => some (r31, true) else some (r1, false) else some (r1, false) else some (r1, false) else some (r1, false) else bif decide (a1.1 = 3) then bif decide (a1.2.2.1 = Ze) then bif decide (a1.2.2.2 = 0) then bif decide (0 ≤ r2) then (Pao.f k r1 r2 (Zr (r2 + 1))).bind fun r32 => some (r32, true) else some (r1, false) else some (r1, false) else some (r1, false) else some (r1, false) else bif decide (a1.1 = 3) then bif decide (a1.2.2.1 = Ze) then bif decide (a1.2.2.2 = 0) then bif decide (0 ≤ r2) then (Pao.f k r1 r2 (Zr (r2 + 1))).bind fun r33 => some (r33, true) else some (r1, false) else some (r1, false) else some (r1, false) else some (r1, false)
theorem Pjb.ok : Yg 193 ⟨⟨[.v K11, .w K9], [.f K11, .f .bool]⟩, fun k (x : List T4 × T15) => Pjb.f k x.1 x.2⟩ := Yq 96 Yv (.m 3 (.seq (.blk (.n (.cond (.n .l) (.n (.cond (.n (.n .l)) .c))))) (.n .l))) Tryz.func193 (Yc Pcu.ok (Yc Phg.ok (Yc Pdn.ok (Yc Pcz.ok (Yc Pad.ok (Yc Pao.ok Yn))))))
def Paq.c0 (k : Nat) (y : Bool × List Int × List T4 × Int × Int × T0 × T4) : Option T40 :=
 (app? (limOf 8) y.2.1 ([y.2.2.2.2.2.2.2])).bind fun l1 => some (.inl (y.1, l1, y.2.2.1, y.2.2.2.1, Zr (y.2.2.2.2.1 + 1), y.2.2.2.2.2.1))
def Paq.b0 (s : Bool × List Int × List T4 × Int × Int × T0) : Option T40 :=
 bif decide (s.2.2.2.2.1 < s.2.2.2.1) then (inb? s.2.2.1.length s.2.2.2.2.1).bind fun j1 => (s.2.2.1[j1]?).bind fun y2 => Option.bind (α := (Bool × List Int × List T4 × Int × Int × T0 × T4) ⊕ Bool) ((Pcz.f k y2.1).bind fun r3 => bif !r3 then some (.inr false) else bif decide (0 < s.2.2.2.2.1) then (inb? s.2.2.2.2.2.2.2.2.1.length (Zr (s.2.2.2.2.1 - 1))).bind fun j4 => (s.2.2.2.2.2.2.2.2.1[j4]?).bind fun y5 => bif !strLt y5.1 y2.1 then some (.inr false) else (Pfb.f k s.2.2.2.2.2 y2.2).bind fun r6 => bif decide (r6 < 0) then some (.inr false) else (Pdb.f k s.2.1 y2.2).bind fun r7 => bif r7 then some (.inr false) else some (.inl (s.1, s.2.1, s.2.2.1, s.2.2.2.1, s.2.2.2.2.1, s.2.2.2.2.2, y2)) else (Pfb.f k s.2.2.2.2.2 y2.2).bind fun r8 => bif decide (r8 < 0) then some (.inr false) else (Pdb.f k s.2.1 y2.2).bind fun r9 => bif r9 then some (.inr false) else some (.inl (s.1, s.2.1, s.2.2.1, s.2.2.2.1, s.2.2.2.2.1, s.2.2.2.2.2, y2))) fun r => match r with | .inl y => Paq.c0 k y | .inr o => some (.inr (.inr o)) else some (.inr (.inl (s.1, s.2.1, s.2.2.2.2.2)))
def Paq.b1 (s : Bool × List Int × List T4 × List T15 × Int × Int × T0) : Option ((Bool × List Int × List T4 × List T15 × Int × Int × T0) ⊕ (Bool × List Int × T0) ⊕ Bool) :=
 bif decide (s.2.2.2.2.2.1 < s.2.2.2.2.1) then (inb? s.2.2.2.1.length s.2.2.2.2.2.1).bind fun j1 => (s.2.2.2.1[j1]?).bind fun y2 => (Pjb.f k s.2.2.1 y2).bind fun r3 => bif !r3.2 then some (.inr (.inr false)) else (Pcz.f k y2.2.1).bind fun r4 => bif !r4 then some (.inr (.inr false)) else bif decide (y2.1 = 1) then (Pfb.f k s.2.2.2.2.2.2 y2.2.2.2).bind fun r5 => bif decide (r5 < 0) then some (.inr (.inr false)) else (Pdb.f k s.2.1 y2.2.2.2).bind fun r6 => bif r6 then some (.inr (.inr false)) else (app? (limOf 8) s.2.1 ([y2.2.2.2])).bind fun l7 => some (.inl (s.1, l7, r3.1, s.2.2.2.1, s.2.2.2.2.1, Zr (s.2.2.2.2.2.1 + 1), s.2.2.2.2.2.2)) else some (.inl (s.1, s.2.1, r3.1, s.2.2.2.1, s.2.2.2.2.1, Zr (s.2.2.2.2.2.1 + 1), s.2.2.2.2.2.2)) else some (.inr (.inl (s.1, s.2.1, s.2.2.2.2.2.2)))
def Paq.d1 (k : Nat) (y : Bool × List Int × T0) : Option Bool :=
 some (decide ((y.2.1.length : Int) = (y.2.2.2.2.1.length : Int)))
def Paq.d0 (y : Bool × List Int × T0) : Option Bool :=
 (Pcu.f k y.2.2.2.2.2.1).bind fun r1 => (iter (X := (Bool × List Int × T0) ⊕ Bool) (Paq.b1 k) k (y.1, y.2.1, r1, y.2.2.2.2.2.2, (y.2.2.2.2.2.2.length : Int), 0, y.2.2)).bind fun r => match r with | .inl y => Paq.d1 k y | .inr o => some o
def Paq.f (a0 : T0) : Option Bool :=
 (iter (X := (Bool × List Int × T0) ⊕ Bool) (Paq.b0 k) k (false, [], a0.2.2.2.1, (a0.2.2.2.1.length : Int), 0, a0)).bind fun r => match r with | .inl y => Paq.d0 k y | .inr o => some o
theorem Paq.ok : Yg 101 ⟨⟨[.w K2], [.f .bool]⟩, fun k (x : T0) => Paq.f k x⟩ := Yq 110 (Yk 3 K0 Yv) (.n (.n (.seq (.n (.lp [.ptr 1 1000, .s 2 .bool, .o 3 K17, .s 13 K11, .s 14 K0, .s 15 K0, .box 1000 53 K2 false false] 71 (.n (.seq (.cond .l .l) (.seq (.blk (.n (.seq (.cut [.ptr 1 1000, .s 2 .bool, .o 3 K17, .ptr 5 5003, .s 13 K11, .s 14 K0, .s 15 K0, .box 1000 53 K2 false false, .box 5003 114 K5 false false] .c) .l))) .l))))) (.n (.seq (.n (.lp [.ptr 1 1000, .s 2 .bool, .o 3 K17, .o 6 K11, .s 63 K29, .s 64 K0, .s 65 K0, .box 1000 53 K2 false false] 135 (.n (.seq (.cond .l .l) (.seq (.blk (.n (.n (.seq .c (.seq (.n (.cond (.seq .c .l) .l)) .l))))) .l))))) (.n .l)))))) Tryz.func101 (Yc Pcz.ok (Yc Pfb.ok (Yc Pdb.ok (Yc Pcu.ok (Yc Pjb.ok Yn)))))
def Pcl.b0 (s : Bool × List T12 × Int × Int × T0) : Option ((Bool × List T12 × Int × Int × T0) ⊕ (Bool × T0) ⊕ Bool) :=
 bif decide (s.2.2.2.1 < s.2.2.1) then (inb? s.2.1.length s.2.2.2.1).bind fun j1 => (s.2.1[j1]?).bind fun y2 => (Paa.f k y2.1 1 (Zr (s.2.2.2.2.2.1 - 1))).bind fun r3 => bif !r3 then some (.inr (.inr false)) else bif decide (0 < s.2.2.2.1) then (inb? s.2.2.2.2.2.2.1.length (Zr (s.2.2.2.1 - 1))).bind fun j4 => (s.2.2.2.2.2.2.1[j4]?).bind fun y5 => bif decide (y2.1 ≤ y5.1) then some (.inr (.inr false)) else (Paa.f k y2.2.2 0 (y2.2.1.size : Int)).bind fun r6 => bif !r6 then some (.inr (.inr false)) else some (.inl (s.1, s.2.1, s.2.2.1, Zr (s.2.2.2.1 + 1), s.2.2.2.2)) else (Paa.f k y2.2.2 0 (y2.2.1.size : Int)).bind fun r7 => bif !r7 then some (.inr (.inr false)) else some (.inl (s.1, s.2.1, s.2.2.1, Zr (s.2.2.2.1 + 1), s.2.2.2.2)) else some (.inr (.inl (s.1, s.2.2.2.2)))
def Pcl.d0 (y : Bool × T0) : Option Bool :=
 (Paq.f k y.2).bind fun r1 => some r1
def Pcl.f (a0 : T0) : Option Bool :=
 (Paa.f k a0.1 0 1048576).bind fun r1 => bif !r1 then some false else (Paa.f k a0.2.1 1 1000000).bind fun r2 => bif !r2 then some false else bif decide (10 < (a0.2.2.1.length : Int)) then some false else (Pde.f k a0).bind fun r3 => bif decide (a0.1 < r3) then some false else bif decide (20 < (a0.2.2.2.2.length : Int)) then some false else (iter (X := (Bool × T0) ⊕ Bool) (Pcl.b0 k) k (false, a0.2.2.1, (a0.2.2.1.length : Int), 0, a0)).bind fun r => match r with | .inl y => Pcl.d0 k y | .inr o => some o
theorem Pcl.ok : Yg 42 ⟨⟨[.w K2], [.f .bool]⟩, fun k (x : T0) => Pcl.f k x⟩ := Yq 77 Yv (.n (.seq .c (.seq (.n (.lp [.ptr 1 1000, .s 2 .bool, .s 35 K20, .s 36 K0, .s 37 K0, .box 1000 53 K2 false false] 35 (.n (.seq (.cond .l .l) (.seq (.blk (.n .c)) .l))))) (.n .l)))) Tryz.func42 (Yc Paa.ok (Yc Pde.ok (Yc Paq.ok Yn)))
def Plr.f (a0 : Int) (a1 : Int) : Option Bool :=
 (Paa.f k a0 0 20).bind fun r1 => bif r1 then (Paa.f k a1 0 1048576).bind fun r2 => some r2 else some false
theorem Plr.ok : Yg 43 ⟨⟨[.v K0, .v K0], [.f .bool]⟩, fun k (x : T8) => Plr.f k x.1 x.2⟩ := Yq 11 Yv (.n (.n .l)) Tryz.func43 (Yc Paa.ok Yn)
def Pbd.f (k : Nat) (a0 : List T10) : Option (List T10) :=
 (app? (limOf 24) [] a0).bind fun l1 => some l1
theorem Pbd.ok : Yg 211 ⟨⟨[.v K23], [.f K23]⟩, fun k (x : List T10) => Pbd.f k x⟩ := Yq 5 (Yk 145 K8 Yv) (.n (.n .l)) Tryz.func211 Yn
def Pei.f (a0 : T2) : Option T3 :=
 (Pbd.f k a0.2.2.2.2.2.2.2.2.1).bind fun r1 => some (a0.2.2.1, a0.2.2.2.1, a0.2.2.2.2.2.2.1, a0.2.2.2.2.2.2.2.1, r1)
theorem Pei.ok : Yg 108 ⟨⟨[.box 43 K4 false false], [.t K6]⟩, fun k (x : T2) => Pei.f k x⟩ := Yq 25 Yv (.n (.n .l)) Tryz.func108 (Yc Pbd.ok Yn)
def Phe.f (a0 : Int) : Option Bool :=
 (Paa.f k a0 0 100000).bind fun r1 => some r1
theorem Phe.ok : Yg 255 ⟨⟨[.v K0], [.f .bool]⟩, fun k (x : Int) => Phe.f k x⟩ := Yq 5 Yv (.n (.n .l)) Tryz.func255 (Yc Paa.ok Yn)
def Phf.f (a0 : Int) : Option Bool :=
 (Paa.f k a0 (-1) 4).bind fun r1 => some r1
theorem Phf.ok : Yg 256 ⟨⟨[.v K0], [.f .bool]⟩, fun k (x : Int) => Phf.f k x⟩ := Yq 5 Yv (.n (.n .l)) Tryz.func256 (Yc Paa.ok Yn)
def Pgo.f (a0 : Int) (a1 : Int) : Option Bool :=
 bif decide (a0 = 0) then bif decide (a1 = 0) then some true else (Paa.f k a0 1 100000).bind fun r1 => bif r1 then (Paa.f k a1 1 100000).bind fun r2 => some r2 else some false else (Paa.f k a0 1 100000).bind fun r3 => bif r3 then (Paa.f k a1 1 100000).bind fun r4 => some r4 else some false
theorem Pgo.ok : Yg 257 ⟨⟨[.v K0, .v K0], [.f .bool]⟩, fun k (x : T8) => Pgo.f k x.1 x.2⟩ := Yq 19 Yv (.n (.n .l)) Tryz.func257 (Yc Paa.ok Yn)
def Pfl.f (k : Nat) (a0 : T3) : Option Int :=
 some (Zr (a0.2.2.1 + (a0.2.2.2.2.length : Int)))
theorem Pfl.ok : Yg 258 ⟨⟨[.w K6], [.f K0]⟩, fun k (x : T3) => Pfl.f k x⟩ := Yq 9 Yv (.n (.n .l)) Tryz.func258 Yn
def Pfc.b0 (s : Bool × Int × List T10 × Int × Int × T3) : Option ((Bool × Int × List T10 × Int × Int × T3) ⊕ Bool ⊕ Bool) :=
 bif decide (s.2.2.2.2.1 < s.2.2.2.1) then (inb? s.2.2.1.length s.2.2.2.2.1).bind fun j1 => (s.2.2.1[j1]?).bind fun y2 => bif decide (900 < (y2.2.size : Int)) then some (.inr (.inr false)) else (Paa.f k y2.1 s.2.1 s.2.2.2.2.2.1).bind fun r3 => bif !r3 then some (.inr (.inr false)) else some (.inl (s.1, y2.1, s.2.2.1, s.2.2.2.1, Zr (s.2.2.2.2.1 + 1), s.2.2.2.2.2)) else some (.inr (.inl s.1))
def Pfc.d0 (k : Nat) (y : Bool) : Option Bool :=
 some true
def Pfc.f (a0 : T3) : Option Bool :=
 (Phe.f k a0.1).bind fun r1 => bif !r1 then some false else (Phf.f k a0.2.1).bind fun r2 => bif !r2 then some false else (Pgo.f k a0.2.2.1 a0.2.2.2.1).bind fun r3 => bif !r3 then some false else bif decide (a0.1 < a0.2.2.2.1) then some false else bif decide (60 < (a0.2.2.2.2.length : Int)) then some false else (Pfl.f k a0).bind fun r4 => bif decide (100000 < r4) then some false else (iter (X := Bool ⊕ Bool) (Pfc.b0 k) k (false, (if a0.2.2.2.1 > 1 then a0.2.2.2.1 else 1), a0.2.2.2.2, (a0.2.2.2.2.length : Int), 0, a0)).bind fun r => match r with | .inl y => Pfc.d0 k y | .inr o => some o
theorem Pfc.ok : Yg 194 ⟨⟨[.w K6], [.f .bool]⟩, fun k (x : T3) => Pfc.f k x⟩ := Yq 68 Yv (.n (.seq .c (.n (.seq (.n (.lp [.ptr 1 1000, .s 2 .bool, .s 3 K0, .s 46 K23, .s 47 K0, .s 48 K0, .box 1000 77 K6 false false] 2 (.n (.seq (.cond .l .l) (.seq (.blk (.n (.seq .c .l))) .l))))) (.n .l))))) Tryz.func194 (Yc Phe.ok (Yc Phf.ok (Yc Pgo.ok (Yc Pfl.ok (Yc Paa.ok Yn)))))
def Pee.f (k : Nat) (a0 : T2) : Option Int :=
 some (Zr (a0.2.2.2.2.2.2.1 + (a0.2.2.2.2.2.2.2.2.1.length : Int)))
theorem Pee.ok : Yg 195 ⟨⟨[.box 43 K4 false false], [.f K0]⟩, fun k (x : T2) => Pee.f k x⟩ := Yq 13 Yv (.n (.n .l)) Tryz.func195 Yn
def Pio.f (k : Nat) (a0 : T2) (a1 : Int) : Option Bool :=
 some (decide (a0.2.1 < Zr (2 * a1)))
theorem Pio.ok : Yg 259 ⟨⟨[.box 43 K4 false false, .v K0], [.f .bool]⟩, fun k (x : T2 × Int) => Pio.f k x.1 x.2⟩ := Yq 12 Yv (.n (.n .l)) Tryz.func259 Yn
def Pcg.b0 (s : Bool × List Int × Int × Int × T2) : Option ((Bool × List Int × Int × Int × T2) ⊕ (Bool × T2) ⊕ Bool) :=
 bif decide (s.2.2.2.1 < s.2.2.1) then (inb? s.2.1.length s.2.2.2.1).bind fun j1 => (s.2.1[j1]?).bind fun y2 => (Paa.f k y2 0 (Zr (s.2.2.2.2.2.1 - 1))).bind fun r3 => bif !r3 then some (.inr (.inr false)) else bif decide (0 < s.2.2.2.1) then (inb? s.2.2.2.2.2.2.2.2.2.2.2.2.2.2.1.length (Zr (s.2.2.2.1 - 1))).bind fun j4 => (s.2.2.2.2.2.2.2.2.2.2.2.2.2.2.1[j4]?).bind fun y5 => bif decide (y2 ≤ y5) then some (.inr (.inr false)) else some (.inl (s.1, s.2.1, s.2.2.1, Zr (s.2.2.2.1 + 1), s.2.2.2.2)) else some (.inl (s.1, s.2.1, s.2.2.1, Zr (s.2.2.2.1 + 1), s.2.2.2.2)) else some (.inr (.inl (s.1, s.2.2.2.2)))
def Pcg.d0 (y : Bool × T2) : Option Bool :=
 (Pdb.f k y.2.2.2.2.2.2.2.2.2.2.2.1 y.2.1).bind fun r1 => bif r1 then (Pio.f k y.2 (y.2.2.2.2.2.2.2.2.2.2.2.1.length : Int)).bind fun r2 => some (!r2) else some false
def Pcg.f (a0 : T2) : Option Bool :=
 (iter (X := (Bool × T2) ⊕ Bool) (Pcg.b0 k) k (false, a0.2.2.2.2.2.2.2.2.2.2.1, (a0.2.2.2.2.2.2.2.2.2.2.1.length : Int), 0, a0)).bind fun r => match r with | .inl y => Pcg.d0 k y | .inr o => some o
theorem Pcg.ok : Yg 196 ⟨⟨[.box 43 K4 false false], [.f .bool]⟩, fun k (x : T2) => Pcg.f k x⟩ := Yq 59 Yv (.n (.seq (.n (.lp [.ptr 0 1, .s 2 .bool, .s 8 K17, .s 9 K0, .s 10 K0, .box 1 43 K4 false true] 35 (.n (.seq (.cond .l .l) (.seq (.blk (.n .c)) .l))))) (.n .l))) Tryz.func196 (Yc Paa.ok (Yc Pdb.ok (Yc Pio.ok Yn)))
def Pcc.b0 (s : Bool × List Int × Int × Int × T2) : Option ((Bool × List Int × Int × Int × T2) ⊕ (Bool × T2) ⊕ Bool) :=
 bif decide (s.2.2.2.1 < s.2.2.1) then (inb? s.2.1.length s.2.2.2.1).bind fun j1 => (s.2.1[j1]?).bind fun y2 => bif decide (y2 < 0) then some (.inr (.inr false)) else (inb? s.2.2.2.2.2.2.2.2.2.2.2.2.2.2.2.1.length s.2.2.2.1).bind fun j3 => (s.2.2.2.2.2.2.2.2.2.2.2.2.2.2.2.1[j3]?).bind fun y4 => bif decide (y4 ≤ y2) then some (.inr (.inr false)) else (inb? s.2.2.2.2.2.2.2.2.2.2.2.2.2.2.2.1.length s.2.2.2.1).bind fun j5 => (s.2.2.2.2.2.2.2.2.2.2.2.2.2.2.2.1[j5]?).bind fun y6 => (Pee.f k s.2.2.2.2).bind fun r7 => bif decide (Zr (r7 + 1) < y6) then some (.inr (.inr false)) else some (.inl (s.1, s.2.1, s.2.2.1, Zr (s.2.2.2.1 + 1), s.2.2.2.2)) else some (.inr (.inl (s.1, s.2.2.2.2)))
def Pcc.d0 (y : Bool × T2) : Option Bool :=
 (inb? y.2.2.2.2.2.2.2.2.2.2.2.2.2.length y.2.1).bind fun j1 => (y.2.2.2.2.2.2.2.2.2.2.2.2.2[j1]?).bind fun y2 => (Pee.f k y.2).bind fun r3 => some (decide (y2 = r3))
def Pcc.f (a0 : T2) : Option Bool :=
 bif decide (0 < (a0.2.2.2.2.2.2.2.2.2.2.1.length : Int)) then some false else bif !decide ((a0.2.2.2.2.2.2.2.2.2.2.2.1.length : Int) = a0.2.1) then some false else bif !decide ((a0.2.2.2.2.2.2.2.2.2.2.2.2.length : Int) = a0.2.1) then some false else (iter (X := (Bool × T2) ⊕ Bool) (Pcc.b0 k) k (false, a0.2.2.2.2.2.2.2.2.2.2.2.2, (a0.2.2.2.2.2.2.2.2.2.2.2.2.length : Int), 0, a0)).bind fun r => match r with | .inl y => Pcc.d0 k y | .inr o => some o
theorem Pcc.ok : Yg 197 ⟨⟨[.box 43 K4 false false], [.f .bool]⟩, fun k (x : T2) => Pcc.f k x⟩ := Yq 85 Yv (.n (.seq .c (.seq (.n (.lp [.ptr 0 1, .s 2 .bool, .s 38 K17, .s 39 K0, .s 40 K0, .box 1 43 K4 false true] 35 (.n (.seq (.cond .l .l) (.seq (.blk (.n .c)) .l))))) (.n .l)))) Tryz.func197 (Yc Pee.ok Yn)
def Pjw.f (a0 : T2) : Option Bool :=
 (Paa.f k a0.2.1 1 5).bind fun r1 => bif !r1 then some false else (Paa.f k a0.1 0 (Zr (a0.2.1 - 1))).bind fun r2 => bif !r2 then some false else (Pei.f k a0).bind fun r3 => (Pfc.f k r3).bind fun r4 => bif !r4 then some false else bif decide (a0.2.1 ≤ a0.2.2.2.1) then some false else (Pee.f k a0).bind fun r5 => (Paa.f k a0.2.2.2.2.2.2.2.2.2.1 a0.2.2.2.2.2.2.1 r5).bind fun r6 => bif !r6 then some false else bif decide (a0.2.2.2.2.1 = 1) then (Paa.f k a0.2.2.2.2.2.1 (-1) (Zr (a0.2.1 - 1))).bind fun r7 => bif r7 then bif !decide (a0.2.2.2.2.2.1 = a0.1) then some (decide (Zr ((Zr ((a0.2.2.2.2.2.2.2.2.2.2.1.length : Int) + (a0.2.2.2.2.2.2.2.2.2.2.2.1.length : Int))) + (a0.2.2.2.2.2.2.2.2.2.2.2.2.length : Int)) = 0)) else some false else some false else bif decide (a0.2.2.2.2.1 = 2) then bif decide (1 ≤ a0.2.2.1) then bif decide (a0.2.2.2.1 = a0.1) then bif decide (a0.2.2.2.2.2.1 = (-1)) then (Pcg.f k a0).bind fun r8 => bif r8 then some (decide (Zr ((a0.2.2.2.2.2.2.2.2.2.2.2.1.length : Int) + (a0.2.2.2.2.2.2.2.2.2.2.2.2.length : Int)) = 0)) else some false else some false else some false else some false else bif decide (a0.2.2.2.2.1 = 3) then bif decide (1 ≤ a0.2.2.1) then bif decide (a0.2.2.2.1 = a0.1) then bif decide (a0.2.2.2.2.2.1 = a0.1) then (Pcc.f k a0).bind fun r9 => some r9 else some false else some false else some false else some false
theorem Pjw.ok : Yg 102 ⟨⟨[.w K4], [.f .bool]⟩, fun k (x : T2) => Pjw.f k x⟩ := Yq 120 Yv (.n (.seq .c (.seq (.n (.blk (.n (.cond (.n .l) (.n (.cond (.n .l) .c)))))) (.n .l)))) Tryz.func102 (Yc Paa.ok (Yc Pei.ok (Yc Pfc.ok (Yc Pee.ok (Yc Pcg.ok (Yc Pcc.ok Yn))))))
def Pdx.f (a0 : T13) (a1 : Int) : Option (Zb × T13) :=
 bif a0.2 then some (Ze, a0.1, true) else (Paa.f k a1 0 (a0.1.size : Int)).bind fun r1 => bif !r1 then some (Ze, a0.1, true) else (cut? a0.1.size 0 a1).bind fun p2 => (cut? a0.1.size a1 a0.1.size).bind fun p3 => some (a0.1.extract p2.1 p2.2, a0.1.extract p3.1 p3.2, a0.2)
theorem Pdx.ok : Yg 260 ⟨⟨[.box 249 K27 false true, .v K0], [.f .str]⟩, fun k (x : T13 × Int) => Pdx.f k x.1 x.2⟩ := Yq 39 Yv (.n (.seq (.n (.cond (.n (.n .l)) .l)) (.m 3 .l))) Tryz.func260 (Yc Paa.ok Yn)
def Pcf.b0 (k : Nat) (s : Int × T16) : Option ((Int × T16) ⊕ (Int × T16) ⊕ Zb) :=
 bif decide (127 < s.1) then (app? (limOf 1) s.2.2 ([IntKind.wrap .u8 (bits .or .i64 (bits .and .i64 s.1 127) 128)])).bind fun l1 => some (.inl (Int.fdiv s.1 (2 ^ (min (7 : Int).toNat (IntKind.bits .i64))), s.2.1, l1)) else some (.inr (.inl s))
def Pcf.d0 (k : Nat) (y : Int × T16) : Option Zb :=
 (app? (limOf 1) y.2.2 ([IntKind.wrap .u8 (y.1)])).bind fun l1 => some (strOfNums l1)
def Pcf.f (a0 : Int) : Option Zb :=
 (Paa.f k a0 0 562949953421311).bind fun r1 => bif !r1 then some Ze else (iter (X := (Int × T16) ⊕ Zb) (Pcf.b0 k) k (a0, Ze, [])).bind fun r => match r with | .inl y => Pcf.d0 k y | .inr o => some o
theorem Pcf.ok : Yg 235 ⟨⟨[.v K0], [.f .str]⟩, fun k (x : Int) => Pcf.f k x⟩ := Yq 25 (Yk 5 K30 Yv) (.n (.seq .c (.n (.seq (.lp [.s 0 K0, .s 2 .str, .o 3 (.sl 5 K30)] 7 (.seq (.n (.cond .l .l)) (.blk (.n .l)))) (.n .l))))) Tryz.func235 (Yc Paa.ok Yn)
def Pdk.b0 (s : T44) : Option (T44 ⊕ T8 ⊕ T8) :=
 bif decide (s.2.2.2.2 < (s.1.size : Int)) then bif decide (s.2.2.2.2 < 7) then (inb? s.1.size s.2.2.2.2).bind fun j1 => if Zr (7 * s.2.2.2.2) < 0 then none else (inb? s.1.size s.2.2.2.2).bind fun j2 => bif decide (Qmy s.1 j2 < 128) then (Pcf.f k (bits .or .i64 s.2.2.2.1 (Zr ((Zr (bits .and .u8 (Qmy s.1 j1) 127)) * 2 ^ (min (Zr (7 * s.2.2.2.2)).toNat (IntKind.bits .i64)))))).bind fun r3 => (cut? s.1.size 0 (Zr (s.2.2.2.2 + 1))).bind fun p4 => bif !decide (r3 = s.1.extract p4.1 p4.2) then some (.inr (.inr (0, 0))) else some (.inr (.inr (bits .or .i64 s.2.2.2.1 (Zr ((Zr (bits .and .u8 (Qmy s.1 j1) 127)) * 2 ^ (min (Zr (7 * s.2.2.2.2)).toNat (IntKind.bits .i64)))), Zr (s.2.2.2.2 + 1)))) else some (.inl (s.1, s.2.1, s.2.2.1, bits .or .i64 s.2.2.2.1 (Zr ((Zr (bits .and .u8 (Qmy s.1 j1) 127)) * 2 ^ (min (Zr (7 * s.2.2.2.2)).toNat (IntKind.bits .i64)))), Zr (s.2.2.2.2 + 1))) else some (.inr (.inl (s.2.1, s.2.2.1))) else some (.inr (.inl (s.2.1, s.2.2.1)))
def Pdk.d0 (k : Nat) (y : T8) : Option T8 :=
 some (0, 0)
def Pdk.f (a0 : Zb) : Option T8 :=
 (iter (X := T8 ⊕ T8) (Pdk.b0 k) k (a0, 0, 0, 0, 0)).bind fun r => match r with | .inl y => Pdk.d0 k y | .inr o => some o
theorem Pdk.ok : Yg 266 ⟨⟨[.v .str], [.f K0, .f K0]⟩, fun k (x : Zb) => Pdk.f k x⟩ := Yq 40 Yv (.n (.n (.seq (.n (.lp [.s 0 .str, .s 2 K0, .s 3 K0, .s 4 K0, .s 5 K0] 6 (.seq (.n (.cond .l .l)) (.seq (.blk (.n (.n (.cond (.seq .c (.n .l)) .l)))) .l)))) (.n .l)))) Tryz.func266 (Yc Pcf.ok Yn)
def Pax.f (a0 : T13) : Option (Int × T13) :=
 (Pdk.f k a0.1).bind fun r1 => bif a0.2 then some (0, a0.1, true) else bif decide (r1.2 = 0) then some (0, a0.1, true) else (cut? a0.1.size r1.2 a0.1.size).bind fun p2 => some (r1.1, a0.1.extract p2.1 p2.2, a0.2)
theorem Pax.ok : Yg 206 ⟨⟨[.box 249 K27 false true], [.f K0]⟩, fun k (x : T13) => Pax.f k x⟩ := Yq 34 Yv (.n (.n (.seq (.n (.cond (.n (.n .l)) .l)) (.n (.n .l))))) Tryz.func206 (Yc Pdk.ok Yn)
def Pcv.c0 (k : Nat) (y : Int × Int × T13) : Option (Int × T13) :=
 bif y.2.2.2 then some (0, y.2.2) else some y.2
def Pcv.f (a0 : T13) (a1 : Int) : Option (Int × T13) :=
 (Pax.f k a0).bind fun r1 => Option.bind (α := (Int × Int × T13) ⊕ (Int × T13)) (bif decide (a1 < r1.1) then some (.inl (0, r1.1, r1.2.1, true)) else some (.inl (0, r1))) fun r => match r with | .inl y => Pcv.c0 k y | .inr o => some o
theorem Pcv.ok : Yg 203 ⟨⟨[.box 249 K27 false true, .v K0], [.f K0]⟩, fun k (x : T13 × Int) => Pcv.f k x.1 x.2⟩ := Yq 19 Yv (.n (.n (.seq (.cut [.ptr 0 1, .s 4 K0, .s 5 K0, .box 1 249 K27 false false] (.n (.cond .l .l))) (.seq .c (.n .l))))) Tryz.func203 (Yc Pax.ok Yn)
def Pjc.f (k : Nat) (a0 : List Zb) (a1 : Int) : Option Zb :=
 bif decide (a1 < 256) then some (strOfNums ([IntKind.wrap .u8 (a1)])) else (inb? a0.length (Zr (a1 - 256))).bind fun j1 => (a0[j1]?).bind fun y2 => some y2
theorem Pjc.ok : Yg 312 ⟨⟨[.v K24, .v K0], [.f .str]⟩, fun k (x : T17) => Pjc.f k x.1 x.2⟩ := Yq 16 (Yk 5 K30 Yv) (.n (.seq .c (.n .l))) Tryz.func312 Yn
def Pbr.b0 (k : Nat) (s : List Zb × T29) : Option ((List Zb × T29) ⊕ Int ⊕ Int) :=
 bif decide (s.2.2.2.2 < s.2.2.2.1) then (inb? s.1.length s.2.2.2.2).bind fun j1 => (s.1[j1]?).bind fun y2 => bif decide (s.2.1 = y2) then some (.inr (.inr s.2.2.2.2)) else some (.inl (s.1, s.2.1, s.2.2.1, s.2.2.2.1, Zr (s.2.2.2.2 + 1))) else some (.inr (.inl s.2.2.1))
def Pbr.d0 (k : Nat) (y : Int) : Option Int :=
 some (-1)
def Pbr.f (a0 : List Zb) (a1 : Zb) : Option Int :=
 (iter (X := Int ⊕ Int) (Pbr.b0 k) k (a0, a1, 0, (a0.length : Int), 0)).bind fun r => match r with | .inl y => Pbr.d0 k y | .inr o => some o
theorem Pbr.ok : Yg 315 ⟨⟨[.v K24, .v .str], [.f K0]⟩, fun k (x : List Zb × Zb) => Pbr.f k x.1 x.2⟩ := Yq 19 Yv (.n (.seq (.n (.lp [.s 0 K24, .s 1 .str, .s 4 K0, .s 7 K0, .s 8 K0] 4 (.n (.seq (.cond .l .l) (.seq (.blk (.n .c)) .l))))) (.n .l))) Tryz.func315 Yn
def Pdw.f (a0 : List Zb) (a1 : Zb) : Option Bool :=
 (Pbr.f k a0 a1).bind fun r1 => some (decide (0 ≤ r1))
theorem Pdw.ok : Yg 313 ⟨⟨[.v K24, .v .str], [.f .bool]⟩, fun k (x : List Zb × Zb) => Pdw.f k x.1 x.2⟩ := Yq 9 Yv (.n (.n .l)) Tryz.func313 (Yc Pbr.ok Yn)
def Pem.b0 (s : List Zb × Bool × List Zb × List T8 × T8) : Option ((List Zb × Bool × List Zb × List T8 × T8) ⊕ T27 ⊕ T20) :=
 bif decide (s.2.2.2.2.2 < s.2.2.2.2.1) then (inb? s.2.2.2.1.length s.2.2.2.2.2).bind fun j1 => (s.2.2.2.1[j1]?).bind fun y2 => (Paa.f k y2.1 0 (Zr (255 + s.2.2.2.2.2))).bind fun r3 => bif !r3 then some (.inr (.inr (s.2.2.1, false))) else (Paa.f k y2.2 0 (Zr (255 + s.2.2.2.2.2))).bind fun r4 => bif !r4 then some (.inr (.inr (s.2.2.1, false))) else (Pjc.f k s.2.2.1 y2.1).bind fun r5 => (Pjc.f k s.2.2.1 y2.2).bind fun r6 => (cat? r5 r6).bind fun s7 => bif decide (24 < (s7.size : Int)) then some (.inr (.inr (s.2.2.1, false))) else (Pdw.f k s.2.2.1 s7).bind fun r8 => bif r8 then some (.inr (.inr (s.2.2.1, false))) else (app? (limOf 16) s.2.2.1 ([s7])).bind fun l9 => some (.inl (s.1, s.2.1, l9, s.2.2.2.1, s.2.2.2.2.1, Zr (s.2.2.2.2.2 + 1))) else some (.inr (.inl (s.1, s.2.1, s.2.2.1)))
def Pem.d0 (k : Nat) (y : T27) : Option T20 :=
 some (y.2.2, true)
def Pem.f (a0 : List T8) : Option T20 :=
 bif decide (60 < (a0.length : Int)) then some ([], false) else (iter (X := T27 ⊕ T20) (Pem.b0 k) k ([], false, [], a0, (a0.length : Int), 0)).bind fun r => match r with | .inl y => Pem.d0 k y | .inr o => some o
theorem Pem.ok : Yg 309 ⟨⟨[.v K18], [.f K24, .f .bool]⟩, fun k (x : List T8) => Pem.f k x⟩ := Yq 59 (Yk 9 .str Yv) (.n (.n (.seq .c (.seq (.n (.lp [.o 2 K24, .s 3 .bool, .o 4 K24, .s 13 K18, .s 14 K0, .s 15 K0] 7 (.n (.seq (.cond .l .l) (.seq (.blk (.n (.seq .c (.n (.seq .c .l))))) .l))))) (.n .l))))) Tryz.func309 (Yc Paa.ok (Yc Pjc.ok (Yc Pdw.ok Yn)))
def Pja.f (a0 : List T8) : Option Bool :=
 (Pem.f k a0).bind fun r1 => some r1.2
theorem Pja.ok : Yg 297 ⟨⟨[.w K18], [.f .bool]⟩, fun k (x : List T8) => Pja.f k x⟩ := Yq 12 Yv (.m 3 .l) Tryz.func297 (Yc Pem.ok Yn)
def Pew.b0 (s : Zb × Zb × List T8 × T8) : Option ((Zb × Zb × List T8 × T8) ⊕ T14 ⊕ Zb) :=
 bif decide (s.2.2.2.2 < s.2.2.2.1) then (inb? s.2.2.1.length s.2.2.2.2).bind fun j1 => (s.2.2.1[j1]?).bind fun y2 => (Pcf.f k y2.1).bind fun r3 => (cat? s.2.1 r3).bind fun s4 => (Pcf.f k y2.2).bind fun r5 => (cat? s4 r5).bind fun s6 => some (.inl (s.1, s6, s.2.2.1, s.2.2.2.1, Zr (s.2.2.2.2 + 1))) else some (.inr (.inl (s.1, s.2.1)))
def Pew.d0 (k : Nat) (y : T14) : Option Zb :=
 some y.2
def Pew.f (a0 : List T8) : Option Zb :=
 (Pja.f k a0).bind fun r1 => bif !r1 then some Ze else (Pcf.f k (a0.length : Int)).bind fun r2 => (cat? Zl1 r2).bind fun s3 => (iter (X := T14 ⊕ Zb) (Pew.b0 k) k (Ze, s3, a0, (a0.length : Int), 0)).bind fun r => match r with | .inl y => Pew.d0 k y | .inr o => some o
theorem Pew.ok : Yg 261 ⟨⟨[.w K18], [.f .str]⟩, fun k (x : List T8) => Pew.f k x⟩ := Yq 32 Yv (.n (.seq .c (.n (.seq (.n (.lp [.s 2 .str, .s 3 .str, .s 15 K18, .s 16 K0, .s 17 K0] 3 (.n (.seq (.cond .l .l) (.seq (.blk (.n .l)) .l))))) (.n .l))))) Tryz.func261 (Yc Pja.ok (Yc Pcf.ok Yn))
def Pbv.b0 (s : Zb × Bool × Int × Int × List T8 × T13 × List T8) : Option ((Zb × Bool × Int × Int × List T8 × T13 × List T8) ⊕ (Zb × Bool × List T8 × T13 × List T8) ⊕ T34) :=
 bif decide (s.2.2.2.1 < s.2.2.1) then (Pax.f k s.2.2.2.2.2.1).bind fun r1 => (Pax.f k r1.2).bind fun r2 => (app? (limOf 16) s.2.2.2.2.2.2 ([(r1.1, r2.1)])).bind fun l3 => some (.inl (s.1, s.2.1, s.2.2.1, Zr (s.2.2.2.1 + 1), s.2.2.2.2.1, r2.2, l3)) else some (.inr (.inl (s.1, s.2.1, s.2.2.2.2)))
def Pbv.d0 (y : Zb × Bool × List T8 × T13 × List T8) : Option T34 :=
 bif y.2.2.2.1.2 then some ([], false) else bif decide (y.1 = Ze) then some ([], false) else (Pew.f k y.2.2.2.2).bind fun r1 => bif !decide (r1 = y.1) then some ([], false) else some (y.2.2.2.2, true)
def Pbv.f (a0 : Zb) : Option T34 :=
 (Pdx.f k (a0, false) 3).bind fun r1 => (Pcv.f k r1.2 60).bind fun r2 => (iter (X := (Zb × Bool × List T8 × T13 × List T8) ⊕ T34) (Pbv.b0 k) k (a0, false, r2.1, 0, [], r2.2, [])).bind fun r => match r with | .inl y => Pbv.d0 k y | .inr o => some o
theorem Pbv.ok : Yg 198 ⟨⟨[.v .str], [.t K18, .f .bool]⟩, fun k (x : Zb) => Pbv.f k x⟩ := Yq 48 (Yk 208 (.pair K0 K0) Yv) (.m 5 (.seq (.n (.lp [.s 0 .str, .ptr 2 1000, .s 3 .bool, .ptr 4 2002, .ptr 6 5001, .s 16 K0, .s 17 K0, .box 1000 127 K18 true false, .box 2002 249 K27 false false, .box 5001 127 K18 true false] 927 (.n (.seq (.cond .l .l) (.seq (.blk (.n (.n .l))) .l))))) (.seq .c (.n .l)))) Tryz.func198 (Yc Pdx.ok (Yc Pcv.ok (Yc Pax.ok (Yc Pew.ok Yn))))
def Pbt.b0 (k : Nat) (s : Int × Zb × T30) : Option ((Int × Zb × T30) ⊕ T16 ⊕ Zb) :=
 bif decide (0 ≤ s.2.2.2) then (inb? s.2.2.1.length s.2.2.2).bind fun j1 => (s.2.2.1[j1]?).bind fun y2 => some (.inl (Int.fdiv s.1 (2 ^ (min (8 : Int).toNat (IntKind.bits .i64))), s.2.1, s.2.2.1.set j1 (IntKind.wrap .u8 (bits .and .i64 s.1 255)), Zr (s.2.2.2 - 1))) else some (.inr (.inl (s.2.1, s.2.2.1)))
def Pbt.d0 (k : Nat) (y : T16) : Option Zb :=
 some (strOfNums y.2)
def Pbt.f (a0 : Int) (a1 : Int) : Option Zb :=
 (Paa.f k a1 1 7).bind fun r1 => bif !r1 then some Ze else bif decide (a0 < 0) then some Ze else if Zr (8 * a1) < 0 then none else bif decide (Zr (1 * 2 ^ (min (Zr (8 * a1)).toNat (IntKind.bits .i64))) ≤ a0) then some Ze else (mk? (limOf 1) a1 (0 : Int)).bind fun l2 => (iter (X := T16 ⊕ Zb) (Pbt.b0 k) k (a0, Ze, l2, Zr (a1 - 1))).bind fun r => match r with | .inl y => Pbt.d0 k y | .inr o => some o
theorem Pbt.ok : Yg 262 ⟨⟨[.v K0, .v K0], [.f .str]⟩, fun k (x : T8) => Pbt.f k x.1 x.2⟩ := Yq 39 (Yk 5 K30 Yv) (.n (.seq .c (.n (.seq (.n (.lp [.s 0 K0, .s 4 .str, .o 5 (.sl 5 K30), .s 6 K0] 6 (.seq (.n (.cond .l .l)) (.seq (.blk (.n .l)) .l)))) (.n .l))))) Tryz.func262 (Yc Paa.ok Yn)
def Pgs.f (k : Nat) (a0 : Zb) : Option Int :=
 (inb? a0.size 0).bind fun j1 => (inb? a0.size 1).bind fun j2 => (inb? a0.size 2).bind fun j3 => (inb? a0.size 3).bind fun j4 => some (bits .or .u32 (bits .or .u32 (bits .or .u32 (IntKind.wrap .u32 ((IntKind.wrap .u32 (Qmy a0 j1)) * 2 ^ (min (24 : Int).toNat (IntKind.bits .u32)))) (IntKind.wrap .u32 ((IntKind.wrap .u32 (Qmy a0 j2)) * 2 ^ (min (16 : Int).toNat (IntKind.bits .u32))))) (IntKind.wrap .u32 ((IntKind.wrap .u32 (Qmy a0 j3)) * 2 ^ (min (8 : Int).toNat (IntKind.bits .u32))))) (IntKind.wrap .u32 (Qmy a0 j4)))
theorem Pgs.ok : Yg 298 ⟨⟨[.v .str], [.f K33]⟩, fun k (x : Zb) => Pgs.f k x⟩ := Yq 21 Yv (.n (.n .l)) Tryz.func298 Yn
def Paf.f (k : Nat) (a0 : Int) (a1 : Int) : Option Int :=
 if bits .and .u64 (IntKind.wrap .u64 (a1)) 31 < 0 then none else if IntKind.wrap .u64 (32 - (bits .and .u64 (IntKind.wrap .u64 (a1)) 31)) < 0 then none else some (bits .or .u32 (IntKind.wrap .u32 (a0 * 2 ^ (min (bits .and .u64 (IntKind.wrap .u64 (a1)) 31).toNat (IntKind.bits .u32)))) (Int.fdiv a0 (2 ^ (min (IntKind.wrap .u64 (32 - (bits .and .u64 (IntKind.wrap .u64 (a1)) 31))).toNat (IntKind.bits .u32)))))
theorem Paf.ok : Yg 299 ⟨⟨[.v K33, .v K0], [.f K33]⟩, fun k (x : T8) => Paf.f k x.1 x.2⟩ := Yq 17 Yv (.m 3 .l) Tryz.func299 Yn
def Paj.b0 (s : Zb × Int × T11) : Option ((Zb × Int × T11) ⊕ T11 ⊕ (List Int)) :=
 bif decide (s.2.1 < 16) then (cut? s.1.size (Zr (4 * s.2.1)) s.1.size).bind fun p1 => (Pgs.f k (s.1.extract p1.1 p1.2)).bind fun r2 => (inb? 64 s.2.1).bind fun j3 => some (.inl (s.1, Zr (s.2.1 + 1), arrL 8 s.2.2.1, arrL 8 s.2.2.2.1, arrL 64 ((arrL 64 s.2.2.2.2).set j3 r2))) else some (.inr (.inl (arrL 8 s.2.2.1, arrL 8 s.2.2.2.1, arrL 64 s.2.2.2.2)))
def Paj.b1 (s : Int × T11) : Option ((Int × T11) ⊕ T11 ⊕ (List Int)) :=
 bif decide (s.1 < 64) then (inb? 64 (Zr (s.1 - 15))).bind fun j1 => (inb? 64 (Zr (s.1 - 2))).bind fun j2 => (Paf.f k ((arrL 64 s.2.2.2).getD j1 0) (-7)).bind fun r3 => (Paf.f k ((arrL 64 s.2.2.2).getD j1 0) (-18)).bind fun r4 => (Paf.f k ((arrL 64 s.2.2.2).getD j2 0) (-17)).bind fun r5 => (Paf.f k ((arrL 64 s.2.2.2).getD j2 0) (-19)).bind fun r6 => (inb? 64 (Zr (s.1 - 16))).bind fun j7 => (inb? 64 (Zr (s.1 - 7))).bind fun j8 => (inb? 64 s.1).bind fun j9 => some (.inl (Zr (s.1 + 1), arrL 8 s.2.1, arrL 8 s.2.2.1, arrL 64 ((arrL 64 s.2.2.2).set j9 (IntKind.wrap .u32 ((IntKind.wrap .u32 ((IntKind.wrap .u32 (((arrL 64 s.2.2.2).getD j7 0) + (bits .xor .u32 (bits .xor .u32 r3 r4) (Int.fdiv ((arrL 64 s.2.2.2).getD j1 0) (2 ^ (min (3 : Int).toNat (IntKind.bits .u32))))))) + ((arrL 64 s.2.2.2).getD j8 0))) + (bits .xor .u32 (bits .xor .u32 r5 r6) (Int.fdiv ((arrL 64 s.2.2.2).getD j2 0) (2 ^ (min (10 : Int).toNat (IntKind.bits .u32)))))))))) else some (.inr (.inl (arrL 8 s.2.1, arrL 8 s.2.2.1, arrL 64 s.2.2.2)))
def Paj.b2 (s : Int × List Int × T11) : Option ((Int × List Int × T11) ⊕ T11 ⊕ (List Int)) :=
 bif decide (s.1 < 64) then (Paf.f k (s.2.2.2.2.getD 4 0) (-6)).bind fun r1 => (Paf.f k (s.2.2.2.2.getD 4 0) (-11)).bind fun r2 => (Paf.f k (s.2.2.2.2.getD 4 0) (-25)).bind fun r3 => (inb? 64 s.1).bind fun j4 => (Qlr[j4]?).bind fun y5 => (inb? 64 s.1).bind fun j6 => (Paf.f k (s.2.2.2.2.getD 0 0) (-2)).bind fun r7 => (Paf.f k (s.2.2.2.2.getD 0 0) (-13)).bind fun r8 => (Paf.f k (s.2.2.2.2.getD 0 0) (-22)).bind fun r9 => some (.inl (Zr (s.1 + 1), arrL 8 s.2.1, arrL 8 s.2.2.1, arrL 64 s.2.2.2.1, [IntKind.wrap .u32 ((IntKind.wrap .u32 ((IntKind.wrap .u32 ((IntKind.wrap .u32 ((IntKind.wrap .u32 ((IntKind.wrap .u32 ((s.2.2.2.2.getD 7 0) + (bits .xor .u32 (bits .xor .u32 r1 r2) r3))) + (bits .xor .u32 (bits .and .u32 (s.2.2.2.2.getD 4 0) (s.2.2.2.2.getD 5 0)) (bits .and .u32 (bits .xor .u32 (if IntKind.signed .u32 then -1 else IntKind.max .u32) (s.2.2.2.2.getD 4 0)) (s.2.2.2.2.getD 6 0))))) + y5)) + ((arrL 64 s.2.2.2.1).getD j6 0))) + (bits .xor .u32 (bits .xor .u32 r7 r8) r9))) + (bits .xor .u32 (bits .xor .u32 (bits .and .u32 (s.2.2.2.2.getD 0 0) (s.2.2.2.2.getD 1 0)) (bits .and .u32 (s.2.2.2.2.getD 0 0) (s.2.2.2.2.getD 2 0))) (bits .and .u32 (s.2.2.2.2.getD 1 0) (s.2.2.2.2.getD 2 0)))), s.2.2.2.2.getD 0 0, s.2.2.2.2.getD 1 0, s.2.2.2.2.getD 2 0, IntKind.wrap .u32 ((s.2.2.2.2.getD 3 0) + (IntKind.wrap .u32 ((IntKind.wrap .u32 ((IntKind.wrap .u32 ((IntKind.wrap .u32 ((s.2.2.2.2.getD 7 0) + (bits .xor .u32 (bits .xor .u32 r1 r2) r3))) + (bits .xor .u32 (bits .and .u32 (s.2.2.2.2.getD 4 0) (s.2.2.2.2.getD 5 0)) (bits .and .u32 (bits .xor .u32 (if IntKind.signed .u32 then -1 else IntKind.max .u32) (s.2.2.2.2.getD 4 0)) (s.2.2.2.2.getD 6 0))))) + y5)) + ((arrL 64 s.2.2.2.1).getD j6 0)))), s.2.2.2.2.getD 4 0, s.2.2.2.2.getD 5 0, s.2.2.2.2.getD 6 0])) else some (.inr (.inl (arrL 8 s.2.1, arrL 8 s.2.2.1, arrL 8 s.2.2.2.2)))
def Paj.b3 (k : Nat) (s : Int × T11) : Option ((Int × T11) ⊕ (List Int × List Int) ⊕ (List Int)) :=
 bif decide (s.1 < 8) then (inb? 8 s.1).bind fun j1 => (inb? 8 s.1).bind fun j2 => (inb? 8 s.1).bind fun j3 => some (.inl (Zr (s.1 + 1), arrL 8 ((arrL 8 s.2.1).set j3 (IntKind.wrap .u32 (((arrL 8 s.2.1).getD j1 0) + ((arrL 8 s.2.2.2).getD j2 0)))), arrL 8 s.2.2.1, arrL 8 s.2.2.2)) else some (.inr (.inl (arrL 8 s.2.1, arrL 8 s.2.2.1)))
def Paj.d3 (k : Nat) (y : List Int × List Int) : Option (List Int) :=
 some (arrL 8 y.1)
def Paj.d2 (y : T11) : Option (List Int) :=
 (iter (X := (List Int × List Int) ⊕ (List Int)) (Paj.b3 k) k (0, arrL 8 y.1, arrL 8 y.2.1, arrL 8 y.2.2)).bind fun r => match r with | .inl y => Paj.d3 k y | .inr o => some o
def Paj.d1 (y : T11) : Option (List Int) :=
 (iter (X := T11 ⊕ (List Int)) (Paj.b2 k) k (0, arrL 8 y.1, arrL 8 y.2.1, arrL 64 y.2.2, arrL 8 y.1)).bind fun r => match r with | .inl y => Paj.d2 k y | .inr o => some o
def Paj.d0 (y : T11) : Option (List Int) :=
 (iter (X := T11 ⊕ (List Int)) (Paj.b1 k) k (16, arrL 8 y.1, arrL 8 y.2.1, arrL 64 y.2.2)).bind fun r => match r with | .inl y => Paj.d1 k y | .inr o => some o
def Paj.f (a0 : List Int) (a1 : Zb) : Option (List Int) :=
 (iter (X := T11 ⊕ (List Int)) (Paj.b0 k) k (a1, 0, arrL 8 a0, List.replicate 8 0, List.replicate 64 0)).bind fun r => match r with | .inl y => Paj.d0 k y | .inr o => some o
theorem Paj.ok : Yg 263 ⟨⟨[.w K28, .v .str], [.t K28]⟩, fun k (x : List Int × Zb) => Paj.f k x.1 x.2⟩ := Yq 176 Yv (.n (.n (.seq (.n (.lp [.s 1 .str, .ptr 2 1000, .ptr 4 1001, .ptr 5 2000, .s 22 K0, .box 1000 281 K28 false false, .box 1001 281 K28 false false, .box 2000 296 (.arr .u32 64) false false] 238 (.n (.seq (.cond .l .l) (.seq (.blk (.n .l)) .l))))) (.seq (.n (.lp [.ptr 2 1000, .ptr 4 1001, .ptr 5 2000, .s 7 K0, .box 1000 281 K28 false false, .box 1001 281 K28 false false, .box 2000 296 (.arr .u32 64) false false] 119 (.seq (.n (.cond .l .l)) (.seq (.blk (.m 3 .l)) .l)))) (.n (.seq (.n (.lp [.ptr 2 1000, .ptr 4 1001, .ptr 5 2000, .ptr 12 15001, .s 77 K0, .box 1000 281 K28 false false, .box 1001 281 K28 false false, .box 2000 296 (.arr .u32 64) false false, .box 15001 281 K28 false false] 363 (.n (.seq (.cond .l .l) (.seq (.blk (.m 7 .l)) .l))))) (.seq (.n (.lp [.ptr 2 1000, .ptr 4 1001, .ptr 12 15001, .s 162 K0, .box 1000 281 K28 false false, .box 1001 281 K28 false false, .box 15001 281 K28 false false] 51 (.n (.seq (.cond .l .l) (.seq (.blk (.n .l)) .l))))) (.n .l)))))))) Tryz.func263 (Yc Pgs.ok (Yc Paf.ok Yn))
def Pdq.b0 (s : Zb × Zb × T51) : Option ((Zb × Zb × T51) ⊕ T16 ⊕ Zb) :=
 bif decide (s.2.2.1 < (s.2.1.size : Int)) then (cut? s.2.1.size s.2.2.1 (Zr (s.2.2.1 + 64))).bind fun p1 => (Paj.f k (arrL 8 s.2.2.2) (s.2.1.extract p1.1 p1.2)).bind fun r2 => some (.inl (s.1, s.2.1, Zr (s.2.2.1 + 64), arrL 8 r2)) else some (.inr (.inl (s.1, arrL 8 s.2.2.2)))
def Pdq.b1 (s : Zb × Zb × T30) : Option ((Zb × Zb × T30) ⊕ T14 ⊕ Zb) :=
 bif decide (s.2.2.2 < 8) then (inb? 8 s.2.2.2).bind fun j1 => (Pbt.f k (Zr ((arrL 8 s.2.2.1).getD j1 0)) 4).bind fun r2 => (cat? s.2.1 r2).bind fun s3 => some (.inl (s.1, s3, arrL 8 s.2.2.1, Zr (s.2.2.2 + 1))) else some (.inr (.inl (s.1, s.2.1)))
def Pdq.d1 (k : Nat) (y : T14) : Option Zb :=
 some y.2
def Pdq.d0 (y : T16) : Option Zb :=
 (iter (X := T14 ⊕ Zb) (Pdq.b1 k) k (y.1, Ze, arrL 8 y.2, 0)).bind fun r => match r with | .inl y => Pdq.d1 k y | .inr o => some o
def Pdq.f (a0 : Zb) : Option Zb :=
 (cat? a0 (⟨#[128]⟩ : Zb)).bind fun s1 => (mk? (limOf 1) (Zr ((Int.tmod (Zr (64 - (Int.tmod (Zr ((a0.size : Int) + 9)) 64))) 64) + 1)) (0 : Int)).bind fun l2 => (cat? s1 (strOfNums l2)).bind fun s3 => (Pbt.f k (Zr (8 * (a0.size : Int))) 7).bind fun r4 => (cat? s3 r4).bind fun s5 => (iter (X := T16 ⊕ Zb) (Pdq.b0 k) k (Ze, s5, 0, [1779033703, 3144134277, 1013904242, 2773480762, 1359893119, 2600822924, 528734635, 1541459225])).bind fun r => match r with | .inl y => Pdq.d0 k y | .inr o => some o
theorem Pdq.ok : Yg 199 ⟨⟨[.v .str], [.f .str]⟩, fun k (x : Zb) => Pdq.f k x⟩ := Yq 55 (Yk 5 K30 Yv) (.m 5 (.seq (.n (.lp [.s 2 .str, .s 5 .str, .ptr 6 5001, .s 7 K0, .box 5001 281 K28 false false] 21 (.seq (.n (.cond .l .l)) (.seq (.blk .l) .l)))) (.n (.seq (.n (.lp [.s 2 .str, .s 8 .str, .slot 44 true K28 false, .s 45 K0] 3 (.n (.seq (.cond .l .l) (.seq (.blk (.n .l)) .l))))) (.n .l))))) Tryz.func199 (Yc Pbt.ok (Yc Paj.ok Yn))
def Phc.f (k : Nat) (a0 : T9) (a1 : Zb) : Option Bool :=
 some (decide (a0.1 = a1))
theorem Phc.ok : Yg 265 ⟨⟨[.w K15, .box 9 .str false false], [.f .bool]⟩, fun k (x : T9 × Zb) => Phc.f k x.1 x.2⟩ := Yq 8 Yv (.n (.n .l)) Tryz.func265 Yn
def Pae.b0 (s : List T9 × Int × Int × T10) : Option ((List T9 × Int × Int × T10) ⊕ Int ⊕ Int) :=
 bif decide (s.2.2.2.1 < s.2.2.1) then (inb? s.1.length s.2.2.2.1).bind fun j1 => (s.1[j1]?).bind fun y2 => (Phc.f k y2 s.2.2.2.2).bind fun r3 => bif r3 then some (.inr (.inr s.2.2.2.1)) else some (.inl (s.1, s.2.1, s.2.2.1, Zr (s.2.2.2.1 + 1), s.2.2.2.2)) else some (.inr (.inl s.2.1))
def Pae.d0 (k : Nat) (y : Int) : Option Int :=
 some (-1)
def Pae.f (a0 : List T9) (a1 : Zb) : Option Int :=
 (iter (X := Int ⊕ Int) (Pae.b0 k) k (a0, 0, (a0.length : Int), 0, a1)).bind fun r => match r with | .inl y => Pae.d0 k y | .inr o => some o
theorem Pae.ok : Yg 264 ⟨⟨[.v K25, .clo 265 false 9 .str], [.f K0]⟩, fun k (x : List T9 × Zb) => Pae.f k x.1 x.2⟩ := Yq 19 Yv (.n (.seq (.n (.lp [.s 0 K25, .fnp 1 265 false 2, .s 4 K0, .s 7 K0, .s 8 K0, .box 2 9 .str false true] 4 (.n (.seq (.cond .l .l) (.seq (.blk (.n .c)) .l))))) (.n .l))) Tryz.func264 (Yc Phc.ok Yn)
def Piy.f (a0 : T1) (a1 : Zb) : Option Int :=
 (Pae.f k a0.1 a1).bind fun r1 => some (Zr (1 + r1))
theorem Piy.ok : Yg 200 ⟨⟨[.w K3, .v .str], [.f K0]⟩, fun k (x : T1 × Zb) => Piy.f k x.1 x.2⟩ := Yq 10 Yv (.n (.n .l)) Tryz.func200 (Yc Pae.ok Yn)
def Pbp.b0 (k : Nat) (s : Int × Bool × Int × List Int × T8) : Option ((Int × Bool × Int × List Int × T8) ⊕ (Bool × Int) ⊕ Bool) :=
 bif decide (s.2.2.2.2.2 < s.2.2.2.2.1) then (inb? s.2.2.2.1.length s.2.2.2.2.2).bind fun j1 => (s.2.2.2.1[j1]?).bind fun y2 => bif decide (y2 = s.1) then some (.inl (s.1, s.2.1, Zr (s.2.2.1 + 1), s.2.2.2.1, s.2.2.2.2.1, Zr (s.2.2.2.2.2 + 1))) else some (.inl (s.1, s.2.1, s.2.2.1, s.2.2.2.1, s.2.2.2.2.1, Zr (s.2.2.2.2.2 + 1))) else some (.inr (.inl (s.2.1, s.2.2.1)))
def Pbp.d0 (k : Nat) (y : Bool × Int) : Option Bool :=
 some (decide (y.2 = 1))
def Pbp.f (a0 : T1) (a1 : Int) : Option Bool :=
 (iter (X := (Bool × Int) ⊕ Bool) (Pbp.b0 k) k (a1, false, 0, a0.2.1, (a0.2.1.length : Int), 0)).bind fun r => match r with | .inl y => Pbp.d0 k y | .inr o => some o
theorem Pbp.ok : Yg 201 ⟨⟨[.w K3, .v K0], [.f .bool]⟩, fun k (x : T1 × Int) => Pbp.f k x.1 x.2⟩ := Yq 23 Yv (.n (.n (.seq (.n (.lp [.s 1 K0, .s 4 .bool, .s 5 K0, .s 9 K17, .s 10 K0, .s 11 K0] 6 (.n (.seq (.cond .l .l) (.seq (.blk (.n (.n (.cond .l .l)))) .l))))) (.n .l)))) Tryz.func201 Yn
def Pfk.f (a0 : T28) : Option Bool :=
 (Paa.f k a0.1 0 5).bind fun r1 => bif r1 then (Paa.f k a0.2.1 0 6).bind fun r2 => bif r2 then (Paa.f k a0.2.2.1 0 4).bind fun r3 => bif r3 then bif decide ((a0.2.2.2.1.size : Int) = 0) then (Paa.f k a0.2.2.2.2.1 0 250).bind fun r4 => bif r4 then (Paa.f k a0.2.2.2.2.2 0 100000).bind fun r5 => some r5 else some false else bif decide ((a0.2.2.2.1.size : Int) = 32) then (Paa.f k a0.2.2.2.2.1 0 250).bind fun r6 => bif r6 then (Paa.f k a0.2.2.2.2.2 0 100000).bind fun r7 => some r7 else some false else some false else some false else some false else some false
theorem Pfk.ok : Yg 202 ⟨⟨[.w K12], [.f .bool]⟩, fun k (x : T28) => Pfk.f k x⟩ := Yq 38 Yv (.n (.n .l)) Tryz.func202 (Yc Paa.ok Yn)
def Pbg.b0 (s : Bool × List T9 × Int × Int × T1) : Option ((Bool × List T9 × Int × Int × T1) ⊕ (Bool × T1) ⊕ Bool) :=
 bif decide (s.2.2.2.1 < s.2.2.1) then (inb? s.2.1.length s.2.2.2.1).bind fun j1 => (s.2.1[j1]?).bind fun y2 => (Pbv.f k y2.1).bind fun r3 => bif !r3.2 then some (.inr (.inr false)) else (Pdq.f k y2.1).bind fun r4 => bif !decide (y2.2.1 = r4) then some (.inr (.inr false)) else (Paa.f k y2.2.2 1 4).bind fun r5 => bif !r5 then some (.inr (.inr false)) else (Piy.f k s.2.2.2.2 y2.1).bind fun r6 => bif !decide (r6 = Zr (s.2.2.2.1 + 1)) then some (.inr (.inr false)) else bif decide (y2.2.2 = 2) then (Pbp.f k s.2.2.2.2 (Zr (s.2.2.2.1 + 1))).bind fun r7 => bif !r7 then some (.inr (.inr false)) else some (.inl (s.1, s.2.1, s.2.2.1, Zr (s.2.2.2.1 + 1), s.2.2.2.2)) else some (.inl (s.1, s.2.1, s.2.2.1, Zr (s.2.2.2.1 + 1), s.2.2.2.2)) else some (.inr (.inl (s.1, s.2.2.2.2)))
def Pbg.b1 (s : Bool × List Int × Int × Int × T1) : Option ((Bool × List Int × Int × Int × T1) ⊕ (Bool × T1) ⊕ Bool) :=
 bif decide (s.2.2.2.1 < s.2.2.1) then (inb? s.2.1.length s.2.2.2.1).bind fun j1 => (s.2.1[j1]?).bind fun y2 => (Paa.f k y2 0 (s.2.2.2.2.1.length : Int)).bind fun r3 => bif !r3 then some (.inr (.inr false)) else bif decide (0 < y2) then (inb? s.2.2.2.2.1.length (Zr (y2 - 1))).bind fun j4 => (s.2.2.2.2.1[j4]?).bind fun y5 => bif !decide (y5.2.2 = 2) then some (.inr (.inr false)) else some (.inl (s.1, s.2.1, s.2.2.1, Zr (s.2.2.2.1 + 1), s.2.2.2.2)) else some (.inl (s.1, s.2.1, s.2.2.1, Zr (s.2.2.2.1 + 1), s.2.2.2.2)) else some (.inr (.inl (s.1, s.2.2.2.2)))
def Pbg.b2 (s : Bool × List T7 × Int × Int × T1) : Option ((Bool × List T7 × Int × Int × T1) ⊕ Bool ⊕ Bool) :=
 bif decide (s.2.2.2.1 < s.2.2.1) then (inb? s.2.1.length s.2.2.2.1).bind fun j1 => (s.2.1[j1]?).bind fun y2 => (Paa.f k y2.1 1 6).bind fun r3 => bif !r3 then some (.inr (.inr false)) else bif decide (0 < s.2.2.2.1) then (inb? s.2.2.2.2.2.2.length (Zr (s.2.2.2.1 - 1))).bind fun j4 => (s.2.2.2.2.2.2[j4]?).bind fun y5 => bif decide (y2.1 ≤ y5.1) then some (.inr (.inr false)) else (Paa.f k y2.2.1 1 1000000).bind fun r6 => bif !r6 then some (.inr (.inr false)) else (Pfk.f k y2.2.2).bind fun r7 => bif !r7 then some (.inr (.inr false)) else some (.inl (s.1, s.2.1, s.2.2.1, Zr (s.2.2.2.1 + 1), s.2.2.2.2)) else (Paa.f k y2.2.1 1 1000000).bind fun r8 => bif !r8 then some (.inr (.inr false)) else (Pfk.f k y2.2.2).bind fun r9 => bif !r9 then some (.inr (.inr false)) else some (.inl (s.1, s.2.1, s.2.2.1, Zr (s.2.2.2.1 + 1), s.2.2.2.2)) else some (.inr (.inl s.1))
def Pbg.d2 (k : Nat) (y : Bool) : Option Bool :=
 some true
def Pbg.d1 (y : Bool × T1) : Option Bool :=
 (iter (X := Bool ⊕ Bool) (Pbg.b2 k) k (y.1, y.2.2.2, (y.2.2.2.length : Int), 0, y.2)).bind fun r => match r with | .inl y => Pbg.d2 k y | .inr o => some o
def Pbg.d0 (y : Bool × T1) : Option Bool :=
 (iter (X := (Bool × T1) ⊕ Bool) (Pbg.b1 k) k (y.1, y.2.2.1, (y.2.2.1.length : Int), 0, y.2)).bind fun r => match r with | .inl y => Pbg.d1 k y | .inr o => some o
def Pbg.f (a0 : T1) : Option Bool :=
 bif decide (6 < (a0.1.length : Int)) then some false else bif !decide ((a0.2.1.length : Int) = 3) then some false else bif decide (6 < (a0.2.2.length : Int)) then some false else (iter (X := (Bool × T1) ⊕ Bool) (Pbg.b0 k) k (false, a0.1, (a0.1.length : Int), 0, a0)).bind fun r => match r with | .inl y => Pbg.d0 k y | .inr o => some o
theorem Pbg.ok : Yg 103 ⟨⟨[.w K3], [.f .bool]⟩, fun k (x : T1) => Pbg.f k x⟩ := Yq 148 Yv (.n (.seq .c (.seq (.n (.lp [.ptr 1 1000, .s 2 .bool, .s 28 K25, .s 29 K0, .s 30 K0, .box 1000 47 K3 false false] 35 (.n (.seq (.cond .l .l) (.seq (.blk (.n (.n .c))) .l))))) (.seq (.n (.lp [.ptr 1 1000, .s 2 .bool, .s 80 K17, .s 81 K0, .s 82 K0, .box 1000 47 K3 false false] 35 (.n (.seq (.cond .l .l) (.seq (.blk (.n .c)) .l))))) (.seq (.n (.lp [.ptr 1 1000, .s 2 .bool, .s 108 K31, .s 109 K0, .s 110 K0, .box 1000 47 K3 false false] 2 (.n (.seq (.cond .l .l) (.seq (.blk (.n .c)) .l))))) (.n .l)))))) Tryz.func103 (Yc Pbv.ok (Yc Pdq.ok (Yc Paa.ok (Yc Piy.ok (Yc Pbp.ok (Yc Pfk.ok Yn))))))
def Phd.f (a0 : Int × T10) : Option Bool :=
 bif decide (a0.1 = 0) && (decide (a0.2.1 = 0) && (decide (a0.2.2 = Ze) && true)) then some true else (Paa.f k a0.1 1 100000).bind fun r1 => bif r1 then (Paa.f k a0.2.1 1 100000).bind fun r2 => bif r2 then some (decide ((a0.2.2.size : Int) ≤ 8000)) else some false else some false
theorem Phd.ok : Yg 104 ⟨⟨[.w K16], [.f .bool]⟩, fun k (x : Int × T10) => Phd.f k x⟩ := Yq 22 Yv (.n (.n .l)) Tryz.func104 (Yc Paa.ok Yn)
def Pds.f (a0 : T13) : Option (Int × T13) :=
 (Pdx.f k a0 1).bind fun r1 => bif decide (r1.1 = Ze) then some (0, r1.2) else (inb? r1.1.size 0).bind fun j2 => some (Zr (Qmy r1.1 j2), r1.2)
theorem Pds.ok : Yg 204 ⟨⟨[.box 249 K27 false true], [.f K0]⟩, fun k (x : T13) => Pds.f k x⟩ := Yq 11 Yv (.n (.n (.seq .c (.n .l)))) Tryz.func204 (Yc Pdx.ok Yn)
def Pet.f (a0 : T13) : Option (Zb × T13) :=
 (Pax.f k a0).bind fun r1 => (Pdx.f k r1.2 r1.1).bind fun r2 => some r2
theorem Pet.ok : Yg 205 ⟨⟨[.box 249 K27 false true], [.f .str]⟩, fun k (x : T13) => Pet.f k x⟩ := Yq 9 Yv (.m 3 .l) Tryz.func205 (Yc Pax.ok (Yc Pdx.ok Yn))
def Pel.f (a0 : T28) : Option Zb :=
 (Pfk.f k a0).bind fun r1 => bif !r1 then some Ze else (Pcf.f k a0.1).bind fun r2 => (Pcf.f k a0.2.1).bind fun r3 => (cat? r2 r3).bind fun s4 => (Pcf.f k a0.2.2.1).bind fun r5 => (cat? s4 r5).bind fun s6 => (Pcf.f k a0.2.2.2.2.1).bind fun r7 => (cat? s6 r7).bind fun s8 => (Pcf.f k a0.2.2.2.2.2).bind fun r9 => (cat? s8 r9).bind fun s10 => (cat? s10 a0.2.2.2.1).bind fun s11 => some s11
theorem Pel.ok : Yg 237 ⟨⟨[.w K12], [.f .str]⟩, fun k (x : T28) => Pel.f k x⟩ := Yq 28 Yv (.n (.seq .c (.n .l))) Tryz.func237 (Yc Pfk.ok (Yc Pcf.ok Yn))
def Pej.f (a0 : Zb) : Option (T28 × Bool) :=
 (Pax.f k (a0, false)).bind fun r1 => (Pax.f k r1.2).bind fun r2 => (Pax.f k r2.2).bind fun r3 => (Pax.f k r3.2).bind fun r4 => (Pax.f k r4.2).bind fun r5 => bif r5.2.2 then some ((0, 0, 0, Ze, 0, 0), false) else bif decide (a0 = Ze) then some ((0, 0, 0, Ze, 0, 0), false) else (Pel.f k (r1.1, r2.1, r3.1, r5.2.1, r4.1, r5.1)).bind fun r6 => bif !decide (r6 = a0) then some ((0, 0, 0, Ze, 0, 0), false) else some ((r1.1, r2.1, r3.1, r5.2.1, r4.1, r5.1), true)
theorem Pej.ok : Yg 207 ⟨⟨[.v .str], [.t K12, .f .bool]⟩, fun k (x : Zb) => Pej.f k x⟩ := Yq 45 Yv (.m 8 (.seq .c (.n .l))) Tryz.func207 (Yc Pax.ok (Yc Pel.ok Yn))
def Pjx.f (a0 : Zb) : Option Zb :=
 (Pcf.f k (a0.size : Int)).bind fun r1 => (cat? r1 a0).bind fun s2 => some s2
theorem Pjx.ok : Yg 236 ⟨⟨[.v .str], [.f .str]⟩, fun k (x : Zb) => Pjx.f k x⟩ := Yq 8 Yv (.n (.n .l)) Tryz.func236 (Yc Pcf.ok Yn)
def Pbb.b0 (s : Zb × Zb × List T9 × Int × Int × T1) : Option ((Zb × Zb × List T9 × Int × Int × T1) ⊕ T24 ⊕ Zb) :=
 bif decide (s.2.2.2.2.1 < s.2.2.2.1) then (inb? s.2.2.1.length s.2.2.2.2.1).bind fun j1 => (s.2.2.1[j1]?).bind fun y2 => (cat? s.2.1 (strOfNums ([IntKind.wrap .u8 (y2.2.2)]))).bind fun s3 => (Pjx.f k y2.1).bind fun r4 => (cat? s3 r4).bind fun s5 => some (.inl (s.1, s5, s.2.2.1, s.2.2.2.1, Zr (s.2.2.2.2.1 + 1), s.2.2.2.2.2)) else some (.inr (.inl (s.1, s.2.1, s.2.2.2.2.2)))
def Pbb.b1 (s : Zb × Zb × List Int × Int × Int × T1) : Option ((Zb × Zb × List Int × Int × Int × T1) ⊕ T24 ⊕ Zb) :=
 bif decide (s.2.2.2.2.1 < s.2.2.2.1) then (inb? s.2.2.1.length s.2.2.2.2.1).bind fun j1 => (s.2.2.1[j1]?).bind fun y2 => (Pcf.f k y2).bind fun r3 => (cat? s.2.1 r3).bind fun s4 => some (.inl (s.1, s4, s.2.2.1, s.2.2.2.1, Zr (s.2.2.2.2.1 + 1), s.2.2.2.2.2)) else some (.inr (.inl (s.1, s.2.1, s.2.2.2.2.2)))
def Pbb.b2 (s : Zb × Zb × List T7 × T8) : Option ((Zb × Zb × List T7 × T8) ⊕ T14 ⊕ Zb) :=
 bif decide (s.2.2.2.2 < s.2.2.2.1) then (inb? s.2.2.1.length s.2.2.2.2).bind fun j1 => (s.2.2.1[j1]?).bind fun y2 => (Pcf.f k y2.1).bind fun r3 => (cat? s.2.1 r3).bind fun s4 => (Pcf.f k y2.2.1).bind fun r5 => (cat? s4 r5).bind fun s6 => (Pel.f k y2.2.2).bind fun r7 => (Pjx.f k r7).bind fun r8 => (cat? s6 r8).bind fun s9 => some (.inl (s.1, s9, s.2.2.1, s.2.2.2.1, Zr (s.2.2.2.2 + 1))) else some (.inr (.inl (s.1, s.2.1)))
def Pbb.d2 (k : Nat) (y : T14) : Option Zb :=
 some y.2
def Pbb.d1 (y : T24) : Option Zb :=
 (Pcf.f k (y.2.2.2.2.length : Int)).bind fun r1 => (cat? y.2.1 r1).bind fun s2 => (iter (X := T14 ⊕ Zb) (Pbb.b2 k) k (y.1, s2, y.2.2.2.2, (y.2.2.2.2.length : Int), 0)).bind fun r => match r with | .inl y => Pbb.d2 k y | .inr o => some o
def Pbb.d0 (y : T24) : Option Zb :=
 (iter (X := T24 ⊕ Zb) (Pbb.b1 k) k (y.1, y.2.1, y.2.2.2.1, (y.2.2.2.1.length : Int), 0, y.2.2)).bind fun r => match r with | .inl y => Pbb.d1 k y | .inr o => some o
def Pbb.f (a0 : T1) : Option Zb :=
 (Pbg.f k a0).bind fun r1 => bif !r1 then some Ze else (Pcf.f k (a0.1.length : Int)).bind fun r2 => (iter (X := T24 ⊕ Zb) (Pbb.b0 k) k (Ze, r2, a0.1, (a0.1.length : Int), 0, a0)).bind fun r => match r with | .inl y => Pbb.d0 k y | .inr o => some o
theorem Pbb.ok : Yg 151 ⟨⟨[.w K3], [.f .str]⟩, fun k (x : T1) => Pbb.f k x⟩ := Yq 77 (Yk 5 K30 Yv) (.n (.seq .c (.n (.seq (.n (.lp [.ptr 1 1000, .s 2 .str, .s 3 .str, .s 18 K25, .s 19 K0, .s 20 K0, .box 1000 47 K3 false false] 71 (.n (.seq (.cond .l .l) (.seq (.blk (.n .l)) .l))))) (.seq (.n (.lp [.ptr 1 1000, .s 2 .str, .s 3 .str, .s 37 K17, .s 38 K0, .s 39 K0, .box 1000 47 K3 false false] 71 (.n (.seq (.cond .l .l) (.seq (.blk (.n .l)) .l))))) (.n (.seq (.n (.lp [.s 2 .str, .s 3 .str, .s 55 K31, .s 56 K0, .s 57 K0] 3 (.n (.seq (.cond .l .l) (.seq (.blk (.n .l)) .l))))) (.n .l)))))))) Tryz.func151 (Yc Pbg.ok (Yc Pcf.ok (Yc Pjx.ok (Yc Pel.ok Yn))))
def Pai.b0 (s : Zb × Bool × Int × Int × T1 × T13 × T1) : Option T48 :=
 bif decide (s.2.2.2.1 < s.2.2.1) then (Pds.f k s.2.2.2.2.2.1).bind fun r1 => (Pet.f k r1.2).bind fun r2 => (Pdq.f k r2.1).bind fun r3 => (app? (limOf 40) s.2.2.2.2.2.2.1 ([(r2.1, r3, r1.1)])).bind fun l4 => some (.inl (s.1, s.2.1, s.2.2.1, Zr (s.2.2.2.1 + 1), s.2.2.2.2.1, r2.2, l4, s.2.2.2.2.2.2.2)) else some (.inr (.inl (s.1, s.2.1, s.2.2.2.2)))
def Pai.b1 (s : Zb × Bool × Int × T1 × T13 × T1) : Option ((Zb × Bool × Int × T1 × T13 × T1) ⊕ T22 ⊕ T26) :=
 bif decide (s.2.2.1 < 3) then (Pax.f k s.2.2.2.2.1).bind fun r1 => (app? (limOf 8) s.2.2.2.2.2.2.1 ([r1.1])).bind fun l2 => some (.inl (s.1, s.2.1, Zr (s.2.2.1 + 1), s.2.2.2.1, r1.2, s.2.2.2.2.2.1, l2, s.2.2.2.2.2.2.2)) else some (.inr (.inl (s.1, s.2.1, s.2.2.2)))
def Pai.b2 (s : Zb × Bool × Int × Int × T1 × T13 × T1) : Option T48 :=
 bif decide (s.2.2.2.1 < s.2.2.1) then (Pax.f k s.2.2.2.2.2.1).bind fun r1 => (Pax.f k r1.2).bind fun r2 => (Pet.f k r2.2).bind fun r3 => (Pej.f k r3.1).bind fun r4 => (app? (limOf 72) s.2.2.2.2.2.2.2.2 ([(r1.1, r2.1, r4.1)])).bind fun l5 => some (.inl (s.1, s.2.1, s.2.2.1, Zr (s.2.2.2.1 + 1), s.2.2.2.2.1, r3.2, s.2.2.2.2.2.2.1, s.2.2.2.2.2.2.2.1, l5)) else some (.inr (.inl (s.1, s.2.1, s.2.2.2.2)))
def Pai.d2 (y : T22) : Option T26 :=
 bif y.2.2.2.1.2 then some (([], [], []), false) else bif decide (y.1 = Ze) then some (([], [], []), false) else (Pbb.f k y.2.2.2.2).bind fun r1 => bif !decide (r1 = y.1) then some (([], [], []), false) else some (y.2.2.2.2, true)
def Pai.d1 (y : T22) : Option T26 :=
 (Pcv.f k y.2.2.2.1 6).bind fun r1 => (iter (X := T22 ⊕ T26) (Pai.b2 k) k (y.1, y.2.1, r1.1, 0, y.2.2.1, r1.2, y.2.2.2.2)).bind fun r => match r with | .inl y => Pai.d2 k y | .inr o => some o
def Pai.d0 (y : T22) : Option T26 :=
 (iter (X := T22 ⊕ T26) (Pai.b1 k) k (y.1, y.2.1, 0, y.2.2)).bind fun r => match r with | .inl y => Pai.d1 k y | .inr o => some o
def Pai.f (a0 : Zb) : Option T26 :=
 (Pcv.f k (a0, false) 6).bind fun r1 => (iter (X := T22 ⊕ T26) (Pai.b0 k) k (a0, false, r1.1, 0, ([], [], []), r1.2, [], [], [])).bind fun r => match r with | .inl y => Pai.d0 k y | .inr o => some o
theorem Pai.ok : Yg 105 ⟨⟨[.v .str], [.t K3, .f .bool]⟩, fun k (x : Zb) => Pai.f k x⟩ := Yq 90 (Yk 3 K0 (Yk 124 K15 (Yk 135 K7 Yv))) (.m 4 (.seq (.n (.lp [.s 0 .str, .ptr 2 1000, .s 3 .bool, .ptr 4 2002, .ptr 5 3001, .s 17 K0, .s 18 K0, .box 1000 47 K3 true false, .box 2002 249 K27 false false, .box 3001 47 K3 true false] 927 (.n (.seq (.cond .l .l) (.seq (.blk (.m 3 .l)) .l))))) (.seq (.n (.lp [.s 0 .str, .ptr 2 1000, .s 3 .bool, .ptr 4 2002, .ptr 5 3001, .s 37 K0, .box 1000 47 K3 true false, .box 2002 249 K27 false false, .box 3001 47 K3 true false] 479 (.n (.seq (.cond .l .l) (.seq (.blk (.n .l)) .l))))) (.n (.seq (.n (.lp [.s 0 .str, .ptr 2 1000, .s 3 .bool, .ptr 4 2002, .ptr 5 3001, .s 50 K0, .s 51 K0, .box 1000 47 K3 true false, .box 2002 249 K27 false false, .box 3001 47 K3 true false] 927 (.n (.seq (.cond .l .l) (.seq (.blk (.m 4 .l)) .l))))) (.seq .c (.n .l))))))) Tryz.func105 (Yc Pcv.ok (Yc Pds.ok (Yc Pet.ok (Yc Pdq.ok (Yc Pax.ok (Yc Pej.ok (Yc Pbb.ok Yn)))))))
def Pcd.b0 (s : List T4 × List T4 × List T15 × T8) : Option ((List T4 × List T4 × List T15 × T8) ⊕ T35 ⊕ (List T4)) :=
 bif decide (s.2.2.2.2 < s.2.2.2.1) then (inb? s.2.2.1.length s.2.2.2.2).bind fun j1 => (s.2.2.1[j1]?).bind fun y2 => (Pjb.f k s.2.1 y2).bind fun r3 => some (.inl (s.1, r3.1, s.2.2.1, s.2.2.2.1, Zr (s.2.2.2.2 + 1))) else some (.inr (.inl (s.1, s.2.1)))
def Pcd.d0 (k : Nat) (y : T35) : Option (List T4) :=
 some y.2
def Pcd.f (a0 : T0) (a1 : Int) : Option (List T4) :=
 (Pcu.f k a0.2.2.2.1).bind fun r1 => (cut? a0.2.2.2.2.length 0 a1).bind fun p2 => (iter (X := T35 ⊕ (List T4)) (Pcd.b0 k) k ([], r1, (a0.2.2.2.2.take p2.2).drop p2.1, (((a0.2.2.2.2.take p2.2).drop p2.1).length : Int), 0)).bind fun r => match r with | .inl y => Pcd.d0 k y | .inr o => some o
theorem Pcd.ok : Yg 229 ⟨⟨[.w K2, .v K0], [.f K11]⟩, fun k (x : T0 × Int) => Pcd.f k x.1 x.2⟩ := Yq 28 Yv (.n (.n (.seq (.n (.lp [.o 4 K11, .o 5 K11, .s 14 K29, .s 15 K0, .s 16 K0] 3 (.n (.seq (.cond .l .l) (.seq (.blk (.n .l)) .l))))) (.n .l)))) Tryz.func229 (Yc Pcu.ok (Yc Pjb.ok Yn))
def Phr.f (a0 : T0) : Option (List T4) :=
 (Pcd.f k a0 (a0.2.2.2.2.length : Int)).bind fun r1 => some r1
theorem Phr.ok : Yg 220 ⟨⟨[.w K2], [.f K11]⟩, fun k (x : T0) => Phr.f k x⟩ := Yq 8 Yv (.n (.n .l)) Tryz.func220 (Yc Pcd.ok Yn)
def Pef.f (a0 : T0) (a1 : Zb) : Option Int :=
 (Phr.f k a0).bind fun r1 => (Phg.f k r1 a1).bind fun r2 => bif decide (r2 < 0) then some (-1) else (inb? r1.length r2).bind fun j3 => (r1[j3]?).bind fun y4 => (Pfb.f k a0 y4.2).bind fun r5 => some r5
theorem Pef.ok : Yg 116 ⟨⟨[.w K2, .v .str], [.f K0]⟩, fun k (x : T0 × Zb) => Pef.f k x.1 x.2⟩ := Yq 21 Yv (.m 3 (.seq .c (.n .l))) Tryz.func116 (Yc Phr.ok (Yc Phg.ok (Yc Pfb.ok Yn)))
def Plq.f (a0 : T0) (a1 : Zb) : Option T13 :=
 (Pcl.f k a0).bind fun r1 => bif !r1 then some (Ze, false) else (Pef.f k a0 a1).bind fun r2 => bif decide (r2 < 0) then some (Ze, false) else (Pef.f k a0 a1).bind fun r3 => (inb? a0.2.2.1.length r3).bind fun j4 => (a0.2.2.1[j4]?).bind fun y5 => some (y5.2.1, true)
theorem Plq.ok : Yg 208 ⟨⟨[.w K2, .v .str], [.f .str, .f .bool]⟩, fun k (x : T0 × Zb) => Plq.f k x.1 x.2⟩ := Yq 23 Yv (.n (.seq .c (.n .l))) Tryz.func208 (Yc Pcl.ok (Yc Pef.ok Yn))
def Pbw.b0 (k : Nat) (s : Zb × Int × Int × Bool × T8) : Option ((Zb × Int × Int × Bool × T8) ⊕ T36 ⊕ T31) :=
 bif decide (s.2.2.2.2.2 < s.2.1) then (inb? s.1.size s.2.2.2.2.2).bind fun j1 => some (.inl (s.1, s.2.1, s.2.2.1, s.2.2.2.1, bits .or .i64 (Zr (s.2.2.2.2.1 * 2 ^ (min (8 : Int).toNat (IntKind.bits .i64)))) (Zr (Qmy s.1 j1)), Zr (s.2.2.2.2.2 + 1))) else some (.inr (.inl (s.2.2.1, s.2.2.2.1, s.2.2.2.2.1)))
def Pbw.d0 (k : Nat) (y : T36) : Option T31 :=
 some (y.2.2, true)
def Pbw.f (a0 : Zb) (a1 : Int) : Option T31 :=
 (Paa.f k a1 1 7).bind fun r1 => bif !r1 then some (0, false) else bif decide ((a0.size : Int) < a1) then some (0, false) else (iter (X := T36 ⊕ T31) (Pbw.b0 k) k (a0, a1, 0, false, 0, 0)).bind fun r => match r with | .inl y => Pbw.d0 k y | .inr o => some o
theorem Pbw.ok : Yg 271 ⟨⟨[.v .str, .v K0], [.f K0, .f .bool]⟩, fun k (x : T4) => Pbw.f k x.1 x.2⟩ := Yq 30 Yv (.n (.seq .c (.n (.seq (.n (.lp [.s 0 .str, .s 1 K0, .s 4 K0, .s 5 .bool, .s 6 K0, .s 7 K0] 28 (.seq (.n (.cond .l .l)) (.seq (.blk .l) .l)))) (.n .l))))) Tryz.func271 (Yc Paa.ok Yn)
def Pct.b1 (k : Nat) (s : T44) : Option (T44 ⊕ T29 ⊕ Int) :=
 bif decide (s.2.2.2.2 < 8) then bif decide (bits .and .i64 s.2.2.1 1 = 1) then some (.inl (s.1, s.2.1, bits .xor .i64 (Int.fdiv s.2.2.1 (2 ^ (min (1 : Int).toNat (IntKind.bits .i64)))) 2197175160, s.2.2.2.1, Zr (s.2.2.2.2 + 1))) else some (.inl (s.1, s.2.1, Int.fdiv s.2.2.1 (2 ^ (min (1 : Int).toNat (IntKind.bits .i64))), s.2.2.2.1, Zr (s.2.2.2.2 + 1))) else some (.inr (.inl (s.1, s.2.1, s.2.2.1, s.2.2.2.1)))
def Pct.d0 (k : Nat) (y : T29) : Option (T29 ⊕ T8 ⊕ Int) :=
 some (.inl (y.1, y.2.1, y.2.2.1, Zr (y.2.2.2 + 1)))
def Pct.b0 (s : T29) : Option (T29 ⊕ T8 ⊕ Int) :=
 bif decide (s.2.2.2 < (s.1.size : Int)) then (inb? s.1.size s.2.2.2).bind fun j1 => (iter (X := T29 ⊕ Int) (Pct.b1 k) k (s.1, s.2.1, bits .xor .i64 s.2.2.1 (Zr (Qmy s.1 j1)), s.2.2.2, 0)).bind fun r => match r with | .inl y => Pct.d0 k y | .inr o => some (.inr (.inr o)) else some (.inr (.inl (s.2.1, s.2.2.1)))
def Pct.d1 (k : Nat) (y : T8) : Option Int :=
 some (Zr (4294967295 - y.2))
def Pct.f (a0 : Zb) : Option Int :=
 (iter (X := T8 ⊕ Int) (Pct.b0 k) k (a0, 0, 4294967295, 0)).bind fun r => match r with | .inl y => Pct.d1 k y | .inr o => some o
theorem Pct.ok : Yg 305 ⟨⟨[.v .str], [.f K0]⟩, fun k (x : Zb) => Pct.f k x⟩ := Yq 31 Yv (.n (.n (.seq (.n (.lp [.s 0 .str, .s 2 K0, .s 3 K0, .s 4 K0] 6 (.seq (.n (.cond .l .l)) (.seq (.blk (.n (.n (.lp [.s 0 .str, .s 2 K0, .s 3 K0, .s 4 K0, .s 18 K0] 15 (.n (.seq (.cond .l .l) (.seq (.blk (.m 3 (.cond .l .l))) .l))))))) .l)))) (.n .l)))) Tryz.func305 Yn
def Pfi.f (a0 : Zb) : Option Zb :=
 (Paa.f k (a0.size : Int) 1 2000).bind fun r1 => bif !r1 then some Ze else (Pbt.f k (a0.size : Int) 4).bind fun r2 => (cat? r2 a0).bind fun s3 => (Pct.f k s3).bind fun r4 => (Pbt.f k r4 4).bind fun r5 => (cat? r2 r5).bind fun s6 => (cat? s6 a0).bind fun s7 => some s7
theorem Pfi.ok : Yg 292 ⟨⟨[.v .str], [.f .str]⟩, fun k (x : Zb) => Pfi.f k x⟩ := Yq 20 Yv (.n (.seq .c (.n (.n .l)))) Tryz.func292 (Yc Paa.ok (Yc Pbt.ok (Yc Pct.ok Yn)))
def Pgh.f (a0 : Zb) : Option (Zb × T8) :=
 (Pbw.f k a0 4).bind fun r1 => bif !r1.2 then some (Ze, 0, 1) else (Paa.f k r1.1 1 2000).bind fun r2 => bif !r2 then some (Ze, 0, 2) else bif decide ((a0.size : Int) < Zr (8 + r1.1)) then some (Ze, 0, 1) else (cut? a0.size 8 (Zr (8 + r1.1))).bind fun p3 => (Pfi.f k (a0.extract p3.1 p3.2)).bind fun r4 => (cut? a0.size 0 (Zr (8 + r1.1))).bind fun p5 => bif !decide (r4 = a0.extract p5.1 p5.2) then some (Ze, 0, 2) else some (a0.extract p3.1 p3.2, Zr (8 + r1.1), 0)
theorem Pgh.ok : Yg 270 ⟨⟨[.v .str], [.f .str, .f K0, .f K0]⟩, fun k (x : Zb) => Pgh.f k x⟩ := Yq 40 Yv (.n (.n (.seq (.blk (.n (.cond (.n .l) (.n (.cond (.n .l) .c))))) (.n (.seq .c (.n .l)))))) Tryz.func270 (Yc Pbw.ok (Yc Paa.ok (Yc Pfi.ok Yn)))
def Peq.b0 (s : Zb × T46) : Option ((Zb × T46) ⊕ Unit ⊕ T17) :=
 (cut? s.1.size s.2.2.2.2 s.1.size).bind fun p1 => (Pgh.f k (s.1.extract p1.1 p1.2)).bind fun r2 => bif !decide (r2.2.2 = 0) then some (.inr (.inr s.2.2.2)) else (app? (limOf 16) s.2.2.2.1 ([r2.1])).bind fun l3 => some (.inl (s.1, s.2.1, s.2.2.1, l3, Zr (s.2.2.2.2 + r2.2.1)))
def Peq.d0 (k : Nat) (y : Unit) : Option T17 :=
 none
def Peq.f (a0 : Zb) : Option T17 :=
 (iter (X := Unit ⊕ T17) (Peq.b0 k) k (a0, [], 0, [], 0)).bind fun r => match r with | .inl y => Peq.d0 k y | .inr o => some o
theorem Peq.ok : Yg 267 ⟨⟨[.v .str], [.f K24, .f K0]⟩, fun k (x : Zb) => Peq.f k x⟩ := Yq 29 (Yk 9 .str Yv) (.m 3 (.lp [.s 0 .str, .o 2 K24, .s 3 K0, .o 4 K24, .s 5 K0] 0 (.blk (.n (.seq .c (.n .l)))))) Tryz.func267 (Yc Pgh.ok Yn)
def Pli.f (a0 : T42) : Option Bool :=
 bif decide (a0.1 = 1) then (Phe.f k a0.2.1).bind fun r1 => bif r1 then (Phf.f k a0.2.2.2.1).bind fun r2 => bif r2 then bif decide (a0.2.2.1 = 0) then some (decide (a0.2.2.2.2 = Ze)) else some false else some false else some false else bif decide (a0.1 = 2) then (Paa.f k a0.2.1 1 100000).bind fun r3 => bif r3 then (Paa.f k a0.2.2.1 1 100000).bind fun r4 => bif r4 then bif decide ((a0.2.2.2.2.size : Int) ≤ 900) then some (decide (a0.2.2.2.1 = 0)) else some false else some false else some false else bif decide (a0.1 = 3) then bif decide (a0.1 = 3) && (decide (a0.2.1 = 0) && (decide (a0.2.2.1 = a0.2.2.1) && (decide (a0.2.2.2.1 = 0) && (decide (a0.2.2.2.2 = Ze) && true)))) then (Paa.f k a0.2.2.1 1 100000).bind fun r5 => some r5 else some false else bif decide (a0.1 = 4) then (Pgo.f k a0.2.2.1 a0.2.1).bind fun r6 => bif r6 then bif decide (a0.2.2.2.1 = 0) then some (decide (a0.2.2.2.2 = Ze)) else some false else some false else some false
theorem Pli.ok : Yg 310 ⟨⟨[.w K22], [.f .bool]⟩, fun k (x : T42) => Pli.f k x⟩ := Yq 75 Yv (.n (.seq (.n (.blk (.n (.cond (.n .l) (.n (.cond (.n .l) (.n (.cond (.n .l) .c)))))))) (.n .l))) Tryz.func310 (Yc Phe.ok (Yc Phf.ok (Yc Paa.ok (Yc Pgo.ok Yn))))
def Piz.f (a0 : T42) : Option Zb :=
 (Pli.f k a0).bind fun r1 => bif !r1 then some Ze else (Pcf.f k a0.2.1).bind fun r2 => (cat? (strOfNums ([IntKind.wrap .u8 (a0.1)])) r2).bind fun s3 => (Pcf.f k a0.2.2.1).bind fun r4 => (cat? s3 r4).bind fun s5 => (Pcf.f k (Zr (a0.2.2.2.1 + 1))).bind fun r6 => (cat? s5 r6).bind fun s7 => (cat? s7 a0.2.2.2.2).bind fun s8 => some s8
theorem Piz.ok : Yg 300 ⟨⟨[.w K22], [.f .str]⟩, fun k (x : T42) => Piz.f k x⟩ := Yq 27 (Yk 5 K30 Yv) (.n (.seq .c (.n .l))) Tryz.func300 (Yc Pli.ok (Yc Pcf.ok Yn))
def Phb.f (a0 : Zb) : Option (T42 × Bool) :=
 (Pds.f k (a0, false)).bind fun r1 => (Pax.f k r1.2).bind fun r2 => (Pax.f k r2.2).bind fun r3 => (Pax.f k r3.2).bind fun r4 => bif r4.2.2 then some ((0, 0, 0, 0, Ze), false) else bif decide (a0 = Ze) then some ((0, 0, 0, 0, Ze), false) else (Piz.f k (r1.1, r2.1, r3.1, Zr (r4.1 - 1), r4.2.1)).bind fun r5 => bif !decide (r5 = a0) then some ((0, 0, 0, 0, Ze), false) else some ((r1.1, r2.1, r3.1, Zr (r4.1 - 1), r4.2.1), true)
theorem Phb.ok : Yg 268 ⟨⟨[.v .str], [.t K22, .f .bool]⟩, fun k (x : Zb) => Phb.f k x⟩ := Yq 45 Yv (.m 8 (.seq .c (.n .l))) Tryz.func268 (Yc Pds.ok (Yc Pax.ok (Yc Piz.ok Yn)))
def Pfj.f (k : Nat) (a0 : T3) : Option Int :=
 bif decide (0 < (a0.2.2.2.2.length : Int)) then (inb? a0.2.2.2.2.length (Zr ((a0.2.2.2.2.length : Int) - 1))).bind fun j1 => (a0.2.2.2.2[j1]?).bind fun y2 => some y2.1 else some a0.2.2.2.1
theorem Pfj.ok : Yg 301 ⟨⟨[.w K6], [.f K0]⟩, fun k (x : T3) => Pfj.f k x⟩ := Yq 18 Yv (.n (.seq (.n .c) (.n .l))) Tryz.func301 Yn
def Pez.c0 (k : Nat) (y : Bool × T3 × T42) : Option (Bool × T3) :=
 some (true, y.2.2.2.1, y.2.2.2.2.2.1, y.2.1.2.2)
def Pez.f (a0 : T3) (a1 : T42) : Option (Bool × T3) :=
 bif decide (a1.1 = 1) then Option.bind (α := (Bool × T3 × T42) ⊕ (Bool × T3)) (bif decide (a1.2.1 < a0.1) then some (.inr (false, a0)) else bif decide (a1.2.1 = a0.1) then bif !decide (a0.2.1 = (-1)) then bif !decide (a0.2.1 = a1.2.2.2.1) then some (.inr (false, a0)) else some (.inl (false, a0, a1)) else some (.inl (false, a0, a1)) else some (.inl (false, a0, a1))) fun r => match r with | .inl y => Pez.c0 k y | .inr o => some o else bif decide (a1.1 = 2) then (Pfl.f k a0).bind fun r1 => bif !decide (a1.2.2.1 = Zr (r1 + 1)) then some (false, a0) else bif decide (60 ≤ (a0.2.2.2.2.length : Int)) then some (false, a0) else (Pfj.f k a0).bind fun r2 => (Paa.f k a1.2.1 r2 a0.1).bind fun r3 => bif !r3 then some (false, a0) else (app? (limOf 24) a0.2.2.2.2 ([(a1.2.1, a1.2.2.2.2)])).bind fun l4 => some (true, a0.1, a0.2.1, a0.2.2.1, a0.2.2.2.1, l4) else bif decide (a1.1 = 3) then (Pfl.f k a0).bind fun r5 => (Paa.f k a1.2.2.1 (Zr (a0.2.2.1 + 1)) r5).bind fun r6 => bif !r6 then some (false, a0) else (cut? a0.2.2.2.2.length 0 (Zr ((Zr (a1.2.2.1 - a0.2.2.1)) - 1))).bind fun p7 => some (true, a0.1, a0.2.1, a0.2.2.1, a0.2.2.2.1, (a0.2.2.2.2.take p7.2).drop p7.1) else some (false, a0)
theorem Pez.ok : Yg 269 ⟨⟨[.box 77 K6 true true, .w K22], [.f .bool]⟩, fun k (x : T3 × T42) => Pez.f k x.1 x.2⟩ := Yq 128 (Yk 145 K8 Yv) (.n (.seq (.n (.blk (.n (.cond (.seq (.cut [.ptr 0 1, .ptr 3 1000, .s 4 .bool, .box 1 77 K6 true false, .box 1000 229 K22 false false] .c) (.n .l)) (.n (.cond (.seq .c .l) (.n (.cond (.seq .c .l) (.n .l))))))))) (.n .l))) Tryz.func269 (Yc Pfl.ok (Yc Pfj.ok (Yc Paa.ok Yn)))
def Pek.b0 (s : Int × Bool × Int × List Zb × Int × Int × T3 × T3) : Option ((Int × Bool × Int × List Zb × Int × Int × T3 × T3) ⊕ T39 ⊕ (T3 × T31)) :=
 bif decide (s.2.2.2.2.2.1 < s.2.2.2.2.1) then (inb? s.2.2.2.1.length s.2.2.2.2.2.1).bind fun j1 => (s.2.2.2.1[j1]?).bind fun y2 => (Phb.f k y2).bind fun r3 => bif !r3.2 then some (.inr (.inl (s.1, s.2.1, s.2.2.1, s.2.2.2.2.2.2))) else (Pez.f k s.2.2.2.2.2.2.2 r3.1).bind fun r4 => bif !r4.1 then some (.inr (.inl (s.1, s.2.1, s.2.2.1, s.2.2.2.2.2.2.1, r4.2))) else some (.inl (s.1, s.2.1, Zr ((Zr (s.2.2.1 + 8)) + (y2.size : Int)), s.2.2.2.1, s.2.2.2.2.1, Zr (s.2.2.2.2.2.1 + 1), s.2.2.2.2.2.2.1, r4.2)) else some (.inr (.inl (s.1, s.2.1, s.2.2.1, s.2.2.2.2.2.2)))
def Pek.d0 (k : Nat) (y : T39) : Option (T3 × T31) :=
 some (y.2.2.2.2, y.2.2.1, true)
def Pek.f (a0 : Zb) : Option (T3 × T31) :=
 (Peq.f k a0).bind fun r1 => bif decide ((r1.1.length : Int) = 0) then some ((0, 0, 0, 0, []), 0, false) else (inb? r1.1.length 0).bind fun j2 => (r1.1[j2]?).bind fun y3 => (Phb.f k y3).bind fun r4 => bif !r4.2 then some ((0, 0, 0, 0, []), 0, false) else bif !decide (r4.1.1 = 4) then some ((0, 0, 0, 0, []), 0, false) else (inb? r1.1.length 0).bind fun j5 => (r1.1[j5]?).bind fun y6 => (cut? r1.1.length 1 r1.1.length).bind fun p7 => (iter (X := T39 ⊕ (T3 × T31)) (Pek.b0 k) k (0, false, Zr (8 + (y6.size : Int)), (r1.1.take p7.2).drop p7.1, (((r1.1.take p7.2).drop p7.1).length : Int), 0, (0, 0, 0, 0, []), r4.1.2.1, (-1), r4.1.2.2.1, r4.1.2.1, [])).bind fun r => match r with | .inl y => Pek.d0 k y | .inr o => some o
theorem Pek.ok : Yg 209 ⟨⟨[.v .str], [.t K6, .f K0, .f .bool]⟩, fun k (x : Zb) => Pek.f k x⟩ := Yq 78 Yv (.n (.n (.seq .c (.n (.seq .c (.n (.n (.seq (.n (.lp [.ptr 2 1000, .s 3 K0, .s 4 .bool, .ptr 9 8007, .s 10 K0, .o 52 K24, .s 53 K0, .s 54 K0, .box 1000 77 K6 true false, .box 8007 77 K6 true false] 799 (.n (.seq (.cond .l .l) (.seq (.blk (.n (.n (.seq (.n (.cond .l .l)) .l)))) .l))))) (.n .l))))))))) Tryz.func209 (Yc Peq.ok (Yc Phb.ok (Yc Pez.ok Yn)))
def Pht.f (a0 : Int × T10) : Option Zb :=
 (Phd.f k a0).bind fun r1 => bif !r1 then some Ze else bif decide (a0.1 = 0) && (decide (a0.2.1 = 0) && (decide (a0.2.2 = Ze) && true)) then some Ze else (Pbt.f k a0.1 4).bind fun r2 => (Pbt.f k a0.2.1 4).bind fun r3 => (cat? r2 r3).bind fun s4 => (Pbt.f k (a0.2.2.size : Int) 4).bind fun r5 => (cat? s4 r5).bind fun s6 => (Pdq.f k a0.2.2).bind fun r7 => (cat? s6 r7).bind fun s8 => (Pfi.f k s8).bind fun r9 => (cat? r9 a0.2.2).bind fun s10 => some s10
theorem Pht.ok : Yg 238 ⟨⟨[.w K16], [.f .str]⟩, fun k (x : Int × T10) => Pht.f k x⟩ := Yq 31 Yv (.n (.seq .c (.n .l))) Tryz.func238 (Yc Phd.ok (Yc Pbt.ok (Yc Pdq.ok (Yc Pfi.ok Yn))))
def Phs.f (a0 : Zb) : Option ((Int × T10) × Bool) :=
 (Pgh.f k a0).bind fun r1 => bif !decide (r1.2.2 = 0) then some ((0, 0, Ze), false) else bif !decide ((r1.1.size : Int) = 44) then some ((0, 0, Ze), false) else (cut? a0.size r1.2.1 a0.size).bind fun p2 => (Pbw.f k r1.1 4).bind fun r3 => (cut? r1.1.size 4 r1.1.size).bind fun p4 => (Pbw.f k (r1.1.extract p4.1 p4.2) 4).bind fun r5 => (Pht.f k (r3.1, r5.1, a0.extract p2.1 p2.2)).bind fun r6 => bif !decide (r6 = a0) then some ((0, 0, Ze), false) else some ((r3.1, r5.1, a0.extract p2.1 p2.2), true)
theorem Phs.ok : Yg 210 ⟨⟨[.v .str], [.t K16, .f .bool]⟩, fun k (x : Zb) => Phs.f k x⟩ := Yq 45 Yv (.n (.n (.seq .c (.m 3 (.seq .c (.n .l)))))) Tryz.func210 (Yc Pgh.ok (Yc Pbw.ok (Yc Pht.ok Yn)))
def Pkv.f (a0 : T3) : Option T3 :=
 (Pbd.f k a0.2.2.2.2).bind fun r1 => some (a0.1, a0.2.1, a0.2.2.1, a0.2.2.2.1, r1)
theorem Pkv.ok : Yg 212 ⟨⟨[.w K6], [.t K6]⟩, fun k (x : T3) => Pkv.f k x⟩ := Yq 8 Yv (.m 3 .l) Tryz.func212 (Yc Pbd.ok Yn)
def Pba.c2 (k : Nat) (y : T25) : Option (T38 ⊕ T23) :=
 bif decide (y.2.2.2.1.1 < y.2.2.2.2.1.2.1) then some (.inl (y.1, y.2.2.1, (y.2.2.2.2.1.2.1, (-1), y.2.2.2.2.1.1, y.2.2.2.2.1.2.1, y.2.1), y.2.2.2.2.2)) else some (.inl (y.1, y.2.2.1, (y.2.2.2.1.1, y.2.2.2.1.2.1, y.2.2.2.2.1.1, y.2.2.2.2.1.2.1, y.2.1), y.2.2.2.2.2))
def Pba.c3 (y : T38) : Option T23 :=
 (Pkv.f k y.2.2.1).bind fun r1 => some ((r1, y.2.2.2.2), 0)
def Pba.c1 (y : Int × Zb × Int × T21) : Option T23 :=
 bif decide (y.2.2.1 < (y.2.1.size : Int)) then Option.bind (α := T38 ⊕ T23) (bif decide (y.2.2.2.2.2.1.2.2.1 < y.2.2.2.2.2.2.1) then Option.bind (α := T25 ⊕ T23) (bif decide (Zr (y.2.2.2.2.2.2.1 - y.2.2.2.2.2.1.2.2.1) ≤ (y.2.2.2.2.2.1.2.2.2.2.length : Int)) then (inb? y.2.2.2.2.2.1.2.2.2.2.length (Zr ((Zr (y.2.2.2.2.2.2.1 - y.2.2.2.2.2.1.2.2.1)) - 1))).bind fun j1 => (y.2.2.2.2.2.1.2.2.2.2[j1]?).bind fun y2 => bif decide (y2.1 = y.2.2.2.2.2.2.2.1) then (cut? y.2.2.2.2.2.1.2.2.2.2.length (Zr (y.2.2.2.2.2.2.1 - y.2.2.2.2.2.1.2.2.1)) y.2.2.2.2.2.1.2.2.2.2.length).bind fun p3 => (Pbd.f k ((y.2.2.2.2.2.1.2.2.2.2.take p3.2).drop p3.1)).bind fun r4 => some (.inl (y.1, r4, y.2.2.2.2.1, y.2.2.2.2.2.1, y.2.2.2.2.2.2, (0, 0, 0, 0, []), y.2.2.2.2.2.2, true)) else some (.inl (y.1, [], y.2.2.2.2.1, y.2.2.2.2.2.1, y.2.2.2.2.2.2, (0, 0, 0, 0, []), y.2.2.2.2.2.2, true)) else some (.inl (y.1, [], y.2.2.2.2.1, y.2.2.2.2.2.1, y.2.2.2.2.2.2, (0, 0, 0, 0, []), y.2.2.2.2.2.2, true))) fun r => match r with | .inl y => Pba.c2 k y | .inr o => some (.inr o) else some (.inl (y.1, y.2.2.2.2.1, y.2.2.2.2.2.1, (0, 0, 0, 0, []), y.2.2.2.2.2.2, true))) fun r => match r with | .inl y => Pba.c3 k y | .inr o => some o else bif decide (y.2.2.2.2.2.1.2.2.1 < y.2.2.2.2.2.2.1) then Option.bind (α := T38 ⊕ T23) (bif decide (y.2.2.2.2.2.1.2.2.1 < y.2.2.2.2.2.2.1) then Option.bind (α := T25 ⊕ T23) (bif decide (Zr (y.2.2.2.2.2.2.1 - y.2.2.2.2.2.1.2.2.1) ≤ (y.2.2.2.2.2.1.2.2.2.2.length : Int)) then (inb? y.2.2.2.2.2.1.2.2.2.2.length (Zr ((Zr (y.2.2.2.2.2.2.1 - y.2.2.2.2.2.1.2.2.1)) - 1))).bind fun j5 => (y.2.2.2.2.2.1.2.2.2.2[j5]?).bind fun y6 => bif decide (y6.1 = y.2.2.2.2.2.2.2.1) then (cut? y.2.2.2.2.2.1.2.2.2.2.length (Zr (y.2.2.2.2.2.2.1 - y.2.2.2.2.2.1.2.2.1)) y.2.2.2.2.2.1.2.2.2.2.length).bind fun p7 => (Pbd.f k ((y.2.2.2.2.2.1.2.2.2.2.take p7.2).drop p7.1)).bind fun r8 => some (.inl (y.1, r8, y.2.2.2.2.1, y.2.2.2.2.2.1, y.2.2.2.2.2.2, (0, 0, 0, 0, []), y.2.2.2.2.2.2, true)) else some (.inl (y.1, [], y.2.2.2.2.1, y.2.2.2.2.2.1, y.2.2.2.2.2.2, (0, 0, 0, 0, []), y.2.2.2.2.2.2, true)) else some (.inl (y.1, [], y.2.2.2.2.1, y.2.2.2.2.2.1, y.2.2.2.2.2.2, (0, 0, 0, 0, []), y.2.2.2.2.2.2, true))) fun r => match r with | .inl y => Pba.c2 k y | .inr o => some (.inr o) else some (.inl (y.1, y.2.2.2.2.1, y.2.2.2.2.2.1, (0, 0, 0, 0, []), y.2.2.2.2.2.2, true))) fun r => match r with | .inl y => Pba.c3 k y | .inr o => some o else (Pef.f k y.2.2.2.1 Zl0).bind fun r9 => bif decide (0 ≤ r9) then Option.bind (α := T38 ⊕ T23) (bif decide (y.2.2.2.2.2.1.2.2.1 < y.2.2.2.2.2.2.1) then Option.bind (α := T25 ⊕ T23) (bif decide (Zr (y.2.2.2.2.2.2.1 - y.2.2.2.2.2.1.2.2.1) ≤ (y.2.2.2.2.2.1.2.2.2.2.length : Int)) then (inb? y.2.2.2.2.2.1.2.2.2.2.length (Zr ((Zr (y.2.2.2.2.2.2.1 - y.2.2.2.2.2.1.2.2.1)) - 1))).bind fun j10 => (y.2.2.2.2.2.1.2.2.2.2[j10]?).bind fun y11 => bif decide (y11.1 = y.2.2.2.2.2.2.2.1) then (cut? y.2.2.2.2.2.1.2.2.2.2.length (Zr (y.2.2.2.2.2.2.1 - y.2.2.2.2.2.1.2.2.1)) y.2.2.2.2.2.1.2.2.2.2.length).bind fun p12 => (Pbd.f k ((y.2.2.2.2.2.1.2.2.2.2.take p12.2).drop p12.1)).bind fun r13 => some (.inl (y.1, r13, y.2.2.2.2.1, y.2.2.2.2.2.1, y.2.2.2.2.2.2, (0, 0, 0, 0, []), y.2.2.2.2.2.2, true)) else some (.inl (y.1, [], y.2.2.2.2.1, y.2.2.2.2.2.1, y.2.2.2.2.2.2, (0, 0, 0, 0, []), y.2.2.2.2.2.2, true)) else some (.inl (y.1, [], y.2.2.2.2.1, y.2.2.2.2.2.1, y.2.2.2.2.2.2, (0, 0, 0, 0, []), y.2.2.2.2.2.2, true))) fun r => match r with | .inl y => Pba.c2 k y | .inr o => some (.inr o) else some (.inl (y.1, y.2.2.2.2.1, y.2.2.2.2.2.1, (0, 0, 0, 0, []), y.2.2.2.2.2.2, true))) fun r => match r with | .inl y => Pba.c3 k y | .inr o => some o else (Pef.f k y.2.2.2.1 Zl2).bind fun r14 => Option.bind (α := T38 ⊕ T23) (bif decide (y.2.2.2.2.2.1.2.2.1 < y.2.2.2.2.2.2.1) then Option.bind (α := T25 ⊕ T23) (bif decide (Zr (y.2.2.2.2.2.2.1 - y.2.2.2.2.2.1.2.2.1) ≤ (y.2.2.2.2.2.1.2.2.2.2.length : Int)) then (inb? y.2.2.2.2.2.1.2.2.2.2.length (Zr ((Zr (y.2.2.2.2.2.2.1 - y.2.2.2.2.2.1.2.2.1)) - 1))).bind fun j15 => (y.2.2.2.2.2.1.2.2.2.2[j15]?).bind fun y16 => bif decide (y16.1 = y.2.2.2.2.2.2.2.1) then (cut? y.2.2.2.2.2.1.2.2.2.2.length (Zr (y.2.2.2.2.2.2.1 - y.2.2.2.2.2.1.2.2.1)) y.2.2.2.2.2.1.2.2.2.2.length).bind fun p17 => (Pbd.f k ((y.2.2.2.2.2.1.2.2.2.2.take p17.2).drop p17.1)).bind fun r18 => some (.inl (y.1, r18, y.2.2.2.2.1, y.2.2.2.2.2.1, y.2.2.2.2.2.2, (0, 0, 0, 0, []), y.2.2.2.2.2.2, (decide (0 ≤ r14)))) else some (.inl (y.1, [], y.2.2.2.2.1, y.2.2.2.2.2.1, y.2.2.2.2.2.2, (0, 0, 0, 0, []), y.2.2.2.2.2.2, (decide (0 ≤ r14)))) else some (.inl (y.1, [], y.2.2.2.2.1, y.2.2.2.2.2.1, y.2.2.2.2.2.2, (0, 0, 0, 0, []), y.2.2.2.2.2.2, (decide (0 ≤ r14))))) fun r => match r with | .inl y => Pba.c2 k y | .inr o => some (.inr o) else some (.inl (y.1, y.2.2.2.2.1, y.2.2.2.2.2.1, (0, 0, 0, 0, []), y.2.2.2.2.2.2, (decide (0 ≤ r14))))) fun r => match r with | .inl y => Pba.c3 k y | .inr o => some o
def Pba.c0 (y : Int × Zb × Int × Bool × T21) : Option T23 :=
 Option.bind (α := (Int × Zb × Int × T21) ⊕ T23) (bif !y.2.2.2.1 then some (.inr (((0, 0, 0, 0, []), (0, 0, Ze), false), 2)) else bif decide (y.2.2.2.2.2.2.2.1 < y.2.2.2.2.2.2.1.2.2.1) then some (.inr (((0, 0, 0, 0, []), (0, 0, Ze), false), 2)) else bif decide (y.2.2.2.2.2.2.1.2.2.1 = y.2.2.2.2.2.2.2.1) then bif !decide (y.2.2.2.2.2.2.1.2.2.2.1 = y.2.2.2.2.2.2.2.2.1) then some (.inr (((0, 0, 0, 0, []), (0, 0, Ze), false), 2)) else some (.inl (y.1, y.2.1, y.2.2.1, y.2.2.2.2)) else some (.inl (y.1, y.2.1, y.2.2.1, y.2.2.2.2))) fun r => match r with | .inl y => Pba.c1 k y | .inr o => some o
def Pba.f (a0 : T0) : Option T23 :=
 (Pcl.f k a0).bind fun r1 => bif !r1 then some (((0, 0, 0, 0, []), (0, 0, Ze), false), 2) else (Plq.f k a0 (⟨#[108, 111, 103]⟩ : Zb)).bind fun r2 => bif !r2.2 then some (((0, 0, 0, 0, []), (0, 0, Ze), false), 1) else (Pek.f k r2.1).bind fun r3 => Option.bind (α := (Int × Zb × Int × Bool × T21) ⊕ T23) ((Plq.f k a0 (⟨#[115, 110, 97, 112]⟩ : Zb)).bind fun r4 => bif r4.2 then (Phs.f k r4.1).bind fun r5 => bif r3.2.2 then some (.inl (0, r2.1, r3.2.1, r5.2, a0, ((0, 0, 0, 0, []), (0, 0, Ze), false), r3.1, r5.1)) else some (.inl (0, r2.1, r3.2.1, false, a0, ((0, 0, 0, 0, []), (0, 0, Ze), false), r3.1, r5.1)) else some (.inl (0, r2.1, r3.2.1, r3.2.2, a0, ((0, 0, 0, 0, []), (0, 0, Ze), false), r3.1, 0, 0, Ze))) fun r => match r with | .inl y => Pba.c0 k y | .inr o => some o
theorem Pba.ok : Yg 106 ⟨⟨[.w K2], [.t K19, .f K0]⟩, fun k (x : T0) => Pba.f k x⟩ := Yq 153 (Yk 145 K8 Yv) (.n (.seq .c (.n (.seq .c (.n (.n (.seq (.cut [.ptr 1 1000, .ptr 2 1001, .s 3 K0, .s 4 .str, .ptr 6 7006, .s 7 K0, .s 8 .bool, .ptr 9 8001, .box 1000 53 K2 false false, .box 1001 79 K19 true false, .box 7006 77 K6 true false, .box 8001 48 K16 false false] (.n (.n (.cond (.n (.n .l)) .l)))) (.seq (.cut [.ptr 1 1000, .ptr 2 1001, .s 3 K0, .s 4 .str, .ptr 6 7006, .s 7 K0, .ptr 9 8001, .box 1000 53 K2 false false, .box 1001 79 K19 true false, .box 7006 77 K6 true false, .box 8001 48 K16 false false] .c) (.n (.seq (.cut [.ptr 2 1001, .s 3 K0, .ptr 6 7006, .ptr 14 16023, .box 1001 79 K19 true false, .box 7006 77 K6 true false, .box 16023 79 K19 true false] (.n (.cond (.n (.n (.seq (.cut [.ptr 2 1001, .s 3 K0, .ptr 6 7006, .ptr 9 8001, .ptr 14 16023, .o 16 K23, .box 1001 79 K19 true false, .box 7006 77 K6 true false, .box 8001 48 K16 false false, .box 16023 79 K19 true false] (.n (.cond .l .l))) (.m 3 .c)))) .l))) (.n (.n .l)))))))))))) Tryz.func106 (Yc Pcl.ok (Yc Plq.ok (Yc Pek.ok (Yc Phs.ok (Yc Pbd.ok (Yc Pkv.ok (Yc Pef.ok Yn)))))))
def Pbq.b0 (k : Nat) (s : List T10 × List T10 × Bool × T8) : Option ((List T10 × List T10 × Bool × T8) ⊕ Bool ⊕ Bool) :=
 bif decide (s.2.2.2.2 < s.2.2.2.1) then (inb? s.1.length s.2.2.2.2).bind fun j1 => (s.1[j1]?).bind fun y2 => (inb? s.2.1.length s.2.2.2.2).bind fun j3 => (s.2.1[j3]?).bind fun y4 => bif !(decide (y2.1 = y4.1) && (decide (y2.2 = y4.2) && true)) then some (.inr (.inr false)) else some (.inl (s.1, s.2.1, s.2.2.1, s.2.2.2.1, Zr (s.2.2.2.2 + 1))) else some (.inr (.inl s.2.2.1))
def Pbq.d0 (k : Nat) (y : Bool) : Option Bool :=
 some true
def Pbq.f (a0 : List T10) (a1 : List T10) : Option Bool :=
 bif !decide ((a0.length : Int) = (a1.length : Int)) then some false else (iter (X := Bool ⊕ Bool) (Pbq.b0 k) k (a0, a1, false, (a0.length : Int), 0)).bind fun r => match r with | .inl y => Pbq.d0 k y | .inr o => some o
theorem Pbq.ok : Yg 213 ⟨⟨[.v K23, .v K23], [.f .bool]⟩, fun k (x : List T10 × List T10) => Pbq.f k x.1 x.2⟩ := Yq 26 Yv (.n (.seq .c (.seq (.n (.lp [.s 0 K23, .s 1 K23, .s 4 .bool, .s 12 K0, .s 13 K0] 4 (.n (.seq (.cond .l .l) (.seq (.blk (.n .c)) .l))))) (.n .l)))) Tryz.func213 Yn
def Pgi.f (a0 : T3) (a1 : T3) : Option Bool :=
 bif decide (a0.1 = a1.1) then bif decide (a0.2.1 = a1.2.1) then bif decide (a0.2.2.1 = a1.2.2.1) then bif decide (a0.2.2.2.1 = a1.2.2.2.1) then (Pbq.f k a0.2.2.2.2 a1.2.2.2.2).bind fun r1 => some r1 else some false else some false else some false else some false
theorem Pgi.ok : Yg 107 ⟨⟨[.w K6, .w K6], [.f .bool]⟩, fun k (x : T3 × T3) => Pgi.f k x.1 x.2⟩ := Yq 38 Yv (.n (.n .l)) Tryz.func107 (Yc Pbq.ok Yn)
def Pfx.c0 (y : Bool × T5 × T2) : Option Bool :=
 (Pba.f k y.2.1.2.2.2.2.2.2.1).bind fun r1 => bif decide (r1.2 = 0) then (Pei.f k y.2.2).bind fun r2 => (Pgi.f k r1.1.1 r2).bind fun r3 => bif r3 then bif decide (r1.1.2.1.1 = y.2.1.2.2.2.2.2.1.1) && (decide (r1.1.2.1.2.1 = y.2.1.2.2.2.2.2.1.2.1) && (decide (r1.1.2.1.2.2 = y.2.1.2.2.2.2.2.1.2.2) && true)) then some (!r1.1.2.2) else some false else some false else some false
def Pfx.f (a0 : T5) : Option Bool :=
 (Pjw.f k a0.2.2.2.1).bind fun r1 => bif !r1 then some false else bif !decide (a0.2.2.2.1.1 = a0.1) then some false else bif !decide (a0.2.2.2.1.2.1 = a0.2.1) then some false else (Pbg.f k a0.2.2.2.2.1).bind fun r2 => bif !r2 then some false else (Phd.f k a0.2.2.2.2.2.1).bind fun r3 => bif !r3 then some false else bif !decide (a0.2.2.2.2.2.1.1 = a0.2.2.2.1.2.2.2.2.2.2.1) then some false else bif !decide (a0.2.2.2.2.2.1.2.1 = a0.2.2.2.1.2.2.2.2.2.2.2.1) then some false else Option.bind (α := (Bool × T5 × T2) ⊕ Bool) ((Pai.f k a0.2.2.2.2.2.1.2.2).bind fun r4 => bif !r4.2 then bif !(decide (a0.2.2.2.2.2.1.1 = 0) && (decide (a0.2.2.2.2.2.1.2.1 = 0) && (decide (a0.2.2.2.2.2.1.2.2 = Ze) && true))) then some (.inr false) else some (.inl (false, a0, a0.2.2.2.1)) else some (.inl (false, a0, a0.2.2.2.1))) fun r => match r with | .inl y => Pfx.c0 k y | .inr o => some o
theorem Pfx.ok : Yg 44 ⟨⟨[.w K1], [.f .bool]⟩, fun k (x : T5) => Pfx.f k x⟩ := Yq 96 Yv (.n (.n (.seq .c (.seq (.cut [.ptr 1 1000, .s 2 .bool, .ptr 3 2002, .box 1000 55 K1 false false, .box 2002 43 K4 false false] (.n .c)) (.n (.n .l)))))) Tryz.func44 (Yc Pjw.ok (Yc Pbg.ok (Yc Phd.ok (Yc Pai.ok (Yc Pba.ok (Yc Pei.ok (Yc Pgi.ok Yn)))))))
def Phv.f (a0 : T2) : Option Bool :=
 bif decide (a0.1 = 0) then bif decide (a0.2.1 = 0) then (Pei.f k a0).bind fun r1 => (Pgi.f k r1 (0, 0, 0, 0, [])).bind fun r2 => bif r2 then bif decide (a0.2.2.2.2.1 = 0) then bif decide (a0.2.2.2.2.2.1 = 0) then bif decide (a0.2.2.2.2.2.2.2.2.2.1 = 0) then some (decide (Zr ((Zr ((a0.2.2.2.2.2.2.2.2.2.2.1.length : Int) + (a0.2.2.2.2.2.2.2.2.2.2.2.1.length : Int))) + (a0.2.2.2.2.2.2.2.2.2.2.2.2.length : Int)) = 0)) else some false else some false else some false else some false else some false else some false
theorem Phv.ok : Yg 45 ⟨⟨[.w K4], [.f .bool]⟩, fun k (x : T2) => Phv.f k x⟩ := Yq 45 Yv (.n (.n .l)) Tryz.func45 (Yc Pei.ok (Yc Pgi.ok Yn))
def Pjd.f (k : Nat) (a0 : T1) : Option Bool :=
 some (decide (Zr ((Zr ((a0.1.length : Int) + (a0.2.1.length : Int))) + (a0.2.2.length : Int)) = 0))
theorem Pjd.ok : Yg 46 ⟨⟨[.w K3], [.f .bool]⟩, fun k (x : T1) => Pjd.f k x⟩ := Yq 15 Yv (.n (.n .l)) Tryz.func46 Yn
def Pfr.c0 (y : Bool × T5) : Option Bool :=
 bif y.2.2.2.1 then (Pfx.f k y.2).bind fun r1 => some r1 else (Phv.f k y.2.2.2.2.1).bind fun r2 => bif r2 then (Pjd.f k y.2.2.2.2.2.1).bind fun r3 => bif r3 then bif decide (y.2.2.2.2.2.2.1.1 = 0) && (decide (y.2.2.2.2.2.2.1.2.1 = 0) && (decide (y.2.2.2.2.2.2.1.2.2 = Ze) && true)) then some (decide (y.2.2.2.2.2.2.2.2.1 = (-1))) else some false else some false else some false
def Pfr.f (a0 : T5) : Option Bool :=
 Option.bind (α := (Bool × T5) ⊕ Bool) ((Paa.f k a0.2.1 1 5).bind fun r1 => bif !r1 then some (.inr false) else (Paa.f k a0.1 0 (Zr (a0.2.1 - 1))).bind fun r2 => bif !r2 then some (.inr false) else (Pcl.f k a0.2.2.2.2.2.2.1).bind fun r3 => bif !r3 then some (.inr false) else (Paa.f k a0.2.2.2.2.2.2.2.1 (-1) 100).bind fun r4 => bif !r4 then some (.inr false) else (Plr.f k a0.2.2.2.2.2.2.2.2.1 a0.2.2.2.2.2.2.2.2.2).bind fun r5 => bif !r5 then some (.inr false) else bif decide (a0.2.2.2.2.2.2.2.1 = (-1)) then bif !decide (Zr (a0.2.2.2.2.2.2.2.2.1 + a0.2.2.2.2.2.2.2.2.2) = 0) then some (.inr false) else some (.inl (false, a0)) else some (.inl (false, a0))) fun r => match r with | .inl y => Pfr.c0 k y | .inr o => some o
theorem Pfr.ok : Yg 11 ⟨⟨[.w K1], [.f .bool]⟩, fun k (x : T5) => Pfr.f k x⟩ := Yq 72 Yv (.n (.seq (.cut [.ptr 1 1000, .s 2 .bool, .box 1000 55 K1 false false] .c) (.seq .c (.n .l)))) Tryz.func11 (Yc Paa.ok (Yc Pcl.ok (Yc Plr.ok (Yc Pfx.ok (Yc Phv.ok (Yc Pjd.ok Yn))))))
def Pes.f (k : Nat) (a0 : List Int) : Option (List Int) :=
 (app? (limOf 8) [] a0).bind fun l1 => some l1
theorem Pes.ok : Yg 228 ⟨⟨[.v K17], [.f K17]⟩, fun k (x : List Int) => Pes.f k x⟩ := Yq 5 (Yk 3 K0 Yv) (.n (.n .l)) Tryz.func228 Yn
def Pjv.f (a0 : T2) : Option T2 :=
 (Pbd.f k a0.2.2.2.2.2.2.2.2.1).bind fun r1 => (Pes.f k a0.2.2.2.2.2.2.2.2.2.2.1).bind fun r2 => (Pes.f k a0.2.2.2.2.2.2.2.2.2.2.2.1).bind fun r3 => (Pes.f k a0.2.2.2.2.2.2.2.2.2.2.2.2).bind fun r4 => some (a0.1, a0.2.1, a0.2.2.1, a0.2.2.2.1, a0.2.2.2.2.1, a0.2.2.2.2.2.1, a0.2.2.2.2.2.2.1, a0.2.2.2.2.2.2.2.1, r1, a0.2.2.2.2.2.2.2.2.2.1, r2, r3, r4)
theorem Pjv.ok : Yg 139 ⟨⟨[.w K4], [.t K4]⟩, fun k (x : T2) => Pjv.f k x⟩ := Yq 20 Yv (.m 6 .l) Tryz.func139 (Yc Pbd.ok (Yc Pes.ok Yn))
def Pku.f (a0 : T1) : Option T1 :=
 (app? (limOf 40) [] a0.1).bind fun l1 => (Pes.f k a0.2.1).bind fun r2 => (app? (limOf 72) [] a0.2.2).bind fun l3 => some (l1, r2, l3)
theorem Pku.ok : Yg 140 ⟨⟨[.w K3], [.t K3]⟩, fun k (x : T1) => Pku.f k x⟩ := Yq 13 (Yk 124 K15 (Yk 135 K7 Yv)) (.n (.n .l)) Tryz.func140 (Yc Pes.ok Yn)
def Pfm.f (a0 : T0) : Option T0 :=
 (app? (limOf 32) [] a0.2.2.1).bind fun l1 => (Pcu.f k a0.2.2.2.1).bind fun r2 => (app? (limOf 48) [] a0.2.2.2.2).bind fun l3 => some (a0.1, a0.2.1, l1, r2, l3)
theorem Pfm.ok : Yg 141 ⟨⟨[.w K2], [.t K2]⟩, fun k (x : T0) => Pfm.f k x⟩ := Yq 17 (Yk 110 K13 (Yk 117 K9 Yv)) (.n (.n .l)) Tryz.func141 (Yc Pcu.ok Yn)
def Phu.f (a0 : T5) : Option T5 :=
 (Pjv.f k a0.2.2.2.1).bind fun r1 => (Pku.f k a0.2.2.2.2.1).bind fun r2 => (Pfm.f k a0.2.2.2.2.2.2.1).bind fun r3 => some (a0.1, a0.2.1, a0.2.2.1, r1, r2, a0.2.2.2.2.2.1, r3, a0.2.2.2.2.2.2.2)
theorem Phu.ok : Yg 62 ⟨⟨[.w K1], [.t K1]⟩, fun k (x : T5) => Phu.f k x⟩ := Yq 16 Yv (.m 5 .l) Tryz.func62 (Yc Pjv.ok (Yc Pku.ok (Yc Pfm.ok Yn)))
def Phh.f (k : Nat) (a0 : T4) (a1 : T12) : Option Bool :=
 some (decide (a0.2 = a1.1))
theorem Phh.ok : Yg 285 ⟨⟨[.w K5, .box 110 K13 false false], [.f .bool]⟩, fun k (x : T4 × T12) => Phh.f k x.1 x.2⟩ := Yq 9 Yv (.n (.n .l)) Tryz.func285 Yn
def Pah.b0 (s : List T4 × Int × Int × Int × T12) : Option ((List T4 × Int × Int × Int × T12) ⊕ Int ⊕ Int) :=
 bif decide (s.2.2.2.1 < s.2.2.1) then (inb? s.1.length s.2.2.2.1).bind fun j1 => (s.1[j1]?).bind fun y2 => (Phh.f k y2 s.2.2.2.2).bind fun r3 => bif r3 then some (.inr (.inr s.2.2.2.1)) else some (.inl (s.1, s.2.1, s.2.2.1, Zr (s.2.2.2.1 + 1), s.2.2.2.2)) else some (.inr (.inl s.2.1))
def Pah.d0 (k : Nat) (y : Int) : Option Int :=
 some (-1)
def Pah.f (a0 : List T4) (a1 : T12) : Option Int :=
 (iter (X := Int ⊕ Int) (Pah.b0 k) k (a0, 0, (a0.length : Int), 0, a1)).bind fun r => match r with | .inl y => Pah.d0 k y | .inr o => some o
theorem Pah.ok : Yg 273 ⟨⟨[.v K11, .clo 285 false 110 K13], [.f K0]⟩, fun k (x : List T4 × T12) => Pah.f k x.1 x.2⟩ := Yq 19 Yv (.n (.seq (.n (.lp [.s 0 K11, .fnp 1 285 false 2, .s 4 K0, .s 7 K0, .s 8 K0, .box 2 110 K13 false true] 4 (.n (.seq (.cond .l .l) (.seq (.blk (.n .c)) .l))))) (.n .l))) Tryz.func273 (Yc Phh.ok Yn)
def Pbf.f (a0 : List T4) (a1 : T12) : Option Bool :=
 (Pah.f k a0 a1).bind fun r1 => some (decide (0 ≤ r1))
theorem Pbf.ok : Yg 284 ⟨⟨[.v K11, .clo 285 false 110 K13], [.f .bool]⟩, fun k (x : List T4 × T12) => Pbf.f k x.1 x.2⟩ := Yq 9 Yv (.n (.n .l)) Tryz.func284 (Yc Pah.ok Yn)
def Pdu.f (a0 : T12) (a1 : T43) : Option Bool :=
 (Pbf.f k a1.2.2.2.1 a0).bind fun r1 => some (!r1)
def Pdu.fn : Fn := ⟨⟨[.val true K13, .box 53 K21 false false], [⟨false, .bool, true⟩]⟩, fun k (x : T12 × T43) => Pdu.f k x.1 x.2⟩
theorem Pdu.ok : Yg 283 Pdu.fn := Yq 9 Yv (.n (.n .l)) Tryz.func283 (Yc Pbf.ok Yn)
def Pab.b0 (s : List T12 × Int × Int × Int × T43) : Option ((List T12 × Int × Int × Int × T43) ⊕ Int ⊕ Int) :=
 bif decide (s.2.2.2.1 < s.2.2.1) then (inb? s.1.length s.2.2.2.1).bind fun j1 => (s.1[j1]?).bind fun y2 => (Pdu.f k y2 (s.2.2.2.2.1, s.2.2.2.2.2.1, (), s.2.2.2.2.2.2.2)).bind fun r3 => bif r3 then some (.inr (.inr s.2.2.2.1)) else some (.inl (s.1, s.2.1, s.2.2.1, Zr (s.2.2.2.1 + 1), s.2.2.2.2.1, s.2.2.2.2.2.1, (), s.2.2.2.2.2.2.2)) else some (.inr (.inl s.2.1))
def Pab.d0 (k : Nat) (y : Int) : Option Int :=
 some (-1)
def Pab.f (a0 : List T12) (a1 : T43) : Option Int :=
 (iter (X := Int ⊕ Int) (Pab.b0 k) k (a0, 0, (a0.length : Int), 0, a1.1, a1.2.1, (), a1.2.2.2)).bind fun r => match r with | .inl y => Pab.d0 k y | .inr o => some o
def Pab.fn : Fn := ⟨⟨[.val false K20, .clo 283 false 53 K21], [⟨false, K0, true⟩]⟩, fun k (x : List T12 × T43) => Pab.f k x.1 x.2⟩
theorem Pab.ok : Yg 248 Pab.fn := Yq 19 Yv (.n (.seq (.n (.lp [.s 0 K20, .fnp 1 283 false 2, .s 4 K0, .s 7 K0, .s 8 K0, .box 2 53 K21 false true] 4 (.n (.seq (.cond .l .l) (.seq (.blk (.n .c)) .l))))) (.n .l))) Tryz.func248 (Yc Pdu.ok Yn)
section
open Go.Proofs Go.Shelf Go.RowKit Go.Lib
theorem Hand.infoInode : ∃ i : TypeInfo, Tryz.prog.info? 110 = some i ∧ i.size = 3 ∧ i.bytes = 32 ∧ ∃ z, i.zero = some z ∧ z.cells.size = 3 := by
 have h : (Tryz.prog.info? 110).map (fun i => (i.zero, i.size, i.bytes)) = some (some (.agg #[.int .i64 0, .string ⟨#[]⟩, .int .i64 0]), 3, 32) := by kernel_rfl
 cases hq : Tryz.prog.info? 110 with
 | none => rw [hq] at h; cases h
 | some i =>
  rw [hq] at h
  simp only [Option.map_some, Zj, Prod.mk.injEq] at h
  exact ⟨i, rfl, h.2.1, h.2.2, _, h.1, rfl⟩
theorem Hand.zeroInode : ∃ z : Value, (∀ w, (zeroValue 110).run Tryz.prog w = .ok z w) ∧ z.cells.size = 3 ∧ ∀ n, ∀ v ∈ (Builtin.zeroCells z.cells n).toList, v.oneCell' = true := by
 refine ⟨_, Tryz.zeroValue110, rfl, fun n v hv => ?_⟩
 simp only [Builtin.zeroCells] at hv
 obtain ⟨j, hj, rfl⟩ := List.getElem_of_mem hv
 simp [Value.cells]
 have : j % 3 = 0 ∨ j % 3 = 1 ∨ j % 3 = 2 := by omega
 rcases this with h | h | h <;> rw [h] <;> rfl
end
def Plw (x : T12) : List Value := [.int .i64 x.1, .string x.2.1, .int .i64 x.2.2]
theorem Pit (x : T12) : (Plw x).length = 3 := rfl
theorem Psk {w : World} {S : Nat → Prop} (x : T12) : RdT w S K13 x (Plw x) := by unfold Plw; exact ⟨[_], [_, _], rfl, rfl, ⟨[_], [_], rfl, rfl, rfl⟩⟩
section
open Go.Proofs Go.Shelf Go.RowKit Go.Lib
set_option maxHeartbeats 4000000 in
theorem Hand.dfn0_slices_DeleteFunc_Inode_impl_swept_in (w : World) (b : Option Addr) (n c mb : Nat) (Q : World → Prop) (hix : Calls Tryz.prog 248 #[.slice b n c, .func (.func 283) #[] #[.pointer (some ⟨mb, 0, none⟩)]] w fun e w' => e = .returned (.int .i64 (-1)) ∧ Q w') :
  Calls Tryz.prog 282 #[.slice b n c, .func (.func 283) #[] #[.pointer (some ⟨mb, 0, none⟩)]] w (fun e w' => e = .returned (.slice b n c) ∧ Q w') := by
 have mixed : Tryz.prog.follows .mixedOrders = true := by kernel_rfl
 go_enter Tryz.func282, Tryz.ntmps282
 go_wp2_with (go_at_call 248; refine hix.mono ?_; rintro e w' ⟨rfl, hI⟩)
 go_ret
 exact ⟨rfl, hI⟩
set_option maxHeartbeats 4000000 in
set_option maxRecDepth 100000 in
theorem Hand.dfn_slices_DeleteFunc_Inode_impl_swept_in (w : World) (b off n c i0 mb : Nat) (cur : Array Value) (X : List Value) (E0 : Nat → Int) (E1 : Nat → Zb) (E2 : Nat → Int) (pr : Nat → Bool) (Inv : Nat → Nat → World → Prop)
  (hix : Calls Tryz.prog 248 #[.slice (some ⟨b, off, none⟩) n c, .func (.func 283) #[] #[.pointer (some ⟨mb, 0, none⟩)]] w fun e w' => e = .returned (.int .i64 i0) ∧ Inv i0 (i0 + 1) w')
  (hi0 : i0 < n) (hn63 : n ≤ 9223372036854775806) (hnc : n ≤ c)
  (hread : ∀ i j W, Inv i j W → j < n → W.cell? ⟨b, off + j * 3, none⟩ = some (.int .i64 (E0 j)) ∧ W.cell? ⟨b, off + j * 3 + 1, none⟩ = some (.string (E1 j)) ∧ W.cell? ⟨b, off + j * 3 + 2, none⟩ = some (.int .i64 (E2 j)))
  (hcall : ∀ i j W, Inv i j W → j < n → Calls Tryz.prog 283 #[.agg #[.int .i64 (E0 j), .string (E1 j), .int .i64 (E2 j)], .pointer (some ⟨mb, 0, none⟩)] (W.alloc (.cells #[.int .i64 (E0 j), .string (E1 j), .int .i64 (E2 j)] 110)) fun e W' => e = .returned (.bool (pr j)) ∧ Frm (W.alloc (.cells #[.int .i64 (E0 j), .string (E1 j), .int .i64 (E2 j)] 110)).heap.size (fun _ => False) (W.alloc (.cells #[.int .i64 (E0 j), .string (E1 j), .int .i64 (E2 j)] 110)) W')
  (hskip : ∀ i j W W', Inv i j W → j < n → pr j = true → Frm (W.alloc (.cells #[.int .i64 (E0 j), .string (E1 j), .int .i64 (E2 j)] 110)).heap.size (fun _ => False) (W.alloc (.cells #[.int .i64 (E0 j), .string (E1 j), .int .i64 (E2 j)] 110)) W' → Inv i (j + 1) W')
  (hrow : ∀ i j W W', Inv i j W → j < n → Frm (W.alloc (.cells #[.int .i64 (E0 j), .string (E1 j), .int .i64 (E2 j)] 110)).heap.size (fun _ => False) (W.alloc (.cells #[.int .i64 (E0 j), .string (E1 j), .int .i64 (E2 j)] 110)) W' → ∃ cur', W'.heap[b]? = some (.cells cur' 110 (0, 0)) ∧ off + c * 3 ≤ cur'.size)
  (hkeep : ∀ i j W W', Inv i j W → j < n → pr j = false → Frm (W.alloc (.cells #[.int .i64 (E0 j), .string (E1 j), .int .i64 (E2 j)] 110)).heap.size (fun _ => False) (W.alloc (.cells #[.int .i64 (E0 j), .string (E1 j), .int .i64 (E2 j)] 110)) W' →
   Inv (i + 1) (j + 1) (((W'.setCell ⟨b, off + i * 3, none⟩ (.int .i64 (E0 j))).setCell ⟨b, off + i * 3 + 1, none⟩ (.string (E1 j))).setCell ⟨b, off + i * 3 + 2, none⟩ (.int .i64 (E2 j))))
  (Post : Nat → World → Prop)
  (hend : ∀ i W, Inv i n W → ∃ W2, (∀ ty dc, (Builtin.clear_ #[49] ty #[.slice (some ⟨b, off + i * 3, none⟩) (n - i) dc]).run Tryz.prog W = .ok (.tuple #[]) W2) ∧ Post i W2)
  (hij : ∀ i j W, Inv i j W → i < j) :
  Calls Tryz.prog 282 #[.slice (some ⟨b, off, none⟩) n c, .func (.func 283) #[] #[.pointer (some ⟨mb, 0, none⟩)]] w (fun e w' => ∃ i, e = .returned (.slice (some ⟨b, off, none⟩) i c) ∧ Post i w') := by
 have hne1 : ((i0 : Int) == -1) = false := beq_eq_false_iff_ne.2 (by omega)
 have HC : Aside _ := hcall
 have HR : Aside _ := hread
 clear hcall hread
 have HROW0 : Aside _ := hrow
 have HSK0 : Aside _ := hskip
 have HKP0 : Aside _ := hkeep
 have HEND : Aside _ := hend
 clear hrow hskip hkeep hend
 have mixed : Tryz.prog.follows .mixedOrders = true := by kernel_rfl
 go_enter Tryz.func282, Tryz.ntmps282
 go_wp2_with (go_at_call 248; refine hix.mono ?_; rintro e w' ⟨rfl, hI⟩)
 go_loopg [5, 6, 7] n (fun gg s5 s6 _ wr => ∃ (i j : Nat), s5 = .int .i64 i ∧ s6 = .int .i64 j ∧ j ≤ n ∧ n - j ≤ gg ∧ Aside (Inv i j wr))
 case atStart => exact ⟨i0, i0 + 1, rfl, by go_num, by omega, by omega, hI⟩
 case round =>
  obtain ⟨i, j, rfl, rfl, hjn, hgg, I⟩ := hrel
  by_cases hlt : j < n
  ·have hltz : (j : Int) < (n : Int) := by omega
   obtain ⟨c0, c1, c2⟩ := HR.out i j wr I.out hlt
   have hcall := HC.out i j wr I.out hlt
   have hil := hij i j wr I.out
   have HROW : Aside _ := HROW0.out i j wr
   have HSK : Aside _ := HSK0.out i j wr
   obtain ⟨e0, C0⟩ : ∃ e, Aside (E0 j = e) := ⟨_, rfl⟩
   rw [C0.out] at c0 hcall
   obtain ⟨e1, C1⟩ : ∃ e, Aside (E1 j = e) := ⟨_, rfl⟩
   rw [C1.out] at c1 hcall
   obtain ⟨e2, C2⟩ : ∃ e, Aside (E2 j = e) := ⟨_, rfl⟩
   rw [C2.out] at c2 hcall
   cases hq : pr j with
   | true =>
    rw [hq] at hcall
    go_wp2_with (go_at_call 283; refine hcall.mono ?_; rintro e w' ⟨rfl, hf⟩)
    go_roundg (n - (j + 1))
    case measure => omega
    case rel =>
     refine ⟨i, j + 1, rfl, by go_num, by omega, Nat.le_refl _, HSK.out w' I.out hlt hq ?_⟩
     rw [C0.out, C1.out, C2.out]
     exact hf
   | false =>
    rw [hq] at hcall
    have hpost : ∀ w', Frm (wr.alloc (.cells #[.int .i64 e0, .string e1, .int .i64 e2] 110)).heap.size (fun _ => False) (wr.alloc (.cells #[.int .i64 e0, .string e1, .int .i64 e2] 110)) w' →
      w'.cell? ⟨wr.heap.size, 0, none⟩ = some (.int .i64 e0) ∧ w'.cell? ⟨wr.heap.size, 1, none⟩ = some (.string e1) ∧ w'.cell? ⟨wr.heap.size, 2, none⟩ = some (.int .i64 e2) ∧ (∃ u, w'.cell? ⟨b, off + i * 3, none⟩ = some u) ∧ (∃ u, w'.cell? ⟨b, off + i * 3 + 1, none⟩ = some u) ∧ (∃ u, w'.cell? ⟨b, off + i * 3 + 2, none⟩ = some u) ∧ w'.frozen? ⟨b, off + i * 3, none⟩ = false ∧ w'.frozen? ⟨b, off + i * 3 + 1, none⟩ = false ∧ w'.frozen? ⟨b, off + i * 3 + 2, none⟩ = false := by
     intro w' hf
     obtain ⟨cur', hcur', hfit'⟩ := HROW.out w' I.out hlt (by rw [C0.out, C1.out, C2.out]; exact hf)
     have hwn : (wr.alloc (.cells #[.int .i64 e0, .string e1, .int .i64 e2] 110)).heap[wr.heap.size]? = some (.cells #[.int .i64 e0, .string e1, .int .i64 e2] 110 (0, 0)) := by show (wr.heap.push _)[wr.heap.size]? = _; simp
     refine ⟨hf.cell0 ?_, hf.cell0 ?_, hf.cell0 ?_, ?_, ?_, ?_, ?_, ?_, ?_⟩
     ·rw [cell_of_row _ _ _ _ 110 (0, 0) hwn]; rfl
     ·rw [cell_of_row _ _ _ _ 110 (0, 0) hwn]; rfl
     ·rw [cell_of_row _ _ _ _ 110 (0, 0) hwn]; rfl
     ·exact ⟨_, by rw [cell_of_row w' b _ cur' 110 (0, 0) hcur', Array.getElem?_eq_getElem (by omega)]⟩
     ·exact ⟨_, by rw [cell_of_row w' b _ cur' 110 (0, 0) hcur', Array.getElem?_eq_getElem (by omega)]⟩
     ·exact ⟨_, by rw [cell_of_row w' b _ cur' 110 (0, 0) hcur', Array.getElem?_eq_getElem (by omega)]⟩
     ·simp [World.frozen?, hcur']
     ·simp [World.frozen?, hcur']
     ·simp [World.frozen?, hcur']
    go_wp2_with (go_at_call 283; refine hcall.mono ?_; rintro e w' ⟨rfl, hf⟩; obtain ⟨d0, d1, d2, ⟨u0, g0⟩, ⟨u1, g1⟩, ⟨u2, g2⟩, f0, f1, f2⟩ := hpost w' hf)
    go_roundg (n - (j + 1))
    case measure => omega
    case rel =>
     refine ⟨i + 1, j + 1, by go_num, by go_num, by omega, Nat.le_refl _, (show Aside _ from ?_)⟩
     have := HKP0.out i j wr w' I.out hlt hq (by rw [C0.out, C1.out, C2.out]; exact hf)
     rw [C0.out, C1.out, C2.out] at this
     exact this
  ·obtain rfl : j = n := by omega
   have hltz : ¬ (j : Int) < (j : Int) := by omega
   have hil := hij i j wr I.out
   obtain ⟨W2, hcl, hp⟩ := HEND.out i wr I.out
   have HP : Aside _ := hp
   clear hp
   have hic : i ≤ c := by omega
   have hci : ¬ (c = i) := by omega
   have hij1 : (i : Int) ≤ (j : Int) := by omega
   go_wp2
   go_ret
   exact ⟨i, rfl, HP.out⟩
end
def Pmz : T12 := (0, ⟨#[]⟩, 0)
def Pam.f (a0 : List T12) (a1 : T43) : Option (List T12) := delG (Pab.f k a0 a1) (fun x => Pdu.f k x a1) a0
def Pam.sig : Sig := ⟨[.give false K20, .clo 283 false 53 K21], [⟨false, K20, true⟩]⟩
def Pam.fn : Fn := ⟨Pam.sig, fun k (x : List T12 × T43) => Pam.f k x.1 x.2⟩
theorem Pam.ok (k : Nat) : FnOk Tryz.prog k 282 Pam.fn := by
 refine ⟨Qqo Tryz.func282 (by kernel_rfl) (by kernel_rfl), ?_⟩
 intro w S vs vss rows (x : List T12 × T43) (r : List T12) hsem hargs hparts hS hbn hbn2 hbS hnd hrows hgl
 obtain ⟨xs, cap⟩ := x
 change Pam.f k xs cap = some r at hsem
 unfold Pam.f delG at hsem
 obtain ⟨idx, hidx, hsem⟩ := Option.bind_eq_some_iff.1 hsem
 have hal := hargs.length
 obtain ⟨v0, v1, rfl⟩ := list2 hal.1
 obtain ⟨l0, l1, rfl⟩ := list2 hal.2
 obtain ⟨ha0, ⟨mb, rfl, hmb⟩, _⟩ := hargs
 simp only [Bool.false_eq_true, if_false] at ha0
 subst ha0
 obtain ⟨q0, qs, r1, r2, he, rfl, hp0, hp⟩ := hparts
 simp only [List.cons.injEq] at he
 obtain ⟨rfl, rfl⟩ := he
 obtain ⟨q1, he, hp1⟩ := hp
 simp only [List.cons.injEq, and_true] at he
 subst he
 have hp0 : OwnT w S K20 xs [v0] r1 := hp0
 obtain ⟨hp1, rfl⟩ : RdT w S K21 cap l1 ∧ r2 = [] := hp1
 have hrd0 : RdT w (fun b => S b ∨ b ∈ Blks r1) K20 xs [v0] := by
  obtain ⟨a, n, cp, h1, h2, h3, _⟩ := hp0
  refine ⟨a, n, cp, h1, h3.mono (fun b hb => .inr ?_) (fun _ _ => rfl) (fun x l => RdT.mono (fun b hb => .inl hb) fun _ _ => rfl)⟩
  subst h2
  cases a with
  | none => cases hb
  | some ad => simpa [Blks] using hb.symm
 obtain ⟨a, c, X, hl, rfl, hcap, hnil, hXl, hX, hblk⟩ := Qrc hp0 (by decide)
 simp only [List.cons.injEq, and_true] at hl
 subst hl
 simp only [List.append_nil] at hnd hrows ⊢
 have hcap : xs.length ≤ c := hcap
 have hix : Calls Tryz.prog 248 #[.slice a xs.length c, .func (.func 283) #[] #[.pointer (some ⟨mb, 0, none⟩)]] w (fun e w' => e = .returned (.int .i64 idx) ∧ Frm w.heap.size (fun _ => False) w w') := by
  refine ((Pab.ok k).run w (fun b => S b ∨ b ∈ Blks [(a.map (·.block), .slice a xs.length c)]) [.slice a xs.length c, .func (.func 283) #[] #[.pointer (some ⟨mb, 0, none⟩)]] [[.slice a xs.length c], l1] [] (xs, cap) idx hidx
   ⟨rfl, ⟨mb, rfl, hmb⟩, trivial⟩ ⟨_, _, [], [], rfl, rfl, ⟨hrd0, rfl⟩, _, rfl, ⟨hp1.mono (fun b hb => .inl hb) (fun _ _ => rfl), rfl⟩⟩
   (fun b hb => hb.elim (hS b) fun hb => (hrows b hb).2.1) List.nodup_nil (fun b hb => nomatch hb) (fun b hb => ?_) List.nodup_nil (fun b hb => nomatch hb) (hgl.mono (fun b hb => .inl hb) fun _ _ => rfl)).mono ?_
  ·exact fun h => h.elim (hbS b hb) fun h => (hrows b h).2.2 hb
  ·rintro e w' ⟨rv, S', vr, vo, rows', rfl, hfrm, _, _, _, hpr, hres, ho, _, _⟩
   obtain rfl : vo = [] := ho
   match vr, hres with
   | [l], hres =>
    have h1 := hres.1
    simp only [Bool.false_eq_true, if_false] at h1
    subst h1
    have := Qrp (own := true) (.inr ⟨_, rfl⟩) hpr
    simp only [RdT, List.cons.injEq, and_true] at this
    subst this
    exact ⟨rfl, hfrm.os, hfrm.tape, hfrm.output, rfl, hfrm.size, fun b hb _ => hfrm.block b hb fun h => h.elim (fun h => nomatch h) (fun h => nomatch h)⟩
   | [], hres => exact hres.elim
   | _ :: _ :: _, hres => exact hres.2.elim
 have hmS : ¬ S mb := hbS mb (List.mem_singleton.2 rfl : mb ∈ [mb])
 by_cases hi1 : idx = -1
 ·subst hi1
  rw [if_pos rfl] at hsem
  simp only [Zj] at hsem
  subst hsem
  refine (Hand.dfn0_slices_DeleteFunc_Inode_impl_swept_in w a xs.length c mb _ hix).mono ?_
  rintro en w' ⟨rfl, hfrm⟩
  refine ⟨_, S, [[_]], [], [(a.map (·.block), .slice a xs.length c)], rfl, ⟨hfrm.os, hfrm.tape, hfrm.output, rfl, hfrm.size, fun b hb _ => hfrm.block b hb id⟩, fun _ h => h, fun _ h => .inl h, fun b hb => Nat.lt_of_lt_of_le (hS b hb) hfrm.size, ⟨_, rfl, ?_⟩, ⟨rfl, trivial⟩, rfl, hnd, fun b hb => ⟨(hrows b hb).1, Nat.lt_of_lt_of_le (hrows b hb).2.1 hfrm.size, (hrows b hb).2.2, .inl hb⟩⟩
  exact OwnT.mono (fun _ h => h) (fun b hb => hfrm.block b (hS b hb) id) (fun b hb => hfrm.block b (hrows b hb).2.1 id) hp0
 have hrows : ∀ b ∈ Blks [(a.map (·.block), .slice a xs.length c)], ¬ S b ∧ b < w.heap.size ∧ b ≠ mb := fun b hb => ⟨(hrows b hb).1, (hrows b hb).2.1, fun e => (hrows b hb).2.2 (List.mem_singleton.2 e : b ∈ [mb])⟩
 rw [if_neg hi1] at hsem
 split at hsem
 case isFalse => cases hsem
 rename_i hc
 obtain ⟨h0, hlt, hbig⟩ := hc
 obtain ⟨i0, rfl⟩ : ∃ n : Nat, idx = n := ⟨idx.toNat, by omega⟩
 have hlt : i0 < xs.length := by exact_mod_cast hlt
 simp only [Zn] at hsem
 obtain ⟨rest, hrest, rfl⟩ := Option.map_eq_some_iff.1 hsem
 obtain ⟨hp, rfl⟩ := Qpz hrest
 obtain ⟨q, hq⟩ : ∃ q : T12 → Bool, q = fun x => (Pdu.f k x cap).getD false := ⟨_, rfl⟩
 have hpq : ∀ x ∈ xs.drop (i0 + 1), Pdu.f k x cap = some (q x) := fun x hx => by obtain ⟨b, hb⟩ := hp x hx; simp [hq, hb]
 have hfin : xs.take i0 ++ (xs.drop (i0 + 1)).filter (fun x => !(Pdu.f k x cap).getD false) = Qjk q xs i0 (xs.length - (i0 + 1)) := by
  unfold Qjk
  rw [List.take_of_length_le (l := xs.drop (i0 + 1)) (by rw [List.length_drop]; omega), hq]
 rw [hfin]
 cases a with
 | none => obtain ⟨rfl, _⟩ := hnil rfl; exact absurd hlt (Nat.not_lt_zero _)
 | some ad =>
  obtain ⟨b, off, asp⟩ := ad
  obtain ⟨hsp, cur, hcur, hfit, hXc⟩ := hblk _ rfl
  simp only at hsp hcur hfit hXc
  subst hsp
  have hfit : off + c * 3 ≤ cur.size := hfit
  have hXf := hX.flat (cv := Plw) Pit (fun x l h => by obtain ⟨_, _, rfl, rfl, ⟨_, _, rfl, rfl, rfl⟩⟩ := h; rfl)
  subst hXf
  have hbb : b ∈ Blks [((some (⟨b, off, none⟩ : Addr)).map (·.block), .slice (some ⟨b, off, none⟩) xs.length c)] := by simp [Blks]
  have hbS' := hrows b hbb
  have hmbb : mb ≠ b := fun h => hbS'.2.2 h.symm
  have hmlt : mb < w.heap.size := (Array.getElem?_eq_some_iff.1 hmb).1
  obtain ⟨z, hzv, hzs, hz1⟩ := Hand.zeroInode
  have key := Hand.dfn_slices_DeleteFunc_Inode_impl_swept_in w b off xs.length c i0 mb cur [] (fun j => ((xs[j]?).getD Pmz).1) (fun j => ((xs[j]?).getD Pmz).2.1) (fun j => ((xs[j]?).getD Pmz).2.2) (fun j => q ((xs[j]?).getD Pmz))
   (fun i j W => ∃ d, j = i0 + 1 + d ∧ i = (Qjk q xs i0 d).length ∧ DInv 110 3 Plw w b off cur.size xs (Qjk q xs i0 d) j W)
   (hix.mono (by
    rintro e w' ⟨rfl, hf⟩
    refine ⟨rfl, 0, rfl, ?_, ⟨⟨hf.os, hf.tape, hf.output, rfl, hf.size, fun k hk _ => hf.block k hk id⟩, cur, (hf.block b hbS'.2.1 id).trans hcur, rfl, fun q v hq => ?_, fun q v _ hq => hXc q v hq⟩⟩
    ·simp [Qjk]; omega
    ·simp only [Qjk, List.take_zero, List.filter_nil, List.append_nil] at hq
     refine hXc q v ?_
     rw [← List.take_append_drop i0 xs, List.flatMap_append, List.getElem?_append_left (List.getElem?_eq_some_iff.1 hq).1]
     exact hq))
   hlt (by omega) hcap
   (fun i j W hI hj => by
    obtain ⟨d, rfl, rfl, h⟩ := hI
    have hx : xs[i0 + 1 + d]? = some xs[i0 + 1 + d] := Zg hj
    exact ⟨by have := h.read (Pit) hx (t := 0) rfl; simpa [hx] using this, by have := h.read (Pit) hx (t := 1) rfl; simpa [hx] using this, by have := h.read (Pit) hx (t := 2) rfl; simpa [hx] using this⟩)
   (fun i j W hI hj => by
    obtain ⟨d, rfl, rfl, h⟩ := hI
    have hx : xs[i0 + 1 + d]? = some xs[i0 + 1 + d] := Zg hj
    have hpx := hpq _ (List.mem_of_getElem? (by rw [List.getElem?_drop]; exact hx))
    simp only [hx, Option.getD_some]
    have hWs := h.frm.size
    have hkeep : ∀ k, k < w.heap.size → k ≠ b → (W.alloc (.cells (Plw xs[i0 + 1 + d]).toArray 110)).heap[k]? = w.heap[k]? := fun k hk hkb => by
     show (W.heap.push _)[k]? = _
     rw [Array.getElem?_push, if_neg (by omega)]
     exact h.frm.block k hk hkb
    refine ((Pdu.ok k).run _ S [.agg (Plw xs[i0 + 1 + d]).toArray, .pointer (some ⟨mb, 0, none⟩)] [Plw xs[i0 + 1 + d], l1] [] (xs[i0 + 1 + d], cap) (q xs[i0 + 1 + d]) hpx
     ⟨rfl, ⟨mb, rfl, (hkeep mb hmlt hmbb).trans hmb⟩, trivial⟩
     ⟨_, _, [], [], rfl, rfl, ⟨Psk _, rfl⟩, _, rfl, ⟨hp1.mono (fun _ h => h) (fun s hs => hkeep s (hS s hs) fun e => hbS'.1 (e ▸ hs)), rfl⟩⟩
     (fun s hs => by have := hS s hs; show s < (W.heap.push _).size; simp; omega) List.nodup_nil (fun b hb => nomatch hb) (fun s hs => by have hs : s = mb := List.mem_singleton.1 hs; rw [hs]; exact hmS) List.nodup_nil (fun b hb => nomatch hb) (hgl.mono (fun _ h => h) (fun s hs => hkeep s (hS s hs) fun e => hbS'.1 (e ▸ hs)))).mono ?_
    rintro e w' ⟨rv, S', vr, vo, rows', rfl, hfrm, _, _, _, hpr, hres, ho, _, _⟩
    obtain rfl : vo = [] := ho
    match vr, hres with
    | [l], hres =>
     have h1 := hres.1
     simp only [Bool.false_eq_true, if_false] at h1
     subst h1
     have := Qrp (own := true) (.inl rfl) hpr
     simp only [RdT, List.cons.injEq, and_true] at this
     subst this
     exact ⟨rfl, hfrm.os, hfrm.tape, hfrm.output, rfl, hfrm.size, fun b hb _ => hfrm.block b hb fun h => h.elim (fun h => nomatch h) (fun h => nomatch h)⟩
    | [], hres => exact hres.elim
    | _ :: _ :: _, hres => exact hres.2.elim)
   (fun i j W W' hI hj hpr hf => by
    obtain ⟨d, rfl, rfl, h⟩ := hI
    have hx : xs[i0 + 1 + d]? = some xs[i0 + 1 + d] := Zg hj
    simp only [hx, Option.getD_some] at hpr
    refine ⟨d + 1, rfl, ?_, ?_⟩ <;> rw [Qqe hx, hpr, Zy]
    exact (h.call hf).skip)
   (fun i j W W' hI hj hf => by
    obtain ⟨d, rfl, rfl, h⟩ := hI
    obtain ⟨cur', h1, h2, _⟩ := (h.call hf).row
    exact ⟨cur', h1, by omega⟩)
   (fun i j W W' hI hj hpr hf => by
    obtain ⟨d, rfl, rfl, h⟩ := hI
    have hx : xs[i0 + 1 + d]? = some xs[i0 + 1 + d] := Zg hj
    simp only [hx, Option.getD_some] at hpr hf ⊢
    have hkl := Qqq (q := q) (xs := xs) (i0 := i0) (d := d)
    refine ⟨d + 1, rfl, ?_, ?_⟩ <;> rw [Qqe hx, hpr, Zz]
    ·simp
    ·exact (h.call hf).keep Pit (c := c) xs[i0 + 1 + d] (by omega) (by omega) (by omega))
   (fun i W2 => i = (Qjk q xs i0 (xs.length - (i0 + 1))).length ∧ Frm w.heap.size (fun x => x = b) w W2 ∧ ∃ cur', W2.heap[b]? = some (.cells cur' 110 (0, 0)) ∧ cur'.size = cur.size ∧ ∀ q' v, ((Qjk q xs i0 (xs.length - (i0 + 1))).flatMap Plw)[q']? = some v → cur'[off + q']? = some v)
   (fun i W hI => by
    obtain ⟨d, hd, rfl, h⟩ := hI
    obtain rfl : d = xs.length - (i0 + 1) := by omega
    have hkl := Qqq (q := q) (xs := xs) (i0 := i0) (d := xs.length - (i0 + 1))
    obtain ⟨K, hK⟩ : ∃ K, K = Qjk q xs i0 (xs.length - (i0 + 1)) := ⟨_, rfl⟩
    rw [← hK] at h hkl ⊢
    obtain ⟨cur', h1, h2, h3, h4⟩ := h.row
    have hflat := Qnb Pit K
    have hzl : (Builtin.zeroCells z.cells (xs.length - K.length)).toList.length = (xs.length - K.length) * 3 := by rw [Array.length_toList, size_zeroCells, hzs]
    refine ⟨_, fun ty dc => Qqm W 49 110 ty z Tryz.underlying49 hzv b (off + K.length * 3) (xs.length - K.length) dc cur' 110 h1 (by rw [hzl, h2]; omega) (hz1 _) (by omega), rfl, ?_, ?_⟩
    ·exact ⟨h.frm.os, h.frm.tape, h.frm.output, rfl, by rw [size_setRow]; exact h.frm.size, fun k hk hm => (setRow_other _ _ _ _ hm).trans (h.frm.block k hk hm)⟩
    ·refine ⟨_, setRow_heap _ b cur' _ 110 (0, 0) h1, ?_, fun q' v hv => ?_⟩
     ·simp only [List.size_toArray, List.length_append, List.length_take, List.length_drop, Array.length_toList, hzl] at *; omega
     ·have hlt' := (List.getElem?_eq_some_iff.1 hv).1
      simp only [List.getElem?_toArray]
      rw [Qke cur'.toList _ (off + K.length * 3) (off + q') (by rw [hzl]; simp; omega), if_pos (by omega)]
      simpa using h3 q' v hv)
   (fun i j W hI => by
    obtain ⟨d, rfl, rfl, h⟩ := hI
    have hkl := Qqq (q := q) (xs := xs) (i0 := i0) (d := d)
    omega)
  refine key.mono ?_
  rintro en w' ⟨i, rfl, rfl, hfrm, cur', hcur', hsz', hcells⟩
  have hkl := Qqq (q := q) (xs := xs) (i0 := i0) (d := xs.length - (i0 + 1))
  have hpost : Qhs 110 3 w (some b) ((Qjk q xs i0 (xs.length - (i0 + 1))).flatMap Plw) (Qjk q xs i0 (xs.length - (i0 + 1))).length (.returned (.slice (some ⟨b, off, none⟩) (Qjk q xs i0 (xs.length - (i0 + 1))).length c)) w' :=
   ⟨b, off, c, cur', rfl, by omega, hcur', by omega, hcells, ⟨hfrm.os, hfrm.tape, hfrm.output, rfl, hfrm.size, fun k hk hm => hfrm.block k hk fun e => hm (by rw [e])⟩, .inl rfl⟩
  obtain ⟨rv, rows', h1, h2, h3, h4, h5, h6⟩ := Qri (e := 110) (c := K13) (S := S) (rows := [((some (⟨b, off, none⟩ : Addr)).map (·.block), .slice (some ⟨b, off, none⟩) xs.length c)]) hpost (FlatR.of_flat (rd := RdT w S K13) (size := 3) Pit (xs := Qjk q xs i0 (xs.length - (i0 + 1))) fun x _ => Psk x) rfl hS
   (fun x hx => by cases hx; exact hbb) (fun x hx => ⟨(hrows x hx).1, (hrows x hx).2.1⟩) rfl
  refine ⟨rv, S, [[rv]], [], rows', h1, ⟨h2.os, h2.tape, h2.output, rfl, h2.size, fun k hk hm => h2.block k hk fun h => h.elim (fun h => nomatch h) fun h => hm (.inr h)⟩, fun _ h => h, fun _ h => .inl h, h3, h4, ⟨rfl, trivial⟩, rfl, h5, fun x hx => ⟨(h6 x hx).1, (h6 x hx).2.1, fun h => ?_, (h6 x hx).2.2.2⟩⟩
  have hxm : x = mb := List.mem_singleton.1 h
  rcases (h6 x hx).2.2.2 with h' | h'
  ·exact (hrows x h').2.2 hxm
  ·omega
def Plj.f (a0 : T0) : Option T0 :=
 (Pam.f k a0.2.2.1 (a0.1, a0.2.1, (), a0.2.2.2)).bind fun r1 => some (a0.1, a0.2.1, r1, a0.2.2.2)
theorem Plj.ok : Yg 230 ⟨⟨[.give true K2], [.t K2]⟩, fun k (x : T0) => Plj.f k x⟩ := Yq 9 Yv (.m 3 .l) Tryz.func230 (Yc Pam.ok Yn)
def Pdp.c0 (k : Nat) (y : List Int × Int × Int × T37) : Option T47 :=
 (cut? y.2.2.2.2.2.2.2.2.2.1.size 0 (Zr (y.2.2.2.2.2.2.2.2.2.2 + y.2.2.1))).bind fun p1 => (inb? y.2.2.2.2.2.2.2.1.2.2.1.length y.2.1).bind fun j2 => (y.2.2.2.2.2.2.2.1.2.2.1[j2]?).bind fun y3 => (inb? (y.2.2.2.2.2.2.2.1.2.2.1.set j2 (y3.1, y.2.2.2.2.2.2.2.2.2.1.extract p1.1 p1.2, y3.2.2)).length y.2.1).bind fun j4 => ((y.2.2.2.2.2.2.2.1.2.2.1.set j2 (y3.1, y.2.2.2.2.2.2.2.2.2.1.extract p1.1 p1.2, y3.2.2))[j4]?).bind fun y5 => some (.inl (y.1, y.2.2.2.1, y.2.2.2.2.1, Zr (y.2.2.2.2.2.1 + 1), y.2.2.2.2.2.2.1, y.2.2.2.2.2.2.2.1.1, y.2.2.2.2.2.2.2.1.2.1, (y.2.2.2.2.2.2.2.1.2.2.1.set j2 (y3.1, y.2.2.2.2.2.2.2.2.2.1.extract p1.1 p1.2, y3.2.2)).set j4 (y5.1, y5.2.1, Zr (y.2.2.2.2.2.2.2.2.2.2 + y.2.2.1)), y.2.2.2.2.2.2.2.1.2.2.2))
def Pdp.b0 (s : List Int × List T12 × Int × Int × T0 × T0) : Option T47 :=
 bif decide (s.2.2.2.1 < s.2.2.1) then (inb? s.2.1.length s.2.2.2.1).bind fun j1 => (s.2.1[j1]?).bind fun y2 => Option.bind (α := (List Int × Int × Int × T37) ⊕ T0) (bif decide (s.2.2.2.1 < (s.1.length : Int)) then (inb? s.1.length s.2.2.2.1).bind fun j3 => (s.1[j3]?).bind fun y4 => some (.inl (s.1, s.2.2.2.1, (if (if Zr ((y2.2.1.size : Int) - y2.2.2) < y4 then Zr ((y2.2.1.size : Int) - y2.2.2) else y4) > 0 then if Zr ((y2.2.1.size : Int) - y2.2.2) < y4 then Zr ((y2.2.1.size : Int) - y2.2.2) else y4 else 0), s.2.1, s.2.2.1, s.2.2.2.1, s.2.2.2.2.1, s.2.2.2.2.2, y2)) else some (.inl (s.1, s.2.2.2.1, 0, s.2.1, s.2.2.1, s.2.2.2.1, s.2.2.2.2.1, s.2.2.2.2.2, y2))) fun r => match r with | .inl y => Pdp.c0 k y | .inr o => some (.inr (.inr o)) else some (.inr (.inl s.2.2.2.2))
def Pdp.d0 (y : T0 × T0) : Option T0 :=
 (Plj.f k y.2).bind fun r1 => some r1
def Pdp.f (a0 : T0) (a1 : Int) (a2 : List Int) : Option T0 :=
 (Pcl.f k a0).bind fun r1 => bif !r1 then some (0, 0, [], [], []) else (Pfm.f k a0).bind fun r2 => (Pcd.f k a0 (if (if (a0.2.2.2.2.length : Int) < a1 then (a0.2.2.2.2.length : Int) else a1) > 0 then if (a0.2.2.2.2.length : Int) < a1 then (a0.2.2.2.2.length : Int) else a1 else 0)).bind fun r3 => (iter (X := (T0 × T0) ⊕ T0) (Pdp.b0 k) k (a2, a0.2.2.1, (a0.2.2.1.length : Int), 0, (0, 0, [], [], []), r2.1, r2.2.1, r2.2.2.1, r3, [])).bind fun r => match r with | .inl y => Pdp.d0 k y | .inr o => some o
theorem Pdp.ok : Yg 142 ⟨⟨[.w K2, .v K0, .v K17], [.t K2]⟩, fun k (x : T0 × T51) => Pdp.f k x.1 x.2.1 x.2.2⟩ := Yq 75 Yv (.n (.seq .c (.m 3 (.seq (.n (.lp [.s 2 K17, .ptr 6 1001, .ptr 7 4002, .s 28 K20, .s 29 K0, .s 30 K0, .box 1001 53 K2 true false, .box 4002 53 K2 true false] 198 (.n (.seq (.cond .l .l) (.seq (.blk (.n (.n (.seq (.cut [.s 2 K17, .ptr 6 1001, .ptr 7 4002, .s 8 K0, .ptr 9 9003, .s 10 K0, .s 28 K20, .s 29 K0, .s 30 K0, .box 1001 53 K2 true false, .box 4002 53 K2 true false, .box 9003 110 K13 false false] (.n (.cond .l .l))) (.n .l))))) .l))))) (.n .l))))) Tryz.func142 (Yc Pcl.ok (Yc Pfm.ok (Yc Pcd.ok (Yc Plj.ok Yn))))
def Pce.b0 (k : Nat) (s : Int × Int × List Int × Int × Int × T5) : Option ((Int × Int × List Int × Int × Int × T5) ⊕ (Int × List Int × T5) ⊕ T5) :=
 bif decide (s.2.2.2.2.1 < s.2.2.2.1) then (app? (limOf 8) s.2.2.1 ([s.2.1])).bind fun l1 => some (.inl (s.1, s.2.1, l1, s.2.2.2.1, Zr (s.2.2.2.2.1 + 1), s.2.2.2.2.2)) else some (.inr (.inl (s.1, s.2.2.1, s.2.2.2.2.2)))
def Pce.d0 (y : Int × List Int × T5) : Option T5 :=
 (Pdp.f k y.2.2.2.2.2.2.2.2.1 y.1 y.2.1).bind fun r1 => some (y.2.2.1, y.2.2.2.1, false, (0, 0, 0, 0, 0, 0, 0, 0, [], 0, [], [], []), ([], [], []), (0, 0, Ze), r1, (-1), 0, 0)
def Pce.f (a0 : T5) (a1 : Int) (a2 : Int) : Option T5 :=
 (iter (X := (Int × List Int × T5) ⊕ T5) (Pce.b0 k) k (a1, a2, [], (a0.2.2.2.2.2.2.1.2.2.1.length : Int), 0, a0)).bind fun r => match r with | .inl y => Pce.d0 k y | .inr o => some o
theorem Pce.ok : Yg 63 ⟨⟨[.box 55 K1 true true, .v K0, .v K0], []⟩, fun k (x : T5 × T8) => Pce.f k x.1 x.2.1 x.2.2⟩ := Yq 39 (Yk 3 K0 Yv) (.n (.seq (.n (.lp [.ptr 0 1, .s 1 K0, .s 2 K0, .o 6 K17, .s 13 K0, .s 14 K0, .box 1 55 K1 true false] 75 (.n (.seq (.cond .l .l) (.seq (.blk .l) .l))))) .l)) Tryz.func63 (Yc Pdp.ok Yn)
def Pgn.f (a0 : T5) (a1 : Int) (a2 : Int) : Option T5 :=
 (Pfr.f k a0).bind fun r1 => bif !r1 then some (0, 0, false, (0, 0, 0, 0, 0, 0, 0, 0, [], 0, [], [], []), ([], [], []), (0, 0, Ze), (0, 0, [], [], []), 0, 0, 0) else (Phu.f k a0).bind fun r2 => bif r2.2.2.1 then (Pce.f k r2 a1 a2).bind fun r3 => some r3 else some r2
theorem Pgn.ok : Yg 18 ⟨⟨[.w K1, .v K0, .v K0], [.t K1]⟩, fun k (x : T5 × T8) => Pgn.f k x.1 x.2.1 x.2.2⟩ := Yq 20 Yv (.n (.seq .c (.n (.seq (.n (.cond .l .l)) (.n .l))))) Tryz.func18 (Yc Pfr.ok (Yc Phu.ok (Yc Pce.ok Yn)))
def Pje.f (k : Nat) (a0 : T10) (a1 : T10) : Option Bool :=
 bif !decide (a0.1 = a1.1) then some false else bif !decide (a0.2 = a1.2) then some false else some true
theorem Pje.ok : Yg 214 ⟨⟨[.w K8, .w K8], [.f .bool]⟩, fun k (x : T10 × T10) => Pje.f k x.1 x.2⟩ := Yq 15 Yv (.n (.seq .c (.seq .c (.n .l)))) Tryz.func214 Yn
def Phx.f (a0 : List T10) (a1 : List T10) : Option Bool := eqL (Pje.f k) k a0 a1
theorem Phx.ok : Yg 109 ⟨⟨[.v K23, .v K23], [.f .bool]⟩, fun k (x : List T10 × List T10) => Phx.f k x.1 x.2⟩ := Yq 27 Yv (.n (.seq .c (.seq (.n (.lp [.s 0 K23, .s 1 K23, .s 4 .bool, .s 5 K0] 4 (.seq (.n (.cond .l .l)) (.seq (.blk .c) .l)))) (.n .l)))) Tryz.func109 (Yc Pje.ok Yn)
def Pfs.f (a0 : List Int) (a1 : List Int) : Option Bool := eqL (fun x y => some (decide (x = y))) k a0 a1
theorem Pfs.ok : Yg 110 ⟨⟨[.v K17, .v K17], [.f .bool]⟩, fun k (x : List Int × List Int) => Pfs.f k x.1 x.2⟩ := Yq 26 Yv (.n (.seq .c (.seq (.n (.lp [.s 0 K17, .s 1 K17, .s 4 .bool, .s 5 K0] 4 (.seq (.n (.cond .l .l)) (.seq (.blk .c) .l)))) (.n .l)))) Tryz.func110 Yn
def Pjy.f (a0 : T2) (a1 : T2) : Option Bool :=
 bif !decide (a0.1 = a1.1) then some false else bif !decide (a0.2.1 = a1.2.1) then some false else bif !decide (a0.2.2.1 = a1.2.2.1) then some false else bif !decide (a0.2.2.2.1 = a1.2.2.2.1) then some false else bif !decide (a0.2.2.2.2.1 = a1.2.2.2.2.1) then some false else bif !decide (a0.2.2.2.2.2.1 = a1.2.2.2.2.2.1) then some false else bif !decide (a0.2.2.2.2.2.2.1 = a1.2.2.2.2.2.2.1) then some false else bif !decide (a0.2.2.2.2.2.2.2.1 = a1.2.2.2.2.2.2.2.1) then some false else (Phx.f k a0.2.2.2.2.2.2.2.2.1 a1.2.2.2.2.2.2.2.2.1).bind fun r1 => bif !r1 then some false else bif !decide (a0.2.2.2.2.2.2.2.2.2.1 = a1.2.2.2.2.2.2.2.2.2.1) then some false else (Pfs.f k a0.2.2.2.2.2.2.2.2.2.2.1 a1.2.2.2.2.2.2.2.2.2.2.1).bind fun r2 => bif !r2 then some false else (Pfs.f k a0.2.2.2.2.2.2.2.2.2.2.2.1 a1.2.2.2.2.2.2.2.2.2.2.2.1).bind fun r3 => bif !r3 then some false else (Pfs.f k a0.2.2.2.2.2.2.2.2.2.2.2.2 a1.2.2.2.2.2.2.2.2.2.2.2.2).bind fun r4 => bif !r4 then some false else some true
theorem Pjy.ok : Yg 47 ⟨⟨[.w K4, .w K4], [.f .bool]⟩, fun k (x : T2 × T2) => Pjy.f k x.1 x.2⟩ := Yq 74 Yv (.n (.seq .c (.seq .c (.seq .c (.seq .c (.seq .c (.seq .c (.seq .c (.seq .c (.seq .c (.seq .c (.seq .c (.seq .c (.seq .c (.n .l))))))))))))))) Tryz.func47 (Yc Phx.ok (Yc Pfs.ok Yn))
def Pgu.f (k : Nat) (a0 : T9) (a1 : T9) : Option Bool :=
 bif !decide (a0.1 = a1.1) then some false else bif !decide (a0.2.1 = a1.2.1) then some false else bif !decide (a0.2.2 = a1.2.2) then some false else some true
theorem Pgu.ok : Yg 215 ⟨⟨[.w K15, .w K15], [.f .bool]⟩, fun k (x : T9 × T9) => Pgu.f k x.1 x.2⟩ := Yq 20 Yv (.n (.seq .c (.seq .c (.seq .c (.n .l))))) Tryz.func215 Yn
def Pfz.f (a0 : List T9) (a1 : List T9) : Option Bool := eqL (Pgu.f k) k a0 a1
theorem Pfz.ok : Yg 111 ⟨⟨[.v K25, .v K25], [.f .bool]⟩, fun k (x : List T9 × List T9) => Pfz.f k x.1 x.2⟩ := Yq 27 Yv (.n (.seq .c (.seq (.n (.lp [.s 0 K25, .s 1 K25, .s 4 .bool, .s 5 K0] 4 (.seq (.n (.cond .l .l)) (.seq (.blk .c) .l)))) (.n .l)))) Tryz.func111 (Yc Pgu.ok Yn)
def Phw.f (k : Nat) (a0 : T28) (a1 : T28) : Option Bool :=
 bif !decide (a0.1 = a1.1) then some false else bif !decide (a0.2.1 = a1.2.1) then some false else bif !decide (a0.2.2.1 = a1.2.2.1) then some false else bif !decide (a0.2.2.2.1 = a1.2.2.2.1) then some false else bif !decide (a0.2.2.2.2.1 = a1.2.2.2.2.1) then some false else bif !decide (a0.2.2.2.2.2 = a1.2.2.2.2.2) then some false else some true
theorem Phw.ok : Yg 272 ⟨⟨[.w K12, .w K12], [.f .bool]⟩, fun k (x : T28 × T28) => Phw.f k x.1 x.2⟩ := Yq 35 Yv (.n (.seq .c (.seq .c (.seq .c (.seq .c (.seq .c (.seq .c (.n .l)))))))) Tryz.func272 Yn
def Pgt.f (a0 : T7) (a1 : T7) : Option Bool :=
 bif !decide (a0.1 = a1.1) then some false else bif !decide (a0.2.1 = a1.2.1) then some false else (Phw.f k a0.2.2 a1.2.2).bind fun r1 => bif !r1 then some false else some true
theorem Pgt.ok : Yg 216 ⟨⟨[.w K7, .w K7], [.f .bool]⟩, fun k (x : T7 × T7) => Pgt.f k x.1 x.2⟩ := Yq 21 Yv (.n (.seq .c (.seq .c (.seq .c (.n .l))))) Tryz.func216 (Yc Phw.ok Yn)
def Pfy.f (a0 : List T7) (a1 : List T7) : Option Bool := eqL (Pgt.f k) k a0 a1
theorem Pfy.ok : Yg 112 ⟨⟨[.v K31, .v K31], [.f .bool]⟩, fun k (x : List T7 × List T7) => Pfy.f k x.1 x.2⟩ := Yq 27 Yv (.n (.seq .c (.seq (.n (.lp [.s 0 K31, .s 1 K31, .s 4 .bool, .s 5 K0] 4 (.seq (.n (.cond .l .l)) (.seq (.blk .c) .l)))) (.n .l)))) Tryz.func112 (Yc Pgt.ok Yn)
def Plk.f (a0 : T1) (a1 : T1) : Option Bool :=
 (Pfz.f k a0.1 a1.1).bind fun r1 => bif !r1 then some false else (Pfs.f k a0.2.1 a1.2.1).bind fun r2 => bif !r2 then some false else (Pfy.f k a0.2.2 a1.2.2).bind fun r3 => bif !r3 then some false else some true
theorem Plk.ok : Yg 48 ⟨⟨[.w K3, .w K3], [.f .bool]⟩, fun k (x : T1 × T1) => Plk.f k x.1 x.2⟩ := Yq 23 Yv (.n (.seq .c (.seq .c (.seq .c (.n .l))))) Tryz.func48 (Yc Pfz.ok (Yc Pfs.ok (Yc Pfy.ok Yn)))
def Pkc.f (k : Nat) (a0 : Int × T10) (a1 : Int × T10) : Option Bool :=
 bif !decide (a0.1 = a1.1) then some false else bif !decide (a0.2.1 = a1.2.1) then some false else bif !decide (a0.2.2 = a1.2.2) then some false else some true
theorem Pkc.ok : Yg 49 ⟨⟨[.w K16, .w K16], [.f .bool]⟩, fun k (x : (Int × T10) × Int × T10) => Pkc.f k x.1 x.2⟩ := Yq 20 Yv (.n (.seq .c (.seq .c (.seq .c (.n .l))))) Tryz.func49 Yn
def Pjf.f (k : Nat) (a0 : T12) (a1 : T12) : Option Bool :=
 bif !decide (a0.1 = a1.1) then some false else bif !decide (a0.2.1 = a1.2.1) then some false else bif !decide (a0.2.2 = a1.2.2) then some false else some true
theorem Pjf.ok : Yg 217 ⟨⟨[.w K13, .w K13], [.f .bool]⟩, fun k (x : T12 × T12) => Pjf.f k x.1 x.2⟩ := Yq 20 Yv (.n (.seq .c (.seq .c (.seq .c (.n .l))))) Tryz.func217 Yn
def Phy.f (a0 : List T12) (a1 : List T12) : Option Bool := eqL (Pjf.f k) k a0 a1
theorem Phy.ok : Yg 113 ⟨⟨[.v K20, .v K20], [.f .bool]⟩, fun k (x : List T12 × List T12) => Phy.f k x.1 x.2⟩ := Yq 27 Yv (.n (.seq .c (.seq (.n (.lp [.s 0 K20, .s 1 K20, .s 4 .bool, .s 5 K0] 4 (.seq (.n (.cond .l .l)) (.seq (.blk .c) .l)))) (.n .l)))) Tryz.func113 (Yc Pjf.ok Yn)
def Pka.f (k : Nat) (a0 : T4) (a1 : T4) : Option Bool :=
 bif !decide (a0.1 = a1.1) then some false else bif !decide (a0.2 = a1.2) then some false else some true
theorem Pka.ok : Yg 218 ⟨⟨[.w K5, .w K5], [.f .bool]⟩, fun k (x : T4 × T4) => Pka.f k x.1 x.2⟩ := Yq 15 Yv (.n (.seq .c (.seq .c (.n .l)))) Tryz.func218 Yn
def Pjg.f (a0 : List T4) (a1 : List T4) : Option Bool := eqL (Pka.f k) k a0 a1
theorem Pjg.ok : Yg 114 ⟨⟨[.v K11, .v K11], [.f .bool]⟩, fun k (x : T35) => Pjg.f k x.1 x.2⟩ := Yq 27 Yv (.n (.seq .c (.seq (.n (.lp [.s 0 K11, .s 1 K11, .s 4 .bool, .s 5 K0] 4 (.seq (.n (.cond .l .l)) (.seq (.blk .c) .l)))) (.n .l)))) Tryz.func114 (Yc Pka.ok Yn)
def Pkb.f (k : Nat) (a0 : T15) (a1 : T15) : Option Bool :=
 bif !decide (a0.1 = a1.1) then some false else bif !decide (a0.2.1 = a1.2.1) then some false else bif !decide (a0.2.2.1 = a1.2.2.1) then some false else bif !decide (a0.2.2.2 = a1.2.2.2) then some false else some true
theorem Pkb.ok : Yg 219 ⟨⟨[.w K9, .w K9], [.f .bool]⟩, fun k (x : T15 × T15) => Pkb.f k x.1 x.2⟩ := Yq 25 Yv (.n (.seq .c (.seq .c (.seq .c (.seq .c (.n .l)))))) Tryz.func219 Yn
def Pjh.f (a0 : List T15) (a1 : List T15) : Option Bool := eqL (Pkb.f k) k a0 a1
theorem Pjh.ok : Yg 115 ⟨⟨[.v K29, .v K29], [.f .bool]⟩, fun k (x : List T15 × List T15) => Pjh.f k x.1 x.2⟩ := Yq 27 Yv (.n (.seq .c (.seq (.n (.lp [.s 0 K29, .s 1 K29, .s 4 .bool, .s 5 K0] 4 (.seq (.n (.cond .l .l)) (.seq (.blk .c) .l)))) (.n .l)))) Tryz.func115 (Yc Pkb.ok Yn)
def Pjz.f (a0 : T0) (a1 : T0) : Option Bool :=
 bif !decide (a0.1 = a1.1) then some false else bif !decide (a0.2.1 = a1.2.1) then some false else (Phy.f k a0.2.2.1 a1.2.2.1).bind fun r1 => bif !r1 then some false else (Pjg.f k a0.2.2.2.1 a1.2.2.2.1).bind fun r2 => bif !r2 then some false else (Pjh.f k a0.2.2.2.2 a1.2.2.2.2).bind fun r3 => bif !r3 then some false else some true
theorem Pjz.ok : Yg 50 ⟨⟨[.w K2, .w K2], [.f .bool]⟩, fun k (x : T0 × T0) => Pjz.f k x.1 x.2⟩ := Yq 33 Yv (.n (.seq .c (.seq .c (.seq .c (.seq .c (.seq .c (.n .l))))))) Tryz.func50 (Yc Phy.ok (Yc Pjg.ok (Yc Pjh.ok Yn)))
def Pft.f (a0 : T5) (a1 : T5) : Option Bool :=
 bif !decide (a0.1 = a1.1) then some false else bif !decide (a0.2.1 = a1.2.1) then some false else bif !decide (a0.2.2.1 = a1.2.2.1) then some false else (Pjy.f k a0.2.2.2.1 a1.2.2.2.1).bind fun r1 => bif !r1 then some false else (Plk.f k a0.2.2.2.2.1 a1.2.2.2.2.1).bind fun r2 => bif !r2 then some false else (Pkc.f k a0.2.2.2.2.2.1 a1.2.2.2.2.2.1).bind fun r3 => bif !r3 then some false else (Pjz.f k a0.2.2.2.2.2.2.1 a1.2.2.2.2.2.2.1).bind fun r4 => bif !r4 then some false else bif !decide (a0.2.2.2.2.2.2.2.1 = a1.2.2.2.2.2.2.2.1) then some false else bif !decide (a0.2.2.2.2.2.2.2.2.1 = a1.2.2.2.2.2.2.2.2.1) then some false else bif !decide (a0.2.2.2.2.2.2.2.2.2 = a1.2.2.2.2.2.2.2.2.2) then some false else some true
theorem Pft.ok : Yg 12 ⟨⟨[.w K1, .w K1], [.f .bool]⟩, fun k (x : T5 × T5) => Pft.f k x.1 x.2⟩ := Yq 59 Yv (.n (.seq .c (.seq .c (.seq .c (.seq .c (.seq .c (.seq .c (.seq .c (.seq .c (.seq .c (.seq .c (.n .l)))))))))))) Tryz.func12 (Yc Pjy.ok (Yc Plk.ok (Yc Pkc.ok (Yc Pjz.ok Yn))))
def Pal.b0 (k : Nat) (s : Int × T14) : Option ((Int × T14) ⊕ T14 ⊕ Zb) :=
 bif decide (0 < s.1) then (cat? (strOfNums ([IntKind.wrap .u8 (Zr (48 + (Int.tmod s.1 10)))])) s.2.2).bind fun s1 => some (.inl (Zr (Int.tdiv s.1 10), s.2.1, s1)) else some (.inr (.inl s.2))
def Pal.d0 (k : Nat) (y : T14) : Option Zb :=
 (cat? (⟨#[109]⟩ : Zb) y.2).bind fun s1 => some s1
def Pal.f (a0 : Int) : Option Zb :=
 bif decide (a0 ≤ 0) then some (⟨#[109, 48]⟩ : Zb) else (iter (X := T14 ⊕ Zb) (Pal.b0 k) k (a0, Ze, Ze)).bind fun r => match r with | .inl y => Pal.d0 k y | .inr o => some o
theorem Pal.ok : Yg 225 ⟨⟨[.v K0], [.f .str]⟩, fun k (x : Int) => Pal.f k x⟩ := Yq 20 (Yk 5 K30 Yv) (.n (.seq .c (.n (.seq (.lp [.s 0 K0, .s 2 .str, .s 3 .str] 6 (.seq (.n (.cond .l .l)) (.blk (.n .l)))) (.n .l))))) Tryz.func225 Yn
def Pcq.b0 (s : List T10 × T18) : Option ((List T10 × T18) ⊕ (List T10 × T8) ⊕ (Int × List T10)) :=
 bif decide (s.2.2.2 < (s.1.length : Int)) then (inb? s.1.length s.2.2.2).bind fun j1 => (s.1[j1]?).bind fun y2 => (Pal.f k (Zr (s.2.1 + 1))).bind fun r3 => (inb? (s.1.set j1 (s.2.1, y2.2)).length s.2.2.2).bind fun j4 => ((s.1.set j1 (s.2.1, y2.2))[j4]?).bind fun y5 => some (.inl ((s.1.set j1 (s.2.1, y2.2)).set j4 (y5.1, r3), Zr ((Zr (s.2.1 + 1)) + 1), s.2.2.1, Zr (s.2.2.2 + 1))) else some (.inr (.inl (s.1, s.2.1, s.2.2.1)))
def Pcq.d0 (k : Nat) (y : List T10 × T8) : Option (Int × List T10) :=
 some (y.2.1, y.1)
def Pcq.f (a0 : List T10) (a1 : Int) : Option (Int × List T10) :=
 (iter (X := (List T10 × T8) ⊕ (Int × List T10)) (Pcq.b0 k) k (a0, a1, 0, 0)).bind fun r => match r with | .inl y => Pcq.d0 k y | .inr o => some o
theorem Pcq.ok : Yg 121 ⟨⟨[.lent false K23, .v K0], [.f K0]⟩, fun k (x : List T10 × Int) => Pcq.f k x.1 x.2⟩ := Yq 28 Yv (.n (.seq (.n (.lp [.o 0 K23, .s 1 K0, .s 4 K0, .s 5 K0] 7 (.seq (.n (.cond .l .l)) (.seq (.blk (.m 3 .l)) .l)))) (.n .l))) Tryz.func121 (Yc Pal.ok Yn)
def Pci.b0 (k : Nat) (s : List Int × T18) : Option ((List Int × T18) ⊕ (List Int × T8) ⊕ T51) :=
 bif decide (s.2.2.2 < (s.1.length : Int)) then (inb? s.1.length s.2.2.2).bind fun j1 => (s.1[j1]?).bind fun y2 => some (.inl (s.1.set j1 s.2.1, Zr (s.2.1 + 1), s.2.2.1, Zr (s.2.2.2 + 1))) else some (.inr (.inl (s.1, s.2.1, s.2.2.1)))
def Pci.d0 (k : Nat) (y : List Int × T8) : Option T51 :=
 some (y.2.1, y.1)
def Pci.f (a0 : List Int) (a1 : Int) : Option T51 :=
 (iter (X := (List Int × T8) ⊕ T51) (Pci.b0 k) k (a0, a1, 0, 0)).bind fun r => match r with | .inl y => Pci.d0 k y | .inr o => some o
theorem Pci.ok : Yg 122 ⟨⟨[.lent false K17, .v K0], [.f K0]⟩, fun k (x : T30) => Pci.f k x.1 x.2⟩ := Yq 19 Yv (.n (.seq (.n (.lp [.o 0 K17, .s 1 K0, .s 4 K0, .s 5 K0] 7 (.seq (.n (.cond .l .l)) (.seq (.blk (.n .l)) .l)))) (.n .l))) Tryz.func122 Yn
def Pib.f (a0 : T2) (a1 : Int) : Option (Int × T2) :=
 (Pcq.f k a0.2.2.2.2.2.2.2.2.1 a1).bind fun r1 => (Pci.f k a0.2.2.2.2.2.2.2.2.2.2.1 r1.1).bind fun r2 => (Pci.f k a0.2.2.2.2.2.2.2.2.2.2.2.1 r2.1).bind fun r3 => (Pci.f k a0.2.2.2.2.2.2.2.2.2.2.2.2 r3.1).bind fun r4 => some (r4.1, a0.1, a0.2.1, a0.2.2.1, a0.2.2.2.1, a0.2.2.2.2.1, a0.2.2.2.2.2.1, a0.2.2.2.2.2.2.1, a0.2.2.2.2.2.2.2.1, r1.2, a0.2.2.2.2.2.2.2.2.2.1, r2.2, r3.2, r4.2)
theorem Pib.ok : Yg 54 ⟨⟨[.lent true K4, .v K0], [.f K0]⟩, fun k (x : T2 × Int) => Pib.f k x.1 x.2⟩ := Yq 22 Yv (.m 6 .l) Tryz.func54 (Yc Pcq.ok (Yc Pci.ok Yn))
def Pcb.b0 (s : List T9 × T18) : Option ((List T9 × T18) ⊕ (List T9 × T8) ⊕ (Int × List T9)) :=
 bif decide (s.2.2.2 < (s.1.length : Int)) then (Pal.f k s.2.1).bind fun r1 => (inb? s.1.length s.2.2.2).bind fun j2 => (s.1[j2]?).bind fun y3 => (Pal.f k (Zr (s.2.1 + 1))).bind fun r4 => (inb? (s.1.set j2 (r1, y3.2)).length s.2.2.2).bind fun j5 => ((s.1.set j2 (r1, y3.2))[j5]?).bind fun y6 => (inb? ((s.1.set j2 (r1, y3.2)).set j5 (y6.1, r4, y6.2.2)).length s.2.2.2).bind fun j7 => (((s.1.set j2 (r1, y3.2)).set j5 (y6.1, r4, y6.2.2))[j7]?).bind fun y8 => some (.inl (((s.1.set j2 (r1, y3.2)).set j5 (y6.1, r4, y6.2.2)).set j7 (y8.1, y8.2.1, Zr ((Zr (s.2.1 + 1)) + 1)), Zr ((Zr ((Zr (s.2.1 + 1)) + 1)) + 1), s.2.2.1, Zr (s.2.2.2 + 1))) else some (.inr (.inl (s.1, s.2.1, s.2.2.1)))
def Pcb.d0 (k : Nat) (y : List T9 × T8) : Option (Int × List T9) :=
 some (y.2.1, y.1)
def Pcb.f (a0 : List T9) (a1 : Int) : Option (Int × List T9) :=
 (iter (X := (List T9 × T8) ⊕ (Int × List T9)) (Pcb.b0 k) k (a0, a1, 0, 0)).bind fun r => match r with | .inl y => Pcb.d0 k y | .inr o => some o
theorem Pcb.ok : Yg 123 ⟨⟨[.lent false K25, .v K0], [.f K0]⟩, fun k (x : List T9 × Int) => Pcb.f k x.1 x.2⟩ := Yq 36 Yv (.n (.seq (.n (.lp [.slot 0 false K25 true, .s 1 K0, .s 4 K0, .s 5 K0] 7 (.seq (.n (.cond .l .l)) (.seq (.blk (.m 5 .l)) .l)))) (.n .l))) Tryz.func123 (Yc Pal.ok Yn)
def Pca.b0 (s : List T7 × T18) : Option ((List T7 × T18) ⊕ (List T7 × T8) ⊕ (Int × List T7)) :=
 bif decide (s.2.2.2 < (s.1.length : Int)) then (inb? s.1.length s.2.2.2).bind fun j1 => (s.1[j1]?).bind fun y2 => (inb? (s.1.set j1 (s.2.1, y2.2)).length s.2.2.2).bind fun j3 => ((s.1.set j1 (s.2.1, y2.2))[j3]?).bind fun y4 => (inb? ((s.1.set j1 (s.2.1, y2.2)).set j3 (y4.1, Zr (s.2.1 + 1), y4.2.2)).length s.2.2.2).bind fun j5 => (((s.1.set j1 (s.2.1, y2.2)).set j3 (y4.1, Zr (s.2.1 + 1), y4.2.2))[j5]?).bind fun y6 => (inb? (((s.1.set j1 (s.2.1, y2.2)).set j3 (y4.1, Zr (s.2.1 + 1), y4.2.2)).set j5 (y6.1, y6.2.1, Zr ((Zr (s.2.1 + 1)) + 1), y6.2.2.2)).length s.2.2.2).bind fun j7 => ((((s.1.set j1 (s.2.1, y2.2)).set j3 (y4.1, Zr (s.2.1 + 1), y4.2.2)).set j5 (y6.1, y6.2.1, Zr ((Zr (s.2.1 + 1)) + 1), y6.2.2.2))[j7]?).bind fun y8 => (inb? ((((s.1.set j1 (s.2.1, y2.2)).set j3 (y4.1, Zr (s.2.1 + 1), y4.2.2)).set j5 (y6.1, y6.2.1, Zr ((Zr (s.2.1 + 1)) + 1), y6.2.2.2)).set j7 (y8.1, y8.2.1, y8.2.2.1, Zr ((Zr ((Zr (s.2.1 + 1)) + 1)) + 1), y8.2.2.2.2)).length s.2.2.2).bind fun j9 => (((((s.1.set j1 (s.2.1, y2.2)).set j3 (y4.1, Zr (s.2.1 + 1), y4.2.2)).set j5 (y6.1, y6.2.1, Zr ((Zr (s.2.1 + 1)) + 1), y6.2.2.2)).set j7 (y8.1, y8.2.1, y8.2.2.1, Zr ((Zr ((Zr (s.2.1 + 1)) + 1)) + 1), y8.2.2.2.2))[j9]?).bind fun y10 => (Pal.f k (Zr ((Zr ((Zr ((Zr ((Zr (s.2.1 + 1)) + 1)) + 1)) + 1)) + 1))).bind fun r11 => (inb? (((((s.1.set j1 (s.2.1, y2.2)).set j3 (y4.1, Zr (s.2.1 + 1), y4.2.2)).set j5 (y6.1, y6.2.1, Zr ((Zr (s.2.1 + 1)) + 1), y6.2.2.2)).set j7 (y8.1, y8.2.1, y8.2.2.1, Zr ((Zr ((Zr (s.2.1 + 1)) + 1)) + 1), y8.2.2.2.2)).set j9 (y10.1, y10.2.1, y10.2.2.1, y10.2.2.2.1, Zr ((Zr ((Zr ((Zr (s.2.1 + 1)) + 1)) + 1)) + 1), y10.2.2.2.2.2)).length s.2.2.2).bind fun j12 => ((((((s.1.set j1 (s.2.1, y2.2)).set j3 (y4.1, Zr (s.2.1 + 1), y4.2.2)).set j5 (y6.1, y6.2.1, Zr ((Zr (s.2.1 + 1)) + 1), y6.2.2.2)).set j7 (y8.1, y8.2.1, y8.2.2.1, Zr ((Zr ((Zr (s.2.1 + 1)) + 1)) + 1), y8.2.2.2.2)).set j9 (y10.1, y10.2.1, y10.2.2.1, y10.2.2.2.1, Zr ((Zr ((Zr ((Zr (s.2.1 + 1)) + 1)) + 1)) + 1), y10.2.2.2.2.2))[j12]?).bind fun y13 => (inb? ((((((s.1.set j1 (s.2.1, y2.2)).set j3 (y4.1, Zr (s.2.1 + 1), y4.2.2)).set j5 (y6.1, y6.2.1, Zr ((Zr (s.2.1 + 1)) + 1), y6.2.2.2)).set j7 (y8.1, y8.2.1, y8.2.2.1, Zr ((Zr ((Zr (s.2.1 + 1)) + 1)) + 1), y8.2.2.2.2)).set j9 (y10.1, y10.2.1, y10.2.2.1, y10.2.2.2.1, Zr ((Zr ((Zr ((Zr (s.2.1 + 1)) + 1)) + 1)) + 1), y10.2.2.2.2.2)).set j12 (y13.1, y13.2.1, y13.2.2.1, y13.2.2.2.1, y13.2.2.2.2.1, r11, y13.2.2.2.2.2.2)).length s.2.2.2).bind fun j14 => (((((((s.1.set j1 (s.2.1, y2.2)).set j3 (y4.1, Zr (s.2.1 + 1), y4.2.2)).set j5 (y6.1, y6.2.1, Zr ((Zr (s.2.1 + 1)) + 1), y6.2.2.2)).set j7 (y8.1, y8.2.1, y8.2.2.1, Zr ((Zr ((Zr (s.2.1 + 1)) + 1)) + 1), y8.2.2.2.2)).set j9 (y10.1, y10.2.1, y10.2.2.1, y10.2.2.2.1, Zr ((Zr ((Zr ((Zr (s.2.1 + 1)) + 1)) + 1)) + 1), y10.2.2.2.2.2)).set j12 (y13.1, y13.2.1, y13.2.2.1, y13.2.2.2.1, y13.2.2.2.2.1, r11, y13.2.2.2.2.2.2))[j14]?).bind fun y15 => (inb? (((((((s.1.set j1 (s.2.1, y2.2)).set j3 (y4.1, Zr (s.2.1 + 1), y4.2.2)).set j5 (y6.1, y6.2.1, Zr ((Zr (s.2.1 + 1)) + 1), y6.2.2.2)).set j7 (y8.1, y8.2.1, y8.2.2.1, Zr ((Zr ((Zr (s.2.1 + 1)) + 1)) + 1), y8.2.2.2.2)).set j9 (y10.1, y10.2.1, y10.2.2.1, y10.2.2.2.1, Zr ((Zr ((Zr ((Zr (s.2.1 + 1)) + 1)) + 1)) + 1), y10.2.2.2.2.2)).set j12 (y13.1, y13.2.1, y13.2.2.1, y13.2.2.2.1, y13.2.2.2.2.1, r11, y13.2.2.2.2.2.2)).set j14 (y15.1, y15.2.1, y15.2.2.1, y15.2.2.2.1, y15.2.2.2.2.1, y15.2.2.2.2.2.1, Zr ((Zr ((Zr ((Zr ((Zr ((Zr (s.2.1 + 1)) + 1)) + 1)) + 1)) + 1)) + 1), y15.2.2.2.2.2.2.2)).length s.2.2.2).bind fun j16 => ((((((((s.1.set j1 (s.2.1, y2.2)).set j3 (y4.1, Zr (s.2.1 + 1), y4.2.2)).set j5 (y6.1, y6.2.1, Zr ((Zr (s.2.1 + 1)) + 1), y6.2.2.2)).set j7 (y8.1, y8.2.1, y8.2.2.1, Zr ((Zr ((Zr (s.2.1 + 1)) + 1)) + 1), y8.2.2.2.2)).set j9 (y10.1, y10.2.1, y10.2.2.1, y10.2.2.2.1, Zr ((Zr ((Zr ((Zr (s.2.1 + 1)) + 1)) + 1)) + 1), y10.2.2.2.2.2)).set j12 (y13.1, y13.2.1, y13.2.2.1, y13.2.2.2.1, y13.2.2.2.2.1, r11, y13.2.2.2.2.2.2)).set j14 (y15.1, y15.2.1, y15.2.2.1, y15.2.2.2.1, y15.2.2.2.2.1, y15.2.2.2.2.2.1, Zr ((Zr ((Zr ((Zr ((Zr ((Zr (s.2.1 + 1)) + 1)) + 1)) + 1)) + 1)) + 1), y15.2.2.2.2.2.2.2))[j16]?).bind fun y17 => some (.inl ((((((((s.1.set j1 (s.2.1, y2.2)).set j3 (y4.1, Zr (s.2.1 + 1), y4.2.2)).set j5 (y6.1, y6.2.1, Zr ((Zr (s.2.1 + 1)) + 1), y6.2.2.2)).set j7 (y8.1, y8.2.1, y8.2.2.1, Zr ((Zr ((Zr (s.2.1 + 1)) + 1)) + 1), y8.2.2.2.2)).set j9 (y10.1, y10.2.1, y10.2.2.1, y10.2.2.2.1, Zr ((Zr ((Zr ((Zr (s.2.1 + 1)) + 1)) + 1)) + 1), y10.2.2.2.2.2)).set j12 (y13.1, y13.2.1, y13.2.2.1, y13.2.2.2.1, y13.2.2.2.2.1, r11, y13.2.2.2.2.2.2)).set j14 (y15.1, y15.2.1, y15.2.2.1, y15.2.2.2.1, y15.2.2.2.2.1, y15.2.2.2.2.2.1, Zr ((Zr ((Zr ((Zr ((Zr ((Zr (s.2.1 + 1)) + 1)) + 1)) + 1)) + 1)) + 1), y15.2.2.2.2.2.2.2)).set j16 (y17.1, y17.2.1, y17.2.2.1, y17.2.2.2.1, y17.2.2.2.2.1, y17.2.2.2.2.2.1, y17.2.2.2.2.2.2.1, Zr ((Zr ((Zr ((Zr ((Zr ((Zr ((Zr (s.2.1 + 1)) + 1)) + 1)) + 1)) + 1)) + 1)) + 1)), Zr ((Zr ((Zr ((Zr ((Zr ((Zr ((Zr ((Zr (s.2.1 + 1)) + 1)) + 1)) + 1)) + 1)) + 1)) + 1)) + 1), s.2.2.1, Zr (s.2.2.2 + 1))) else some (.inr (.inl (s.1, s.2.1, s.2.2.1)))
def Pca.d0 (k : Nat) (y : List T7 × T8) : Option (Int × List T7) :=
 some (y.2.1, y.1)
def Pca.f (a0 : List T7) (a1 : Int) : Option (Int × List T7) :=
 (iter (X := (List T7 × T8) ⊕ (Int × List T7)) (Pca.b0 k) k (a0, a1, 0, 0)).bind fun r => match r with | .inl y => Pca.d0 k y | .inr o => some o
theorem Pca.ok : Yg 124 ⟨⟨[.lent false K31, .v K0], [.f K0]⟩, fun k (x : List T7 × Int) => Pca.f k x.1 x.2⟩ := Yq 76 Yv (.n (.seq (.n (.lp [.slot 0 false K31 true, .s 1 K0, .s 4 K0, .s 5 K0] 7 (.seq (.n (.cond .l .l)) (.seq (.blk (.m 15 .l)) .l)))) (.n .l))) Tryz.func124 (Yc Pal.ok Yn)
def Pjj.f (a0 : T1) (a1 : Int) : Option (Int × T1) :=
 (Pcb.f k a0.1 a1).bind fun r1 => (Pci.f k a0.2.1 r1.1).bind fun r2 => (Pca.f k a0.2.2 r2.1).bind fun r3 => some (r3.1, r1.2, r2.2, r3.2)
theorem Pjj.ok : Yg 55 ⟨⟨[.lent true K3, .v K0], [.f K0]⟩, fun k (x : T1 × Int) => Pjj.f k x.1 x.2⟩ := Yq 18 Yv (.m 5 .l) Tryz.func55 (Yc Pcb.ok (Yc Pci.ok (Yc Pca.ok Yn)))
def Pcr.b0 (s : List T12 × T18) : Option ((List T12 × T18) ⊕ (List T12 × T8) ⊕ (Int × List T12)) :=
 bif decide (s.2.2.2 < (s.1.length : Int)) then (inb? s.1.length s.2.2.2).bind fun j1 => (s.1[j1]?).bind fun y2 => (Pal.f k (Zr (s.2.1 + 1))).bind fun r3 => (inb? (s.1.set j1 (s.2.1, y2.2)).length s.2.2.2).bind fun j4 => ((s.1.set j1 (s.2.1, y2.2))[j4]?).bind fun y5 => (inb? ((s.1.set j1 (s.2.1, y2.2)).set j4 (y5.1, r3, y5.2.2)).length s.2.2.2).bind fun j6 => (((s.1.set j1 (s.2.1, y2.2)).set j4 (y5.1, r3, y5.2.2))[j6]?).bind fun y7 => some (.inl (((s.1.set j1 (s.2.1, y2.2)).set j4 (y5.1, r3, y5.2.2)).set j6 (y7.1, y7.2.1, Zr ((Zr (s.2.1 + 1)) + 1)), Zr ((Zr ((Zr (s.2.1 + 1)) + 1)) + 1), s.2.2.1, Zr (s.2.2.2 + 1))) else some (.inr (.inl (s.1, s.2.1, s.2.2.1)))
def Pcr.d0 (k : Nat) (y : List T12 × T8) : Option (Int × List T12) :=
 some (y.2.1, y.1)
def Pcr.f (a0 : List T12) (a1 : Int) : Option (Int × List T12) :=
 (iter (X := (List T12 × T8) ⊕ (Int × List T12)) (Pcr.b0 k) k (a0, a1, 0, 0)).bind fun r => match r with | .inl y => Pcr.d0 k y | .inr o => some o
theorem Pcr.ok : Yg 125 ⟨⟨[.lent false K20, .v K0], [.f K0]⟩, fun k (x : List T12 × Int) => Pcr.f k x.1 x.2⟩ := Yq 35 Yv (.n (.seq (.n (.lp [.slot 0 false K20 true, .s 1 K0, .s 4 K0, .s 5 K0] 7 (.seq (.n (.cond .l .l)) (.seq (.blk (.m 5 .l)) .l)))) (.n .l))) Tryz.func125 (Yc Pal.ok Yn)
def Pdh.b0 (s : List T4 × T18) : Option ((List T4 × T18) ⊕ (List T4 × T8) ⊕ (Int × List T4)) :=
 bif decide (s.2.2.2 < (s.1.length : Int)) then (Pal.f k s.2.1).bind fun r1 => (inb? s.1.length s.2.2.2).bind fun j2 => (s.1[j2]?).bind fun y3 => (inb? (s.1.set j2 (r1, y3.2)).length s.2.2.2).bind fun j4 => ((s.1.set j2 (r1, y3.2))[j4]?).bind fun y5 => some (.inl ((s.1.set j2 (r1, y3.2)).set j4 (y5.1, Zr (s.2.1 + 1)), Zr ((Zr (s.2.1 + 1)) + 1), s.2.2.1, Zr (s.2.2.2 + 1))) else some (.inr (.inl (s.1, s.2.1, s.2.2.1)))
def Pdh.d0 (k : Nat) (y : List T4 × T8) : Option (Int × List T4) :=
 some (y.2.1, y.1)
def Pdh.f (a0 : List T4) (a1 : Int) : Option (Int × List T4) :=
 (iter (X := (List T4 × T8) ⊕ (Int × List T4)) (Pdh.b0 k) k (a0, a1, 0, 0)).bind fun r => match r with | .inl y => Pdh.d0 k y | .inr o => some o
theorem Pdh.ok : Yg 126 ⟨⟨[.lent false K11, .v K0], [.f K0]⟩, fun k (x : List T4 × Int) => Pdh.f k x.1 x.2⟩ := Yq 28 Yv (.n (.seq (.n (.lp [.o 0 K11, .s 1 K0, .s 4 K0, .s 5 K0] 7 (.seq (.n (.cond .l .l)) (.seq (.blk (.m 3 .l)) .l)))) (.n .l))) Tryz.func126 (Yc Pal.ok Yn)
def Pdi.b0 (s : List T15 × T18) : Option ((List T15 × T18) ⊕ (List T15 × T8) ⊕ (Int × List T15)) :=
 bif decide (s.2.2.2 < (s.1.length : Int)) then (inb? s.1.length s.2.2.2).bind fun j1 => (s.1[j1]?).bind fun y2 => (Pal.f k (Zr (s.2.1 + 1))).bind fun r3 => (inb? (s.1.set j1 (s.2.1, y2.2)).length s.2.2.2).bind fun j4 => ((s.1.set j1 (s.2.1, y2.2))[j4]?).bind fun y5 => (Pal.f k (Zr ((Zr (s.2.1 + 1)) + 1))).bind fun r6 => (inb? ((s.1.set j1 (s.2.1, y2.2)).set j4 (y5.1, r3, y5.2.2)).length s.2.2.2).bind fun j7 => (((s.1.set j1 (s.2.1, y2.2)).set j4 (y5.1, r3, y5.2.2))[j7]?).bind fun y8 => (inb? (((s.1.set j1 (s.2.1, y2.2)).set j4 (y5.1, r3, y5.2.2)).set j7 (y8.1, y8.2.1, r6, y8.2.2.2)).length s.2.2.2).bind fun j9 => ((((s.1.set j1 (s.2.1, y2.2)).set j4 (y5.1, r3, y5.2.2)).set j7 (y8.1, y8.2.1, r6, y8.2.2.2))[j9]?).bind fun y10 => some (.inl ((((s.1.set j1 (s.2.1, y2.2)).set j4 (y5.1, r3, y5.2.2)).set j7 (y8.1, y8.2.1, r6, y8.2.2.2)).set j9 (y10.1, y10.2.1, y10.2.2.1, Zr ((Zr ((Zr (s.2.1 + 1)) + 1)) + 1)), Zr ((Zr ((Zr ((Zr (s.2.1 + 1)) + 1)) + 1)) + 1), s.2.2.1, Zr (s.2.2.2 + 1))) else some (.inr (.inl (s.1, s.2.1, s.2.2.1)))
def Pdi.d0 (k : Nat) (y : List T15 × T8) : Option (Int × List T15) :=
 some (y.2.1, y.1)
def Pdi.f (a0 : List T15) (a1 : Int) : Option (Int × List T15) :=
 (iter (X := (List T15 × T8) ⊕ (Int × List T15)) (Pdi.b0 k) k (a0, a1, 0, 0)).bind fun r => match r with | .inl y => Pdi.d0 k y | .inr o => some o
theorem Pdi.ok : Yg 127 ⟨⟨[.lent false K29, .v K0], [.f K0]⟩, fun k (x : List T15 × Int) => Pdi.f k x.1 x.2⟩ := Yq 43 Yv (.n (.seq (.n (.lp [.slot 0 false K29 true, .s 1 K0, .s 4 K0, .s 5 K0] 7 (.seq (.n (.cond .l .l)) (.seq (.blk (.m 7 .l)) .l)))) (.n .l))) Tryz.func127 (Yc Pal.ok Yn)
def Pic.f (a0 : T0) (a1 : Int) : Option (Int × T0) :=
 (Pcr.f k a0.2.2.1 a1).bind fun r1 => (Pdh.f k a0.2.2.2.1 r1.1).bind fun r2 => (Pdi.f k a0.2.2.2.2 r2.1).bind fun r3 => some (r3.1, a0.1, a0.2.1, r1.2, r2.2, r3.2)
theorem Pic.ok : Yg 56 ⟨⟨[.lent true K2, .v K0], [.f K0]⟩, fun k (x : T0 × Int) => Pic.f k x.1 x.2⟩ := Yq 18 Yv (.m 5 .l) Tryz.func56 (Yc Pcr.ok (Yc Pdh.ok (Yc Pdi.ok Yn)))
def Pgq.f (a0 : T5) (a1 : Int) : Option (Int × T5) :=
 (Pib.f k a0.2.2.2.1 a1).bind fun r1 => (Pjj.f k a0.2.2.2.2.1 r1.1).bind fun r2 => (Pic.f k a0.2.2.2.2.2.2.1 r2.1).bind fun r3 => some (r3.1, a0.1, a0.2.1, a0.2.2.1, (a0.2.2.2.1.1, a0.2.2.2.1.2.1, a0.2.2.2.1.2.2.1, a0.2.2.2.1.2.2.2.1, a0.2.2.2.1.2.2.2.2.1, a0.2.2.2.1.2.2.2.2.2.1, a0.2.2.2.1.2.2.2.2.2.2.1, a0.2.2.2.1.2.2.2.2.2.2.2.1, r1.2.2.2.2.2.2.2.2.2.1, a0.2.2.2.1.2.2.2.2.2.2.2.2.2.1, r1.2.2.2.2.2.2.2.2.2.2.2), r2.2, a0.2.2.2.2.2.1, (a0.2.2.2.2.2.2.1.1, a0.2.2.2.2.2.2.1.2.1, r3.2.2.2), a0.2.2.2.2.2.2.2)
theorem Pgq.ok : Yg 15 ⟨⟨[.lent true K1, .v K0], [.f K0]⟩, fun k (x : T5 × Int) => Pgq.f k x.1 x.2⟩ := Yq 18 Yv (.m 5 .l) Tryz.func15 (Yc Pib.ok (Yc Pjj.ok (Yc Pic.ok Yn)))
def Pco.b0 (s : List T10 × T18) : Option ((List T10 × T18) ⊕ T8 ⊕ Int) :=
 bif decide (s.2.2.2 < (s.1.length : Int)) then (inb? s.1.length s.2.2.2).bind fun j1 => (s.1[j1]?).bind fun y2 => bif !decide (y2.1 = s.2.1) then some (.inr (.inr (-1))) else (inb? s.1.length s.2.2.2).bind fun j3 => (s.1[j3]?).bind fun y4 => (Pal.f k (Zr (s.2.1 + 1))).bind fun r5 => bif !decide (y4.2 = r5) then some (.inr (.inr (-1))) else some (.inl (s.1, Zr ((Zr (s.2.1 + 1)) + 1), s.2.2.1, Zr (s.2.2.2 + 1))) else some (.inr (.inl (s.2.1, s.2.2.1)))
def Pco.d0 (k : Nat) (y : T8) : Option Int :=
 some y.1
def Pco.f (a0 : List T10) (a1 : Int) : Option Int :=
 (iter (X := T8 ⊕ Int) (Pco.b0 k) k (a0, a1, 0, 0)).bind fun r => match r with | .inl y => Pco.d0 k y | .inr o => some o
theorem Pco.ok : Yg 128 ⟨⟨[.v K23, .v K0], [.f K0]⟩, fun k (x : List T10 × Int) => Pco.f k x.1 x.2⟩ := Yq 32 Yv (.n (.seq (.n (.lp [.s 0 K23, .s 1 K0, .s 4 K0, .s 5 K0] 6 (.seq (.n (.cond .l .l)) (.seq (.blk (.seq .c (.n (.seq .c .l)))) .l)))) (.n .l))) Tryz.func128 (Yc Pal.ok Yn)
def Pch.b0 (k : Nat) (s : List Int × T18) : Option ((List Int × T18) ⊕ T8 ⊕ Int) :=
 bif decide (s.2.2.2 < (s.1.length : Int)) then (inb? s.1.length s.2.2.2).bind fun j1 => (s.1[j1]?).bind fun y2 => bif !decide (y2 = s.2.1) then some (.inr (.inr (-1))) else some (.inl (s.1, Zr (s.2.1 + 1), s.2.2.1, Zr (s.2.2.2 + 1))) else some (.inr (.inl (s.2.1, s.2.2.1)))
def Pch.d0 (k : Nat) (y : T8) : Option Int :=
 some y.1
def Pch.f (a0 : List Int) (a1 : Int) : Option Int :=
 (iter (X := T8 ⊕ Int) (Pch.b0 k) k (a0, a1, 0, 0)).bind fun r => match r with | .inl y => Pch.d0 k y | .inr o => some o
theorem Pch.ok : Yg 129 ⟨⟨[.v K17, .v K0], [.f K0]⟩, fun k (x : T30) => Pch.f k x.1 x.2⟩ := Yq 21 Yv (.n (.seq (.n (.lp [.s 0 K17, .s 1 K0, .s 4 K0, .s 5 K0] 6 (.seq (.n (.cond .l .l)) (.seq (.blk (.seq .c .l)) .l)))) (.n .l))) Tryz.func129 Yn
def Phz.f (a0 : T2) (a1 : Int) : Option Int :=
 (Pco.f k a0.2.2.2.2.2.2.2.2.1 a1).bind fun r1 => bif decide (r1 < 0) then some (-1) else (Pch.f k a0.2.2.2.2.2.2.2.2.2.2.1 r1).bind fun r2 => bif decide (r2 < 0) then some (-1) else (Pch.f k a0.2.2.2.2.2.2.2.2.2.2.2.1 r2).bind fun r3 => bif decide (r3 < 0) then some (-1) else (Pch.f k a0.2.2.2.2.2.2.2.2.2.2.2.2 r3).bind fun r4 => bif decide (r4 < 0) then some (-1) else some r4
theorem Phz.ok : Yg 57 ⟨⟨[.w K4, .v K0], [.f K0]⟩, fun k (x : T2 × Int) => Phz.f k x.1 x.2⟩ := Yq 30 Yv (.n (.n (.seq .c (.n (.seq .c (.n (.seq .c (.n (.seq .c (.n .l)))))))))) Tryz.func57 (Yc Pco.ok (Yc Pch.ok Yn))
def Pbz.b0 (s : List T9 × T18) : Option ((List T9 × T18) ⊕ T8 ⊕ Int) :=
 bif decide (s.2.2.2 < (s.1.length : Int)) then (inb? s.1.length s.2.2.2).bind fun j1 => (s.1[j1]?).bind fun y2 => (Pal.f k s.2.1).bind fun r3 => bif !decide (y2.1 = r3) then some (.inr (.inr (-1))) else (inb? s.1.length s.2.2.2).bind fun j4 => (s.1[j4]?).bind fun y5 => (Pal.f k (Zr (s.2.1 + 1))).bind fun r6 => bif !decide (y5.2.1 = r6) then some (.inr (.inr (-1))) else (inb? s.1.length s.2.2.2).bind fun j7 => (s.1[j7]?).bind fun y8 => bif !decide (y8.2.2 = Zr ((Zr (s.2.1 + 1)) + 1)) then some (.inr (.inr (-1))) else some (.inl (s.1, Zr ((Zr ((Zr (s.2.1 + 1)) + 1)) + 1), s.2.2.1, Zr (s.2.2.2 + 1))) else some (.inr (.inl (s.2.1, s.2.2.1)))
def Pbz.d0 (k : Nat) (y : T8) : Option Int :=
 some y.1
def Pbz.f (a0 : List T9) (a1 : Int) : Option Int :=
 (iter (X := T8 ⊕ Int) (Pbz.b0 k) k (a0, a1, 0, 0)).bind fun r => match r with | .inl y => Pbz.d0 k y | .inr o => some o
theorem Pbz.ok : Yg 130 ⟨⟨[.v K25, .v K0], [.f K0]⟩, fun k (x : List T9 × Int) => Pbz.f k x.1 x.2⟩ := Yq 42 Yv (.n (.seq (.n (.lp [.s 0 K25, .s 1 K0, .s 4 K0, .s 5 K0] 6 (.seq (.n (.cond .l .l)) (.seq (.blk (.seq .c (.n (.seq .c (.n (.seq .c .l)))))) .l)))) (.n .l))) Tryz.func130 (Yc Pal.ok Yn)
def Pby.b0 (s : List T7 × T18) : Option ((List T7 × T18) ⊕ T8 ⊕ Int) :=
 bif decide (s.2.2.2 < (s.1.length : Int)) then (inb? s.1.length s.2.2.2).bind fun j1 => (s.1[j1]?).bind fun y2 => bif !decide (y2.1 = s.2.1) then some (.inr (.inr (-1))) else (inb? s.1.length s.2.2.2).bind fun j3 => (s.1[j3]?).bind fun y4 => bif !decide (y4.2.1 = Zr (s.2.1 + 1)) then some (.inr (.inr (-1))) else (inb? s.1.length s.2.2.2).bind fun j5 => (s.1[j5]?).bind fun y6 => bif !decide (y6.2.2.1 = Zr ((Zr (s.2.1 + 1)) + 1)) then some (.inr (.inr (-1))) else (inb? s.1.length s.2.2.2).bind fun j7 => (s.1[j7]?).bind fun y8 => bif !decide (y8.2.2.2.1 = Zr ((Zr ((Zr (s.2.1 + 1)) + 1)) + 1)) then some (.inr (.inr (-1))) else (inb? s.1.length s.2.2.2).bind fun j9 => (s.1[j9]?).bind fun y10 => bif !decide (y10.2.2.2.2.1 = Zr ((Zr ((Zr ((Zr (s.2.1 + 1)) + 1)) + 1)) + 1)) then some (.inr (.inr (-1))) else (inb? s.1.length s.2.2.2).bind fun j11 => (s.1[j11]?).bind fun y12 => (Pal.f k (Zr ((Zr ((Zr ((Zr ((Zr (s.2.1 + 1)) + 1)) + 1)) + 1)) + 1))).bind fun r13 => bif !decide (y12.2.2.2.2.2.1 = r13) then some (.inr (.inr (-1))) else (inb? s.1.length s.2.2.2).bind fun j14 => (s.1[j14]?).bind fun y15 => bif !decide (y15.2.2.2.2.2.2.1 = Zr ((Zr ((Zr ((Zr ((Zr ((Zr (s.2.1 + 1)) + 1)) + 1)) + 1)) + 1)) + 1)) then some (.inr (.inr (-1))) else (inb? s.1.length s.2.2.2).bind fun j16 => (s.1[j16]?).bind fun y17 => bif !decide (y17.2.2.2.2.2.2.2 = Zr ((Zr ((Zr ((Zr ((Zr ((Zr ((Zr (s.2.1 + 1)) + 1)) + 1)) + 1)) + 1)) + 1)) + 1)) then some (.inr (.inr (-1))) else some (.inl (s.1, Zr ((Zr ((Zr ((Zr ((Zr ((Zr ((Zr ((Zr (s.2.1 + 1)) + 1)) + 1)) + 1)) + 1)) + 1)) + 1)) + 1), s.2.2.1, Zr (s.2.2.2 + 1))) else some (.inr (.inl (s.2.1, s.2.2.1)))
def Pby.d0 (k : Nat) (y : T8) : Option Int :=
 some y.1
def Pby.f (a0 : List T7) (a1 : Int) : Option Int :=
 (iter (X := T8 ⊕ Int) (Pby.b0 k) k (a0, a1, 0, 0)).bind fun r => match r with | .inl y => Pby.d0 k y | .inr o => some o
theorem Pby.ok : Yg 131 ⟨⟨[.v K31, .v K0], [.f K0]⟩, fun k (x : List T7 × Int) => Pby.f k x.1 x.2⟩ := Yq 92 Yv (.n (.seq (.n (.lp [.s 0 K31, .s 1 K0, .s 4 K0, .s 5 K0] 6 (.seq (.n (.cond .l .l)) (.seq (.blk (.seq .c (.n (.seq .c (.n (.seq .c (.n (.seq .c (.n (.seq .c (.n (.seq .c (.n (.seq .c (.n (.seq .c .l)))))))))))))))) .l)))) (.n .l))) Tryz.func131 (Yc Pal.ok Yn)
def Pji.f (a0 : T1) (a1 : Int) : Option Int :=
 (Pbz.f k a0.1 a1).bind fun r1 => bif decide (r1 < 0) then some (-1) else (Pch.f k a0.2.1 r1).bind fun r2 => bif decide (r2 < 0) then some (-1) else (Pby.f k a0.2.2 r2).bind fun r3 => bif decide (r3 < 0) then some (-1) else some r3
theorem Pji.ok : Yg 58 ⟨⟨[.w K3, .v K0], [.f K0]⟩, fun k (x : T1 × Int) => Pji.f k x.1 x.2⟩ := Yq 24 Yv (.n (.n (.seq .c (.n (.seq .c (.n (.seq .c (.n .l)))))))) Tryz.func58 (Yc Pbz.ok (Yc Pch.ok (Yc Pby.ok Yn)))
def Pcp.b0 (s : List T12 × T18) : Option ((List T12 × T18) ⊕ T8 ⊕ Int) :=
 bif decide (s.2.2.2 < (s.1.length : Int)) then (inb? s.1.length s.2.2.2).bind fun j1 => (s.1[j1]?).bind fun y2 => bif !decide (y2.1 = s.2.1) then some (.inr (.inr (-1))) else (inb? s.1.length s.2.2.2).bind fun j3 => (s.1[j3]?).bind fun y4 => (Pal.f k (Zr (s.2.1 + 1))).bind fun r5 => bif !decide (y4.2.1 = r5) then some (.inr (.inr (-1))) else (inb? s.1.length s.2.2.2).bind fun j6 => (s.1[j6]?).bind fun y7 => bif !decide (y7.2.2 = Zr ((Zr (s.2.1 + 1)) + 1)) then some (.inr (.inr (-1))) else some (.inl (s.1, Zr ((Zr ((Zr (s.2.1 + 1)) + 1)) + 1), s.2.2.1, Zr (s.2.2.2 + 1))) else some (.inr (.inl (s.2.1, s.2.2.1)))
def Pcp.d0 (k : Nat) (y : T8) : Option Int :=
 some y.1
def Pcp.f (a0 : List T12) (a1 : Int) : Option Int :=
 (iter (X := T8 ⊕ Int) (Pcp.b0 k) k (a0, a1, 0, 0)).bind fun r => match r with | .inl y => Pcp.d0 k y | .inr o => some o
theorem Pcp.ok : Yg 132 ⟨⟨[.v K20, .v K0], [.f K0]⟩, fun k (x : List T12 × Int) => Pcp.f k x.1 x.2⟩ := Yq 41 Yv (.n (.seq (.n (.lp [.s 0 K20, .s 1 K0, .s 4 K0, .s 5 K0] 6 (.seq (.n (.cond .l .l)) (.seq (.blk (.seq .c (.n (.seq .c (.n (.seq .c .l)))))) .l)))) (.n .l))) Tryz.func132 (Yc Pal.ok Yn)
def Pdf.b0 (s : List T4 × T18) : Option ((List T4 × T18) ⊕ T8 ⊕ Int) :=
 bif decide (s.2.2.2 < (s.1.length : Int)) then (inb? s.1.length s.2.2.2).bind fun j1 => (s.1[j1]?).bind fun y2 => (Pal.f k s.2.1).bind fun r3 => bif !decide (y2.1 = r3) then some (.inr (.inr (-1))) else (inb? s.1.length s.2.2.2).bind fun j4 => (s.1[j4]?).bind fun y5 => bif !decide (y5.2 = Zr (s.2.1 + 1)) then some (.inr (.inr (-1))) else some (.inl (s.1, Zr ((Zr (s.2.1 + 1)) + 1), s.2.2.1, Zr (s.2.2.2 + 1))) else some (.inr (.inl (s.2.1, s.2.2.1)))
def Pdf.d0 (k : Nat) (y : T8) : Option Int :=
 some y.1
def Pdf.f (a0 : List T4) (a1 : Int) : Option Int :=
 (iter (X := T8 ⊕ Int) (Pdf.b0 k) k (a0, a1, 0, 0)).bind fun r => match r with | .inl y => Pdf.d0 k y | .inr o => some o
theorem Pdf.ok : Yg 133 ⟨⟨[.v K11, .v K0], [.f K0]⟩, fun k (x : List T4 × Int) => Pdf.f k x.1 x.2⟩ := Yq 32 Yv (.n (.seq (.n (.lp [.s 0 K11, .s 1 K0, .s 4 K0, .s 5 K0] 6 (.seq (.n (.cond .l .l)) (.seq (.blk (.seq .c (.n (.seq .c .l)))) .l)))) (.n .l))) Tryz.func133 (Yc Pal.ok Yn)
def Pdg.b0 (s : List T15 × T18) : Option ((List T15 × T18) ⊕ T8 ⊕ Int) :=
 bif decide (s.2.2.2 < (s.1.length : Int)) then (inb? s.1.length s.2.2.2).bind fun j1 => (s.1[j1]?).bind fun y2 => bif !decide (y2.1 = s.2.1) then some (.inr (.inr (-1))) else (inb? s.1.length s.2.2.2).bind fun j3 => (s.1[j3]?).bind fun y4 => (Pal.f k (Zr (s.2.1 + 1))).bind fun r5 => bif !decide (y4.2.1 = r5) then some (.inr (.inr (-1))) else (inb? s.1.length s.2.2.2).bind fun j6 => (s.1[j6]?).bind fun y7 => (Pal.f k (Zr ((Zr (s.2.1 + 1)) + 1))).bind fun r8 => bif !decide (y7.2.2.1 = r8) then some (.inr (.inr (-1))) else (inb? s.1.length s.2.2.2).bind fun j9 => (s.1[j9]?).bind fun y10 => bif !decide (y10.2.2.2 = Zr ((Zr ((Zr (s.2.1 + 1)) + 1)) + 1)) then some (.inr (.inr (-1))) else some (.inl (s.1, Zr ((Zr ((Zr ((Zr (s.2.1 + 1)) + 1)) + 1)) + 1), s.2.2.1, Zr (s.2.2.2 + 1))) else some (.inr (.inl (s.2.1, s.2.2.1)))
def Pdg.d0 (k : Nat) (y : T8) : Option Int :=
 some y.1
def Pdg.f (a0 : List T15) (a1 : Int) : Option Int :=
 (iter (X := T8 ⊕ Int) (Pdg.b0 k) k (a0, a1, 0, 0)).bind fun r => match r with | .inl y => Pdg.d0 k y | .inr o => some o
theorem Pdg.ok : Yg 134 ⟨⟨[.v K29, .v K0], [.f K0]⟩, fun k (x : List T15 × Int) => Pdg.f k x.1 x.2⟩ := Yq 51 Yv (.n (.seq (.n (.lp [.s 0 K29, .s 1 K0, .s 4 K0, .s 5 K0] 6 (.seq (.n (.cond .l .l)) (.seq (.blk (.seq .c (.n (.seq .c (.n (.seq .c (.n (.seq .c .l)))))))) .l)))) (.n .l))) Tryz.func134 (Yc Pal.ok Yn)
def Pia.f (a0 : T0) (a1 : Int) : Option Int :=
 (Pcp.f k a0.2.2.1 a1).bind fun r1 => bif decide (r1 < 0) then some (-1) else (Pdf.f k a0.2.2.2.1 r1).bind fun r2 => bif decide (r2 < 0) then some (-1) else (Pdg.f k a0.2.2.2.2 r2).bind fun r3 => bif decide (r3 < 0) then some (-1) else some r3
theorem Pia.ok : Yg 59 ⟨⟨[.w K2, .v K0], [.f K0]⟩, fun k (x : T0 × Int) => Pia.f k x.1 x.2⟩ := Yq 24 Yv (.n (.n (.seq .c (.n (.seq .c (.n (.seq .c (.n .l)))))))) Tryz.func59 (Yc Pcp.ok (Yc Pdf.ok (Yc Pdg.ok Yn)))
def Pgp.f (a0 : T5) (a1 : Int) : Option Int :=
 (Phz.f k a0.2.2.2.1 a1).bind fun r1 => bif decide (r1 < 0) then some (-1) else (Pji.f k a0.2.2.2.2.1 r1).bind fun r2 => bif decide (r2 < 0) then some (-1) else (Pia.f k a0.2.2.2.2.2.2.1 r2).bind fun r3 => bif decide (r3 < 0) then some (-1) else some r3
theorem Pgp.ok : Yg 16 ⟨⟨[.w K1, .v K0], [.f K0]⟩, fun k (x : T5 × Int) => Pgp.f k x.1 x.2⟩ := Yq 24 Yv (.n (.n (.seq .c (.n (.seq .c (.n (.seq .c (.n .l)))))))) Tryz.func16 (Yc Phz.ok (Yc Pji.ok (Yc Pia.ok Yn)))
def Pey.f (a0 : T5) (a1 : Int) (a2 : Int) : Option Bool :=
 (Piu.f k a0 1048576).bind fun r1 => bif decide (r1 < 0) then some true else (Pfw.f k a0).bind fun r2 => (Pik.f k r2 a1 a2).bind fun r3 => (Pfw.f k a0).bind fun r4 => (Pgn.f k r4 a1 a2).bind fun r5 => (Pft.f k r5 r3).bind fun r6 => bif !r6 then some false else (Pfw.f k a0).bind fun r7 => (Pft.f k r4 r7).bind fun r8 => bif !r8 then some false else (Pgq.f k r4 1).bind fun r9 => bif decide (r9.1 < 0) then some false else (Pft.f k r5 r3).bind fun r10 => bif !r10 then some false else (Pgq.f k r5 1).bind fun r11 => (Pgp.f k (r5.1, r5.2.1, r5.2.2.1, (r5.2.2.2.1.1, r5.2.2.2.1.2.1, r5.2.2.2.1.2.2.1, r5.2.2.2.1.2.2.2.1, r5.2.2.2.1.2.2.2.2.1, r5.2.2.2.1.2.2.2.2.2.1, r5.2.2.2.1.2.2.2.2.2.2.1, r5.2.2.2.1.2.2.2.2.2.2.2.1, r11.2.2.2.2.1.2.2.2.2.2.2.2.2.1, r5.2.2.2.1.2.2.2.2.2.2.2.2.2.1, r11.2.2.2.2.1.2.2.2.2.2.2.2.2.2.2), r11.2.2.2.2.2.1, r5.2.2.2.2.2.1, (r5.2.2.2.2.2.2.1.1, r5.2.2.2.2.2.2.1.2.1, r11.2.2.2.2.2.2.2.1.2.2), r5.2.2.2.2.2.2.2) 1).bind fun r12 => bif decide (r12 < 0) then some false else bif !decide (r12 = r11.1) then some false else (Pfw.f k a0).bind fun r13 => (Pgn.f k r13 a1 a2).bind fun r14 => (Pft.f k r14 r3).bind fun r15 => bif !r15 then some false else (Pgp.f k (r5.1, r5.2.1, r5.2.2.1, (r5.2.2.2.1.1, r5.2.2.2.1.2.1, r5.2.2.2.1.2.2.1, r5.2.2.2.1.2.2.2.1, r5.2.2.2.1.2.2.2.2.1, r5.2.2.2.1.2.2.2.2.2.1, r5.2.2.2.1.2.2.2.2.2.2.1, r5.2.2.2.1.2.2.2.2.2.2.2.1, r11.2.2.2.2.1.2.2.2.2.2.2.2.2.1, r5.2.2.2.1.2.2.2.2.2.2.2.2.2.1, r11.2.2.2.2.1.2.2.2.2.2.2.2.2.2.2), r11.2.2.2.2.2.1, r5.2.2.2.2.2.1, (r5.2.2.2.2.2.2.1.1, r5.2.2.2.2.2.2.1.2.1, r11.2.2.2.2.2.2.2.1.2.2), r5.2.2.2.2.2.2.2) 1).bind fun r16 => bif decide (r16 < 0) then some false else bif !decide (r16 = r11.1) then some false else some true
theorem Pey.ok : Yg 5 ⟨⟨[.w K10, .v K0, .v K0], [.f .bool]⟩, fun k (x : T5 × T8) => Pey.f k x.1 x.2.1 x.2.2⟩ := Yq 79 Yv (.m 3 (.seq .c (.m 3 (.seq .c (.seq .c (.n (.n (.seq .c (.m 4 (.seq .c (.seq .c (.n (.seq .c (.n (.n (.seq .c (.seq .c (.n .l)))))))))))))))))) Tryz.func5 (Yc Piu.ok (Yc Pfw.ok (Yc Pik.ok (Yc Pgn.ok (Yc Pft.ok (Yc Pgq.ok (Yc Pgp.ok Yn)))))))
end Go.Proofs.YtbkcbfkehncocaaGreatDoor.Rx
