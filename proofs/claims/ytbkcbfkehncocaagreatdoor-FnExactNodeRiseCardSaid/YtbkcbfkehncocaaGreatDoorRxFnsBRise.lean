/- Typed functions and their contracts. No condition. -/
import Derived.Test.YtbkcbfkehncocaaGreatDoorRxFnsARise
import Derived.Test.YtbkcbfkehncocaaGreatDoorProg
import Derived.KernelRfl
set_option linter.unusedVariables false
set_option linter.unusedSimpArgs false
namespace Go.Proofs.YtbkcbfkehncocaaGreatDoor.Rx
open Go.Proofs
variable (k : Nat)
def Pjt.f (a0 : List T4) (a1 : T16) : Option (List T4 × Bool) :=
 (Pde.f k a0).bind fun r1 => (Pia.f k a0 a1.2.1).bind fun r2 => bif decide (a1.1 = 1) then bif decide (a1.2.2.1 = Ze) then bif decide (r2 < 0) then (Pdu.f k r1 (a1.2.1, a1.2.2.2)).bind fun r3 => some (r3, true) else bif decide (a1.1 = 2) then bif decide (a1.2.2.2 = 0) then bif decide (0 ≤ r2) then bif !decide (a1.2.2.1 = a1.2.1) then (Pbl.f k a1.2.2.1).bind fun r4 => bif r4 then (Pad.f k r1 a1).bind fun r5 => (inb? a0.length r2).bind fun j6 => (a0[j6]?).bind fun y7 => (Pdu.f k r5 (a1.2.2.1, y7.2)).bind fun r8 => some (r8, true) else bif decide (a1.1 = 3) then bif decide (a1.2.2.1 = Ze) then bif decide (a1.2.2.2 = 0) then bif decide (0 ≤ r2) then (Pap.f k r1 r2 (Zr (r2 + 1))).bind fun r9 => some (r9, true) else some (r1, false) else some (r1, false) else some (r1, false) else some (r1, false) else bif decide (a1.1 = 3) then bif decide (a1.2.2.1 = Ze) then bif decide (a1.2.2.2 = 0) then bif decide (0 ≤ r2) then (Pap.f k r1 r2 (Zr (r2 + 1))).bind fun r10 => some (r10, true) else some (r1, false) else some (r1, false) else some (r1, false) else some (r1, false) else bif decide (a1.1 = 3) then bif decide (a1.2.2.1 = Ze) then bif decide (a1.2.2.2 = 0) then bif decide (0 ≤ r2) then (Pap.f k r1 r2 (Zr (r2 + 1))).bind fun r11 => some (r11, true) else some (r1, false) else some (r1, false) else some (r1, false) else some (r1, false) else bif decide (a1.1 = 3) then bif decide (a1.2.2.1 = Ze) then bif decide (a1.2.2.2 = 0) then bif decide (0 ≤ r2) then (Pap.f k r1 r2 (Zr (r2 + 1))).bind fun r12 => some (r12, true) else some (r1, false) else some (r1, false) else some (r1, false) else some (r1, false) else bif decide (a1.1 = 3) then bif decide (a1.2.2.1 = Ze) then bif decide (a1.2.2.2 = 0) then bif decide (0 ≤ r2) then (Pap.f k r1 r2 (Zr (r2 + 1))).bind fun r13 => some (r13, true) else some (r1, false) else some (r1, false) else some (r1, false) else some (r1, false) else bif decide (a1.1 = 2) then bif decide (a1.2.2.2 = 0) then bif decide (0 ≤ r2) then bif !decide (a1.2.2.1 = a1.2.1) then (Pbl.f k a1.2.2.1).bind fun r14 => bif r14 then (Pad.f k r1 a1).bind fun r15 => (inb? a0.length r2).bind fun j16 => (a0[j16]?).bind fun y17 => (Pdu.f k r15 (a1.2.2.1, y17.2)).bind fun r18 => some (r18, true) else bif decide (a1.1 = 3) then bif decide (a1.2.2.1 = Ze) then bif decide (a1.2.2.2 = 0) then bif decide (0 ≤ r2) then (Pap.f k r1 r2 (Zr (r2 + 1))).bind fun r19 => some (r19, true) else some (r1, false) else some (r1, false) else some (r1, false) else some (r1, false) else bif decide (a1.1 = 3) then bif decide (a1.2.2.1 = Ze) then bif decide (a1.2.2.2 = 0) then bif decide (0 ≤ r2) then (Pap.f k r1 r2 (Zr (r2 + 1))).bind fun r20 => some (r20, true) else some (r1, false) else some (r1, false) else some (r1, false) else some (r1, false) else bif decide (a1.1 = 3) then bif decide (a1.2.2.1 = Ze) then bif decide (a1.2.2.2 = 0) then bif decide (0 ≤ r2) then (Pap.f k r1 r2 (Zr (r2 + 1))).bind fun r21 => some (r21, true) else some (r1, false) else some (r1, false) else some (r1, false) else some (r1, false) else bif decide (a1.1 = 3) then bif decide (a1.2.2.1 = Ze) then bif decide (a1.2.2.2 = 0) then bif decide (0 ≤ r2) then (Pap.f k r1 r2 (Zr (r2 + 1))).bind fun r22 => some (r22, true) else some (r1, false) else some (r1, false) else some (r1, false) else some (r1, false) else bif decide (a1.1 = 3) then bif decide (a1.2.2.1 = Ze) then bif decide (a1.2.2.2 = 0) then bif decide (0 ≤ r2) then (Pap.f k r1 r2 (Zr (r2 + 1))).bind fun r23 => some (r23, true) else some (r1, false) else some (r1, false) else some (r1, false) else some (r1, false) else bif decide (a1.1 = 2) then bif decide (a1.2.2.2 = 0) then bif decide (0 ≤ r2) then bif !decide (a1.2.2.1 = a1.2.1) then (Pbl.f k a1.2.2.1).bind fun r24 => bif r24 then (Pad.f k r1 a1).bind fun r25 => (inb? a0.length r2).bind fun j26 => (a0[j26]?).bind fun y27 => (Pdu.f k r25 (a1.2.2.1, y27.2)).bind fun r28 => some (r28, true) else bif decide (a1.1 = 3) then bif decide (a1.2.2.1 = Ze) then bif decide (a1.2.2.2 = 0) then bif decide (0 ≤ r2) then (Pap.f k r1 r2 (Zr (r2 + 1))).bind fun r29 => some (r29, true) else some (r1, false) else some (r1, false) else some (r1, false) else some (r1, false) else bif decide (a1.1 = 3) then bif decide (a1.2.2.1 = Ze) then bif decide (a1.2.2.2 = 0) then bif decide (0 ≤ r2) then (Pap.f k r1 r2 (Zr (r2 + 1))).bind fun r30 => some (r30, true) else some (r1, false) else some (r1, false) else some (r1, false) else some (r1, false) else bif decide (a1.1 = 3) then bif decide (a1.2.2.1 = Ze) then bif decide (a1.2.2.2 = 0) then bif decide (0 ≤ r2) then (Pap.f k r1 r2 (Zr (r2 + 1))).bind fun r31 => some (r31, true) else some (r1, false) else some (r1, false) else some (r1, false) else some (r1, false) else bif decide (a1.1 = 3) then bif decide (a1.2.2.1 = Ze) then bif decide (a1.2.2.2 = 0) then bif decide (0 ≤ r2) then (Pap.f k r1 r2 (Zr (r2 + 1))).bind fun r32 => some (r32, true) else some (r1, false) else some (r1, false) else some (r1, false) else some (r1, false) else bif decide (a1.1 = 3) then bif decide (a1.2.2.1 = Ze) then bif decide (a1.2.2.2 = 0) then bif decide (0 ≤ r2) then (Pap.f k r1 r2 (Zr (r2 + 1))).bind fun r33 => some (r33, true) else some (r1, false) else some (r1, false) else some (r1, false) else some (r1, false)
theorem Pjt.ok : Yg 193 ⟨⟨[.v K12, .w K9], [.f K12, .f .bool]⟩, Z2 Pjt.f⟩ := Yq 96 Yv (.m 3 (.seq (.blk (.n (.cond (.n .l) (.n (.cond (.n (.n .l)) .c))))) (.n .l))) Tryz.func193 (Yc Pde.ok (Yc Pia.ok (Yc Pdu.ok (Yc Pbl.ok (Yc Pad.ok (Yc Pap.ok Yn))))))
def Par.c0 (k : Nat) (y : Bool × List Int × List T4 × Int × Int × T1 × T4) : Option T43 :=
 (app? (limOf 8) y.2.1 ([y.2.2.2.2.2.2.2])).bind fun l1 => some (.inl (y.1, l1, y.2.2.1, y.2.2.2.1, Zr (y.2.2.2.2.1 + 1), y.2.2.2.2.2.1))
def Par.b0 (s : Bool × List Int × List T4 × Int × T66) : Option T43 :=
 bif decide (s.2.2.2.2.1 < s.2.2.2.1) then (inb? s.2.2.1.length s.2.2.2.2.1).bind fun j1 => (s.2.2.1[j1]?).bind fun y2 => Option.bind (α := (Bool × List Int × List T4 × Int × Int × T1 × T4) ⊕ Bool) ((Pbl.f k y2.1).bind fun r3 => bif !r3 then some (.inr false) else bif decide (0 < s.2.2.2.2.1) then (inb? s.2.2.2.2.2.2.2.2.1.length (Zr (s.2.2.2.2.1 - 1))).bind fun j4 => (s.2.2.2.2.2.2.2.2.1[j4]?).bind fun y5 => bif !strLt y5.1 y2.1 then some (.inr false) else (Pfq.f k s.2.2.2.2.2 y2.2).bind fun r6 => bif decide (r6 < 0) then some (.inr false) else (Pdj.f k s.2.1 y2.2).bind fun r7 => bif r7 then some (.inr false) else some (.inl (s.1, s.2.1, s.2.2.1, s.2.2.2.1, s.2.2.2.2.1, s.2.2.2.2.2, y2)) else (Pfq.f k s.2.2.2.2.2 y2.2).bind fun r8 => bif decide (r8 < 0) then some (.inr false) else (Pdj.f k s.2.1 y2.2).bind fun r9 => bif r9 then some (.inr false) else some (.inl (s.1, s.2.1, s.2.2.1, s.2.2.2.1, s.2.2.2.2.1, s.2.2.2.2.2, y2))) fun | .inl y => Par.c0 k y | .inr o => some (.inr (.inr o)) else some (.inr (.inl (s.1, s.2.1, s.2.2.2.2.2)))
def Par.b1 (s : Bool × List Int × List T4 × List T16 × Int × T66) : Option ((Bool × List Int × List T4 × List T16 × Int × T66) ⊕ T85 ⊕ Bool) :=
 bif decide (s.2.2.2.2.2.1 < s.2.2.2.2.1) then (inb? s.2.2.2.1.length s.2.2.2.2.2.1).bind fun j1 => (s.2.2.2.1[j1]?).bind fun y2 => (Pjt.f k s.2.2.1 y2).bind fun r3 => bif !r3.2 then some (.inr (.inr false)) else (Pbl.f k y2.2.1).bind fun r4 => bif !r4 then some (.inr (.inr false)) else bif decide (y2.1 = 1) then (Pfq.f k s.2.2.2.2.2.2 y2.2.2.2).bind fun r5 => bif decide (r5 < 0) then some (.inr (.inr false)) else (Pdj.f k s.2.1 y2.2.2.2).bind fun r6 => bif r6 then some (.inr (.inr false)) else (app? (limOf 8) s.2.1 ([y2.2.2.2])).bind fun l7 => some (.inl (s.1, l7, r3.1, s.2.2.2.1, s.2.2.2.2.1, Zr (s.2.2.2.2.2.1 + 1), s.2.2.2.2.2.2)) else some (.inl (s.1, s.2.1, r3.1, s.2.2.2.1, s.2.2.2.2.1, Zr (s.2.2.2.2.2.1 + 1), s.2.2.2.2.2.2)) else some (.inr (.inl (s.1, s.2.1, s.2.2.2.2.2.2)))
def Par.d1 (k : Nat) (y : T85) : Option Bool :=
 some (decide ((y.2.1.length : Int) = (y.2.2.2.2.1.length : Int)))
def Par.d0 (y : T85) : Option Bool :=
 (Pde.f k y.2.2.2.2.2.1).bind fun r1 => (iter (X := T85 ⊕ Bool) (Par.b1 k) k (y.1, y.2.1, r1, y.2.2.2.2.2.2, (y.2.2.2.2.2.2.length : Int), 0, y.2.2)).bind fun | .inl y => Par.d1 k y | .inr o => some o
def Par.f (a0 : T1) : Option Bool :=
 (iter (X := T85 ⊕ Bool) (Par.b0 k) k (false, [], a0.2.2.2.1, (a0.2.2.2.1.length : Int), 0, a0)).bind fun | .inl y => Par.d0 k y | .inr o => some o
theorem Par.ok : Yg 101 ⟨⟨[.w K2], [.f .bool]⟩, Par.f⟩ := Yq 110 (Yk 3 K0 Yv) (.n (.n (.seq (.n (.lp [.ptr 1 1000, .s 2 .bool, .o 3 K20, .s 13 K12, .s 14 K0, .s 15 K0, .box 1000 53 K2 false false] 71 (.n (.seq (.cond .l .l) (.seq (.blk (.n (.seq (.cut [.ptr 1 1000, .s 2 .bool, .o 3 K20, .ptr 5 5003, .s 13 K12, .s 14 K0, .s 15 K0, .box 1000 53 K2 false false, .box 5003 114 K6 false false] .c) .l))) .l))))) (.n (.seq (.n (.lp [.ptr 1 1000, .s 2 .bool, .o 3 K20, .o 6 K12, .s 63 K31, .s 64 K0, .s 65 K0, .box 1000 53 K2 false false] 135 (.n (.seq (.cond .l .l) (.seq (.blk (.n (.n (.seq .c (.seq (.n (.cond (.seq .c .l) .l)) .l))))) .l))))) (.n .l)))))) Tryz.func101 (Yc Pbl.ok (Yc Pfq.ok (Yc Pdj.ok (Yc Pde.ok (Yc Pjt.ok Yn)))))
def Pbe.b0 (s : Bool × List T15 × Int × T66) : Option ((Bool × List T15 × Int × T66) ⊕ (Bool × T1) ⊕ Bool) :=
 bif decide (s.2.2.2.1 < s.2.2.1) then (inb? s.2.1.length s.2.2.2.1).bind fun j1 => (s.2.1[j1]?).bind fun y2 => (Paa.f k y2.1 1 (Zr (s.2.2.2.2.2.1 - 1))).bind fun r3 => bif !r3 then some (.inr (.inr false)) else bif decide (0 < s.2.2.2.1) then (inb? s.2.2.2.2.2.2.1.length (Zr (s.2.2.2.1 - 1))).bind fun j4 => (s.2.2.2.2.2.2.1[j4]?).bind fun y5 => bif decide (y2.1 ≤ y5.1) then some (.inr (.inr false)) else (Paa.f k y2.2.2 0 (y2.2.1.size : Int)).bind fun r6 => bif !r6 then some (.inr (.inr false)) else some (.inl (s.1, s.2.1, s.2.2.1, Zr (s.2.2.2.1 + 1), s.2.2.2.2)) else (Paa.f k y2.2.2 0 (y2.2.1.size : Int)).bind fun r7 => bif !r7 then some (.inr (.inr false)) else some (.inl (s.1, s.2.1, s.2.2.1, Zr (s.2.2.2.1 + 1), s.2.2.2.2)) else some (.inr (.inl (s.1, s.2.2.2.2)))
def Pbe.d0 (y : Bool × T1) : Option Bool :=
 (Par.f k y.2).bind fun r1 => some r1
def Pbe.f (a0 : T1) : Option Bool :=
 (Paa.f k a0.1 0 1048576).bind fun r1 => bif !r1 then some false else (Paa.f k a0.2.1 1 1000000).bind fun r2 => bif !r2 then some false else bif decide (10 < (a0.2.2.1.length : Int)) then some false else (Pcu.f k a0).bind fun r3 => bif decide (a0.1 < r3) then some false else bif decide (20 < (a0.2.2.2.2.length : Int)) then some false else (iter (X := (Bool × T1) ⊕ Bool) (Pbe.b0 k) k (false, a0.2.2.1, (a0.2.2.1.length : Int), 0, a0)).bind fun | .inl y => Pbe.d0 k y | .inr o => some o
theorem Pbe.ok : Yg 42 ⟨⟨[.w K2], [.f .bool]⟩, Pbe.f⟩ := Yq 77 Yv (.n (.seq .c (.seq (.n (.lp [.ptr 1 1000, .s 2 .bool, .s 35 K24, .s 36 K0, .s 37 K0, .box 1000 53 K2 false false] 35 (.n (.seq (.cond .l .l) (.seq (.blk (.n .c)) .l))))) (.n .l)))) Tryz.func42 (Yc Paa.ok (Yc Pcu.ok (Yc Par.ok Yn)))
def Pmv.f (a0 : Int) (a1 : Int) : Option Bool :=
 (Paa.f k a0 0 20).bind fun r1 => bif r1 then (Paa.f k a1 0 1048576).bind fun r2 => some r2 else some false
theorem Pmv.ok : Yg 43 ⟨⟨[.v K0, .v K0], [.f .bool]⟩, Z2 Pmv.f⟩ := Yq 11 Yv (.n (.n .l)) Tryz.func43 (Yc Paa.ok Yn)
def Pbd.f (k : Nat) (a0 : List T11) : Option (List T11) :=
 (app? (limOf 24) [] a0).bind fun l1 => some l1
theorem Pbd.ok : Yg 211 ⟨⟨[.v K22], [.f K22]⟩, Pbd.f⟩ := Yq 5 (Yk 145 K14 Yv) (.n (.n .l)) Tryz.func211 Yn
def Per.f (a0 : T5) : Option T3 :=
 (Pbd.f k a0.2.2.2.2.2.2.2.2.1).bind fun r1 => some (a0.2.2.1, a0.2.2.2.1, a0.2.2.2.2.2.2.1, a0.2.2.2.2.2.2.2.1, r1)
theorem Per.ok : Yg 108 ⟨⟨[.box 43 K4 false false], [.t K5]⟩, Per.f⟩ := Yq 25 Yv (.n (.n .l)) Tryz.func108 (Yc Pbd.ok Yn)
def Phy.f (a0 : Int) : Option Bool :=
 (Paa.f k a0 0 100000).bind fun r1 => some r1
theorem Phy.ok : Yg 255 ⟨⟨[.v K0], [.f .bool]⟩, Phy.f⟩ := Yq 5 Yv (.n (.n .l)) Tryz.func255 (Yc Paa.ok Yn)
def Phz.f (a0 : Int) : Option Bool :=
 (Paa.f k a0 (-1) 4).bind fun r1 => some r1
theorem Phz.ok : Yg 256 ⟨⟨[.v K0], [.f .bool]⟩, Phz.f⟩ := Yq 5 Yv (.n (.n .l)) Tryz.func256 (Yc Paa.ok Yn)
def Phf.f (a0 : Int) (a1 : Int) : Option Bool :=
 bif decide (a0 = 0) then bif decide (a1 = 0) then some true else (Paa.f k a0 1 100000).bind fun r1 => bif r1 then (Paa.f k a1 1 100000).bind fun r2 => some r2 else some false else (Paa.f k a0 1 100000).bind fun r3 => bif r3 then (Paa.f k a1 1 100000).bind fun r4 => some r4 else some false
theorem Phf.ok : Yg 257 ⟨⟨[.v K0, .v K0], [.f .bool]⟩, Z2 Phf.f⟩ := Yq 19 Yv (.n (.n .l)) Tryz.func257 (Yc Paa.ok Yn)
def Pgc.f (k : Nat) (a0 : T3) : Option Int :=
 some (Zr (a0.2.2.1 + (a0.2.2.2.2.length : Int)))
theorem Pgc.ok : Yg 258 ⟨⟨[.w K5], [.f K0]⟩, Pgc.f⟩ := Yq 9 Yv (.n (.n .l)) Tryz.func258 Yn
def Pek.b0 (s : Bool × Int × List T11 × Int × Int × T3) : Option ((Bool × Int × List T11 × Int × Int × T3) ⊕ Bool ⊕ Bool) :=
 bif decide (s.2.2.2.2.1 < s.2.2.2.1) then (inb? s.2.2.1.length s.2.2.2.2.1).bind fun j1 => (s.2.2.1[j1]?).bind fun y2 => bif decide (900 < (y2.2.size : Int)) then some (.inr (.inr false)) else (Paa.f k y2.1 s.2.1 s.2.2.2.2.2.1).bind fun r3 => bif !r3 then some (.inr (.inr false)) else some (.inl (s.1, y2.1, s.2.2.1, s.2.2.2.1, Zr (s.2.2.2.2.1 + 1), s.2.2.2.2.2)) else some (.inr (.inl s.1))
def Pek.d0 (k : Nat) (y : Bool) : Option Bool :=
 some true
def Pek.f (a0 : T3) : Option Bool :=
 (Phy.f k a0.1).bind fun r1 => bif !r1 then some false else (Phz.f k a0.2.1).bind fun r2 => bif !r2 then some false else (Phf.f k a0.2.2.1 a0.2.2.2.1).bind fun r3 => bif !r3 then some false else bif decide (a0.1 < a0.2.2.2.1) then some false else bif decide (60 < (a0.2.2.2.2.length : Int)) then some false else (Pgc.f k a0).bind fun r4 => bif decide (100000 < r4) then some false else (iter (X := Bool ⊕ Bool) (Pek.b0 k) k (false, (if a0.2.2.2.1 > 1 then a0.2.2.2.1 else 1), a0.2.2.2.2, (a0.2.2.2.2.length : Int), 0, a0)).bind fun | .inl y => Pek.d0 k y | .inr o => some o
theorem Pek.ok : Yg 194 ⟨⟨[.w K5], [.f .bool]⟩, Pek.f⟩ := Yq 68 Yv (.n (.seq .c (.n (.seq (.n (.lp [.ptr 1 1000, .s 2 .bool, .s 3 K0, .s 46 K22, .s 47 K0, .s 48 K0, .box 1000 77 K5 false false] 2 (.n (.seq (.cond .l .l) (.seq (.blk (.n (.seq .c .l))) .l))))) (.n .l))))) Tryz.func194 (Yc Phy.ok (Yc Phz.ok (Yc Phf.ok (Yc Pgc.ok (Yc Paa.ok Yn)))))
def Peo.f (k : Nat) (a0 : T5) : Option Int :=
 some (Zr (a0.2.2.2.2.2.2.1 + (a0.2.2.2.2.2.2.2.2.1.length : Int)))
theorem Peo.ok : Yg 195 ⟨⟨[.box 43 K4 false false], [.f K0]⟩, Peo.f⟩ := Yq 13 Yv (.n (.n .l)) Tryz.func195 Yn
def Pjh.f (k : Nat) (a0 : T5) (a1 : Int) : Option Bool :=
 some (decide (a0.2.1 < Zr (2 * a1)))
theorem Pjh.ok : Yg 259 ⟨⟨[.box 43 K4 false false, .v K0], [.f .bool]⟩, Z2 Pjh.f⟩ := Yq 12 Yv (.n (.n .l)) Tryz.func259 Yn
def Pcp.b0 (s : Bool × List Int × Int × Int × T5) : Option T59 :=
 bif decide (s.2.2.2.1 < s.2.2.1) then (inb? s.2.1.length s.2.2.2.1).bind fun j1 => (s.2.1[j1]?).bind fun y2 => (Paa.f k y2 0 (Zr (s.2.2.2.2.2.1 - 1))).bind fun r3 => bif !r3 then some (.inr (.inr false)) else bif decide (0 < s.2.2.2.1) then (inb? s.2.2.2.2.2.2.2.2.2.2.2.2.2.2.1.length (Zr (s.2.2.2.1 - 1))).bind fun j4 => (s.2.2.2.2.2.2.2.2.2.2.2.2.2.2.1[j4]?).bind fun y5 => bif decide (y2 ≤ y5) then some (.inr (.inr false)) else some (.inl (s.1, s.2.1, s.2.2.1, Zr (s.2.2.2.1 + 1), s.2.2.2.2)) else some (.inl (s.1, s.2.1, s.2.2.1, Zr (s.2.2.2.1 + 1), s.2.2.2.2)) else some (.inr (.inl (s.1, s.2.2.2.2)))
def Pcp.d0 (y : Bool × T5) : Option Bool :=
 (Pdj.f k y.2.2.2.2.2.2.2.2.2.2.2.1 y.2.1).bind fun r1 => bif r1 then (Pjh.f k y.2 (y.2.2.2.2.2.2.2.2.2.2.2.1.length : Int)).bind fun r2 => some (!r2) else some false
def Pcp.f (a0 : T5) : Option Bool :=
 (iter (X := (Bool × T5) ⊕ Bool) (Pcp.b0 k) k (false, a0.2.2.2.2.2.2.2.2.2.2.1, (a0.2.2.2.2.2.2.2.2.2.2.1.length : Int), 0, a0)).bind fun | .inl y => Pcp.d0 k y | .inr o => some o
theorem Pcp.ok : Yg 196 ⟨⟨[.box 43 K4 false false], [.f .bool]⟩, Pcp.f⟩ := Yq 59 Yv (.n (.seq (.n (.lp [.ptr 0 1, .s 2 .bool, .s 8 K20, .s 9 K0, .s 10 K0, .box 1 43 K4 false true] 35 (.n (.seq (.cond .l .l) (.seq (.blk (.n .c)) .l))))) (.n .l))) Tryz.func196 (Yc Paa.ok (Yc Pdj.ok (Yc Pjh.ok Yn)))
def Pcl.b0 (s : Bool × List Int × Int × Int × T5) : Option T59 :=
 bif decide (s.2.2.2.1 < s.2.2.1) then (inb? s.2.1.length s.2.2.2.1).bind fun j1 => (s.2.1[j1]?).bind fun y2 => bif decide (y2 < 0) then some (.inr (.inr false)) else (inb? s.2.2.2.2.2.2.2.2.2.2.2.2.2.2.2.1.length s.2.2.2.1).bind fun j3 => (s.2.2.2.2.2.2.2.2.2.2.2.2.2.2.2.1[j3]?).bind fun y4 => bif decide (y4 ≤ y2) then some (.inr (.inr false)) else (inb? s.2.2.2.2.2.2.2.2.2.2.2.2.2.2.2.1.length s.2.2.2.1).bind fun j5 => (s.2.2.2.2.2.2.2.2.2.2.2.2.2.2.2.1[j5]?).bind fun y6 => (Peo.f k s.2.2.2.2).bind fun r7 => bif decide (Zr (r7 + 1) < y6) then some (.inr (.inr false)) else some (.inl (s.1, s.2.1, s.2.2.1, Zr (s.2.2.2.1 + 1), s.2.2.2.2)) else some (.inr (.inl (s.1, s.2.2.2.2)))
def Pcl.d0 (y : Bool × T5) : Option Bool :=
 (inb? y.2.2.2.2.2.2.2.2.2.2.2.2.2.length y.2.1).bind fun j1 => (y.2.2.2.2.2.2.2.2.2.2.2.2.2[j1]?).bind fun y2 => (Peo.f k y.2).bind fun r3 => some (decide (y2 = r3))
def Pcl.f (a0 : T5) : Option Bool :=
 bif decide (0 < (a0.2.2.2.2.2.2.2.2.2.2.1.length : Int)) then some false else bif !decide ((a0.2.2.2.2.2.2.2.2.2.2.2.1.length : Int) = a0.2.1) then some false else bif !decide ((a0.2.2.2.2.2.2.2.2.2.2.2.2.length : Int) = a0.2.1) then some false else (iter (X := (Bool × T5) ⊕ Bool) (Pcl.b0 k) k (false, a0.2.2.2.2.2.2.2.2.2.2.2.2, (a0.2.2.2.2.2.2.2.2.2.2.2.2.length : Int), 0, a0)).bind fun | .inl y => Pcl.d0 k y | .inr o => some o
theorem Pcl.ok : Yg 197 ⟨⟨[.box 43 K4 false false], [.f .bool]⟩, Pcl.f⟩ := Yq 85 Yv (.n (.seq .c (.seq (.n (.lp [.ptr 0 1, .s 2 .bool, .s 38 K20, .s 39 K0, .s 40 K0, .box 1 43 K4 false true] 35 (.n (.seq (.cond .l .l) (.seq (.blk (.n .c)) .l))))) (.n .l)))) Tryz.func197 (Yc Peo.ok Yn)
def Phs.f (a0 : T5) : Option Bool :=
 (Paa.f k a0.2.1 1 5).bind fun r1 => bif !r1 then some false else (Paa.f k a0.1 0 (Zr (a0.2.1 - 1))).bind fun r2 => bif !r2 then some false else (Per.f k a0).bind fun r3 => (Pek.f k r3).bind fun r4 => bif !r4 then some false else bif decide (a0.2.1 ≤ a0.2.2.2.1) then some false else (Peo.f k a0).bind fun r5 => (Paa.f k a0.2.2.2.2.2.2.2.2.2.1 a0.2.2.2.2.2.2.1 r5).bind fun r6 => bif !r6 then some false else bif decide (a0.2.2.2.2.1 = 1) then (Paa.f k a0.2.2.2.2.2.1 (-1) (Zr (a0.2.1 - 1))).bind fun r7 => bif r7 then bif !decide (a0.2.2.2.2.2.1 = a0.1) then some (decide (Zr ((Zr ((a0.2.2.2.2.2.2.2.2.2.2.1.length : Int) + (a0.2.2.2.2.2.2.2.2.2.2.2.1.length : Int))) + (a0.2.2.2.2.2.2.2.2.2.2.2.2.length : Int)) = 0)) else some false else some false else bif decide (a0.2.2.2.2.1 = 2) then bif decide (1 ≤ a0.2.2.1) then bif decide (a0.2.2.2.1 = a0.1) then bif decide (a0.2.2.2.2.2.1 = (-1)) then (Pcp.f k a0).bind fun r8 => bif r8 then some (decide (Zr ((a0.2.2.2.2.2.2.2.2.2.2.2.1.length : Int) + (a0.2.2.2.2.2.2.2.2.2.2.2.2.length : Int)) = 0)) else some false else some false else some false else some false else bif decide (a0.2.2.2.2.1 = 3) then bif decide (1 ≤ a0.2.2.1) then bif decide (a0.2.2.2.1 = a0.1) then bif decide (a0.2.2.2.2.2.1 = a0.1) then (Pcl.f k a0).bind fun r9 => some r9 else some false else some false else some false else some false
theorem Phs.ok : Yg 102 ⟨⟨[.w K4], [.f .bool]⟩, Phs.f⟩ := Yq 120 Yv (.n (.seq .c (.seq (.n (.blk (.n (.cond (.n .l) (.n (.cond (.n .l) .c)))))) (.n .l)))) Tryz.func102 (Yc Paa.ok (Yc Per.ok (Yc Pek.ok (Yc Peo.ok (Yc Pcp.ok (Yc Pcl.ok Yn))))))
def Pee.f (a0 : T13) (a1 : Int) : Option (Zb × T13) :=
 bif a0.2 then some (Ze, a0.1, true) else (Paa.f k a1 0 (a0.1.size : Int)).bind fun r1 => bif !r1 then some (Ze, a0.1, true) else (cut? a0.1.size 0 a1).bind fun p2 => (cut? a0.1.size a1 a0.1.size).bind fun p3 => some (a0.1.extract p2.1 p2.2, a0.1.extract p3.1 p3.2, a0.2)
theorem Pee.ok : Yg 260 ⟨⟨[.box 249 K29 false true, .v K0], [.f .str]⟩, Z2 Pee.f⟩ := Yq 39 Yv (.n (.seq (.n (.cond (.n (.n .l)) .l)) (.m 3 .l))) Tryz.func260 (Yc Paa.ok Yn)
def Pco.b0 (k : Nat) (s : Int × T17) : Option T81 :=
 bif decide (127 < s.1) then (app? (limOf 1) s.2.2 ([IntKind.wrap .u8 (bits .or .i64 (bits .and .i64 s.1 127) 128)])).bind fun l1 => some (.inl (Int.fdiv s.1 (2 ^ (min (7 : Int).toNat (IntKind.bits .i64))), s.2.1, l1)) else some (.inr (.inl s))
def Pco.d0 (k : Nat) (y : Int × T17) : Option Zb :=
 (app? (limOf 1) y.2.2 ([IntKind.wrap .u8 (y.1)])).bind fun l1 => some (strOfNums l1)
def Pco.f (a0 : Int) : Option Zb :=
 (Paa.f k a0 0 562949953421311).bind fun r1 => bif !r1 then some Ze else (iter (X := (Int × T17) ⊕ Zb) (Pco.b0 k) k (a0, Ze, [])).bind fun | .inl y => Pco.d0 k y | .inr o => some o
theorem Pco.ok : Yg 235 ⟨⟨[.v K0], [.f .str]⟩, Pco.f⟩ := Yq 25 (Yk 5 K32 Yv) (.n (.seq .c (.n (.seq (.lp [.s 0 K0, .s 2 .str, .o 3 (.sl 5 K32)] 7 (.seq (.n (.cond .l .l)) (.blk (.n .l)))) (.n .l))))) Tryz.func235 (Yc Paa.ok Yn)
def Pdr.b0 (s : T48) : Option (T48 ⊕ T8 ⊕ T8) :=
 bif decide (s.2.2.2.2 < (s.1.size : Int)) then bif decide (s.2.2.2.2 < 7) then (inb? s.1.size s.2.2.2.2).bind fun j1 => if Zr (7 * s.2.2.2.2) < 0 then none else (inb? s.1.size s.2.2.2.2).bind fun j2 => bif decide (Qmy s.1 j2 < 128) then (Pco.f k (bits .or .i64 s.2.2.2.1 (Zr ((Zr (bits .and .u8 (Qmy s.1 j1) 127)) * 2 ^ (min (Zr (7 * s.2.2.2.2)).toNat (IntKind.bits .i64)))))).bind fun r3 => (cut? s.1.size 0 (Zr (s.2.2.2.2 + 1))).bind fun p4 => bif !decide (r3 = s.1.extract p4.1 p4.2) then some (.inr (.inr (0, 0))) else some (.inr (.inr (bits .or .i64 s.2.2.2.1 (Zr ((Zr (bits .and .u8 (Qmy s.1 j1) 127)) * 2 ^ (min (Zr (7 * s.2.2.2.2)).toNat (IntKind.bits .i64)))), Zr (s.2.2.2.2 + 1)))) else some (.inl (s.1, s.2.1, s.2.2.1, bits .or .i64 s.2.2.2.1 (Zr ((Zr (bits .and .u8 (Qmy s.1 j1) 127)) * 2 ^ (min (Zr (7 * s.2.2.2.2)).toNat (IntKind.bits .i64)))), Zr (s.2.2.2.2 + 1))) else some (.inr (.inl (s.2.1, s.2.2.1))) else some (.inr (.inl (s.2.1, s.2.2.1)))
def Pdr.d0 (k : Nat) (y : T8) : Option T8 :=
 some (0, 0)
def Pdr.f (a0 : Zb) : Option T8 :=
 (iter (X := T8 ⊕ T8) (Pdr.b0 k) k (a0, 0, 0, 0, 0)).bind fun | .inl y => Pdr.d0 k y | .inr o => some o
theorem Pdr.ok : Yg 266 ⟨⟨[.v .str], [.f K0, .f K0]⟩, Pdr.f⟩ := Yq 40 Yv (.n (.n (.seq (.n (.lp [.s 0 .str, .s 2 K0, .s 3 K0, .s 4 K0, .s 5 K0] 6 (.seq (.n (.cond .l .l)) (.seq (.blk (.n (.n (.cond (.seq .c (.n .l)) .l)))) .l)))) (.n .l)))) Tryz.func266 (Yc Pco.ok Yn)
def Paz.f (a0 : T13) : Option T88 :=
 (Pdr.f k a0.1).bind fun r1 => bif a0.2 then some (0, a0.1, true) else bif decide (r1.2 = 0) then some (0, a0.1, true) else (cut? a0.1.size r1.2 a0.1.size).bind fun p2 => some (r1.1, a0.1.extract p2.1 p2.2, a0.2)
theorem Paz.ok : Yg 206 ⟨⟨[.box 249 K29 false true], [.f K0]⟩, Paz.f⟩ := Yq 34 Yv (.n (.n (.seq (.n (.cond (.n (.n .l)) .l)) (.n (.n .l))))) Tryz.func206 (Yc Pdr.ok Yn)
def Pdf.c0 (k : Nat) (y : Int × T88) : Option T88 :=
 bif y.2.2.2 then some (0, y.2.2) else some y.2
def Pdf.f (a0 : T13) (a1 : Int) : Option T88 :=
 (Paz.f k a0).bind fun r1 => Option.bind (α := (Int × T88) ⊕ T88) (bif decide (a1 < r1.1) then some (.inl (0, r1.1, r1.2.1, true)) else some (.inl (0, r1))) fun | .inl y => Pdf.c0 k y | .inr o => some o
theorem Pdf.ok : Yg 203 ⟨⟨[.box 249 K29 false true, .v K0], [.f K0]⟩, Z2 Pdf.f⟩ := Yq 19 Yv (.n (.n (.seq (.cut [.ptr 0 1, .s 4 K0, .s 5 K0, .box 1 249 K29 false false] (.n (.cond .l .l))) (.seq .c (.n .l))))) Tryz.func203 (Yc Paz.ok Yn)
def Pju.f (k : Nat) (a0 : List Zb) (a1 : Int) : Option Zb :=
 bif decide (a1 < 256) then some (strOfNums ([IntKind.wrap .u8 (a1)])) else (inb? a0.length (Zr (a1 - 256))).bind fun j1 => (a0[j1]?).bind fun y2 => some y2
theorem Pju.ok : Yg 312 ⟨⟨[.v K25, .v K0], [.f .str]⟩, Z2 Pju.f⟩ := Yq 16 (Yk 5 K32 Yv) (.n (.seq .c (.n .l))) Tryz.func312 Yn
def Pbz.b0 (k : Nat) (s : List Zb × T31) : Option ((List Zb × T31) ⊕ Int ⊕ Int) :=
 bif decide (s.2.2.2.2 < s.2.2.2.1) then (inb? s.1.length s.2.2.2.2).bind fun j1 => (s.1[j1]?).bind fun y2 => bif decide (s.2.1 = y2) then some (.inr (.inr s.2.2.2.2)) else some (.inl (s.1, s.2.1, s.2.2.1, s.2.2.2.1, Zr (s.2.2.2.2 + 1))) else some (.inr (.inl s.2.2.1))
def Pbz.d0 (k : Nat) (y : Int) : Option Int :=
 some (-1)
def Pbz.f (a0 : List Zb) (a1 : Zb) : Option Int :=
 (iter (X := Int ⊕ Int) (Pbz.b0 k) k (a0, a1, 0, (a0.length : Int), 0)).bind fun | .inl y => Pbz.d0 k y | .inr o => some o
theorem Pbz.ok : Yg 315 ⟨⟨[.v K25, .v .str], [.f K0]⟩, Z2 Pbz.f⟩ := Yq 19 Yv (.n (.seq (.n (.lp [.s 0 K25, .s 1 .str, .s 4 K0, .s 7 K0, .s 8 K0] 4 (.n (.seq (.cond .l .l) (.seq (.blk (.n .c)) .l))))) (.n .l))) Tryz.func315 Yn
def Ped.f (a0 : List Zb) (a1 : Zb) : Option Bool :=
 (Pbz.f k a0 a1).bind fun r1 => some (decide (0 ≤ r1))
theorem Ped.ok : Yg 313 ⟨⟨[.v K25, .v .str], [.f .bool]⟩, Z2 Ped.f⟩ := Yq 9 Yv (.n (.n .l)) Tryz.func313 (Yc Pbz.ok Yn)
def Pev.b0 (s : List Zb × Bool × List Zb × List T8 × T8) : Option ((List Zb × Bool × List Zb × List T8 × T8) ⊕ T30 ⊕ T21) :=
 bif decide (s.2.2.2.2.2 < s.2.2.2.2.1) then (inb? s.2.2.2.1.length s.2.2.2.2.2).bind fun j1 => (s.2.2.2.1[j1]?).bind fun y2 => (Paa.f k y2.1 0 (Zr (255 + s.2.2.2.2.2))).bind fun r3 => bif !r3 then some (.inr (.inr (s.2.2.1, false))) else (Paa.f k y2.2 0 (Zr (255 + s.2.2.2.2.2))).bind fun r4 => bif !r4 then some (.inr (.inr (s.2.2.1, false))) else (Pju.f k s.2.2.1 y2.1).bind fun r5 => (Pju.f k s.2.2.1 y2.2).bind fun r6 => (cat? r5 r6).bind fun s7 => bif decide (24 < (s7.size : Int)) then some (.inr (.inr (s.2.2.1, false))) else (Ped.f k s.2.2.1 s7).bind fun r8 => bif r8 then some (.inr (.inr (s.2.2.1, false))) else (app? (limOf 16) s.2.2.1 ([s7])).bind fun l9 => some (.inl (s.1, s.2.1, l9, s.2.2.2.1, s.2.2.2.2.1, Zr (s.2.2.2.2.2 + 1))) else some (.inr (.inl (s.1, s.2.1, s.2.2.1)))
def Pev.d0 (k : Nat) (y : T30) : Option T21 :=
 some (y.2.2, true)
def Pev.f (a0 : List T8) : Option T21 :=
 bif decide (60 < (a0.length : Int)) then some ([], false) else (iter (X := T30 ⊕ T21) (Pev.b0 k) k ([], false, [], a0, (a0.length : Int), 0)).bind fun | .inl y => Pev.d0 k y | .inr o => some o
theorem Pev.ok : Yg 309 ⟨⟨[.v K19], [.f K25, .f .bool]⟩, Pev.f⟩ := Yq 59 (Yk 9 .str Yv) (.n (.n (.seq .c (.seq (.n (.lp [.o 2 K25, .s 3 .bool, .o 4 K25, .s 13 K19, .s 14 K0, .s 15 K0] 7 (.n (.seq (.cond .l .l) (.seq (.blk (.n (.seq .c (.n (.seq .c .l))))) .l))))) (.n .l))))) Tryz.func309 (Yc Paa.ok (Yc Pju.ok (Yc Ped.ok Yn)))
def Pjs.f (a0 : List T8) : Option Bool :=
 (Pev.f k a0).bind fun r1 => some r1.2
theorem Pjs.ok : Yg 297 ⟨⟨[.w K19], [.f .bool]⟩, Pjs.f⟩ := Yq 12 Yv (.m 3 .l) Tryz.func297 (Yc Pev.ok Yn)
def Pfj.b0 (s : Zb × Zb × List T8 × T8) : Option ((Zb × Zb × List T8 × T8) ⊕ T14 ⊕ Zb) :=
 bif decide (s.2.2.2.2 < s.2.2.2.1) then (inb? s.2.2.1.length s.2.2.2.2).bind fun j1 => (s.2.2.1[j1]?).bind fun y2 => (Pco.f k y2.1).bind fun r3 => (cat? s.2.1 r3).bind fun s4 => (Pco.f k y2.2).bind fun r5 => (cat? s4 r5).bind fun s6 => some (.inl (s.1, s6, s.2.2.1, s.2.2.2.1, Zr (s.2.2.2.2 + 1))) else some (.inr (.inl (s.1, s.2.1)))
def Pfj.d0 (k : Nat) (y : T14) : Option Zb :=
 some y.2
def Pfj.f (a0 : List T8) : Option Zb :=
 (Pjs.f k a0).bind fun r1 => bif !r1 then some Ze else (Pco.f k (a0.length : Int)).bind fun r2 => (cat? Zl4 r2).bind fun s3 => (iter (X := T14 ⊕ Zb) (Pfj.b0 k) k (Ze, s3, a0, (a0.length : Int), 0)).bind fun | .inl y => Pfj.d0 k y | .inr o => some o
theorem Pfj.ok : Yg 261 ⟨⟨[.w K19], [.f .str]⟩, Pfj.f⟩ := Yq 32 Yv (.n (.seq .c (.n (.seq (.n (.lp [.s 2 .str, .s 3 .str, .s 15 K19, .s 16 K0, .s 17 K0] 3 (.n (.seq (.cond .l .l) (.seq (.blk (.n .l)) .l))))) (.n .l))))) Tryz.func261 (Yc Pjs.ok (Yc Pco.ok Yn))
def Pcd.b0 (s : Zb × Bool × Int × Int × T64) : Option ((Zb × Bool × Int × Int × T64) ⊕ (Zb × Bool × T64) ⊕ T36) :=
 bif decide (s.2.2.2.1 < s.2.2.1) then (Paz.f k s.2.2.2.2.2.1).bind fun r1 => (Paz.f k r1.2).bind fun r2 => (app? (limOf 16) s.2.2.2.2.2.2 ([(r1.1, r2.1)])).bind fun l3 => some (.inl (s.1, s.2.1, s.2.2.1, Zr (s.2.2.2.1 + 1), s.2.2.2.2.1, r2.2, l3)) else some (.inr (.inl (s.1, s.2.1, s.2.2.2.2)))
def Pcd.d0 (y : Zb × Bool × T64) : Option T36 :=
 bif y.2.2.2.1.2 then some ([], false) else bif decide (y.1 = Ze) then some ([], false) else (Pfj.f k y.2.2.2.2).bind fun r1 => bif !decide (r1 = y.1) then some ([], false) else some (y.2.2.2.2, true)
def Pcd.f (a0 : Zb) : Option T36 :=
 (Pee.f k (a0, false) 3).bind fun r1 => (Pdf.f k r1.2 60).bind fun r2 => (iter (X := (Zb × Bool × T64) ⊕ T36) (Pcd.b0 k) k (a0, false, r2.1, 0, [], r2.2, [])).bind fun | .inl y => Pcd.d0 k y | .inr o => some o
theorem Pcd.ok : Yg 198 ⟨⟨[.v .str], [.t K19, .f .bool]⟩, Pcd.f⟩ := Yq 48 (Yk 208 (.pair K0 K0) Yv) (.m 5 (.seq (.n (.lp [.s 0 .str, .ptr 2 1000, .s 3 .bool, .ptr 4 2002, .ptr 6 5001, .s 16 K0, .s 17 K0, .box 1000 127 K19 true false, .box 2002 249 K29 false false, .box 5001 127 K19 true false] 927 (.n (.seq (.cond .l .l) (.seq (.blk (.n (.n .l))) .l))))) (.seq .c (.n .l)))) Tryz.func198 (Yc Pee.ok (Yc Pdf.ok (Yc Paz.ok (Yc Pfj.ok Yn))))
def Pca.b0 (k : Nat) (s : Int × Zb × T32) : Option ((Int × Zb × T32) ⊕ T17 ⊕ Zb) :=
 bif decide (0 ≤ s.2.2.2) then (inb? s.2.2.1.length s.2.2.2).bind fun j1 => (s.2.2.1[j1]?).bind fun y2 => some (.inl (Int.fdiv s.1 (2 ^ (min (8 : Int).toNat (IntKind.bits .i64))), s.2.1, s.2.2.1.set j1 (IntKind.wrap .u8 (bits .and .i64 s.1 255)), Zr (s.2.2.2 - 1))) else some (.inr (.inl (s.2.1, s.2.2.1)))
def Pca.d0 (k : Nat) (y : T17) : Option Zb :=
 some (strOfNums y.2)
def Pca.f (a0 : Int) (a1 : Int) : Option Zb :=
 (Paa.f k a1 1 7).bind fun r1 => bif !r1 then some Ze else bif decide (a0 < 0) then some Ze else if Zr (8 * a1) < 0 then none else bif decide (Zr (1 * 2 ^ (min (Zr (8 * a1)).toNat (IntKind.bits .i64))) ≤ a0) then some Ze else (mk? (limOf 1) a1 (0 : Int)).bind fun l2 => (iter (X := T17 ⊕ Zb) (Pca.b0 k) k (a0, Ze, l2, Zr (a1 - 1))).bind fun | .inl y => Pca.d0 k y | .inr o => some o
theorem Pca.ok : Yg 262 ⟨⟨[.v K0, .v K0], [.f .str]⟩, Z2 Pca.f⟩ := Yq 39 (Yk 5 K32 Yv) (.n (.seq .c (.n (.seq (.n (.lp [.s 0 K0, .s 4 .str, .o 5 (.sl 5 K32), .s 6 K0] 6 (.seq (.n (.cond .l .l)) (.seq (.blk (.n .l)) .l)))) (.n .l))))) Tryz.func262 (Yc Paa.ok Yn)
def Phk.f (k : Nat) (a0 : Zb) : Option Int :=
 (inb? a0.size 0).bind fun j1 => (inb? a0.size 1).bind fun j2 => (inb? a0.size 2).bind fun j3 => (inb? a0.size 3).bind fun j4 => some (bits .or .u32 (bits .or .u32 (bits .or .u32 (IntKind.wrap .u32 ((IntKind.wrap .u32 (Qmy a0 j1)) * 2 ^ (min (24 : Int).toNat (IntKind.bits .u32)))) (IntKind.wrap .u32 ((IntKind.wrap .u32 (Qmy a0 j2)) * 2 ^ (min (16 : Int).toNat (IntKind.bits .u32))))) (IntKind.wrap .u32 ((IntKind.wrap .u32 (Qmy a0 j3)) * 2 ^ (min (8 : Int).toNat (IntKind.bits .u32))))) (IntKind.wrap .u32 (Qmy a0 j4)))
theorem Phk.ok : Yg 298 ⟨⟨[.v .str], [.f K35]⟩, Phk.f⟩ := Yq 21 Yv (.n (.n .l)) Tryz.func298 Yn
def Paf.f (k : Nat) (a0 : Int) (a1 : Int) : Option Int :=
 if bits .and .u64 (IntKind.wrap .u64 (a1)) 31 < 0 then none else if IntKind.wrap .u64 (32 - (bits .and .u64 (IntKind.wrap .u64 (a1)) 31)) < 0 then none else some (bits .or .u32 (IntKind.wrap .u32 (a0 * 2 ^ (min (bits .and .u64 (IntKind.wrap .u64 (a1)) 31).toNat (IntKind.bits .u32)))) (Int.fdiv a0 (2 ^ (min (IntKind.wrap .u64 (32 - (bits .and .u64 (IntKind.wrap .u64 (a1)) 31))).toNat (IntKind.bits .u32)))))
theorem Paf.ok : Yg 299 ⟨⟨[.v K35, .v K0], [.f K35]⟩, Z2 Paf.f⟩ := Yq 17 Yv (.m 3 .l) Tryz.func299 Yn
def Pak.b0 (s : Zb × Int × T12) : Option ((Zb × Int × T12) ⊕ T12 ⊕ (List Int)) :=
 bif decide (s.2.1 < 16) then (cut? s.1.size (Zr (4 * s.2.1)) s.1.size).bind fun p1 => (Phk.f k (s.1.extract p1.1 p1.2)).bind fun r2 => (inb? 64 s.2.1).bind fun j3 => some (.inl (s.1, Zr (s.2.1 + 1), arrL 8 s.2.2.1, arrL 8 s.2.2.2.1, arrL 64 ((arrL 64 s.2.2.2.2).set j3 r2))) else some (.inr (.inl (arrL 8 s.2.2.1, arrL 8 s.2.2.2.1, arrL 64 s.2.2.2.2)))
def Pak.b1 (s : Int × T12) : Option ((Int × T12) ⊕ T12 ⊕ (List Int)) :=
 bif decide (s.1 < 64) then (inb? 64 (Zr (s.1 - 15))).bind fun j1 => (inb? 64 (Zr (s.1 - 2))).bind fun j2 => (Paf.f k ((arrL 64 s.2.2.2).getD j1 0) (-7)).bind fun r3 => (Paf.f k ((arrL 64 s.2.2.2).getD j1 0) (-18)).bind fun r4 => (Paf.f k ((arrL 64 s.2.2.2).getD j2 0) (-17)).bind fun r5 => (Paf.f k ((arrL 64 s.2.2.2).getD j2 0) (-19)).bind fun r6 => (inb? 64 (Zr (s.1 - 16))).bind fun j7 => (inb? 64 (Zr (s.1 - 7))).bind fun j8 => (inb? 64 s.1).bind fun j9 => some (.inl (Zr (s.1 + 1), arrL 8 s.2.1, arrL 8 s.2.2.1, arrL 64 ((arrL 64 s.2.2.2).set j9 (IntKind.wrap .u32 ((IntKind.wrap .u32 ((IntKind.wrap .u32 (((arrL 64 s.2.2.2).getD j7 0) + (bits .xor .u32 (bits .xor .u32 r3 r4) (Int.fdiv ((arrL 64 s.2.2.2).getD j1 0) (2 ^ (min (3 : Int).toNat (IntKind.bits .u32))))))) + ((arrL 64 s.2.2.2).getD j8 0))) + (bits .xor .u32 (bits .xor .u32 r5 r6) (Int.fdiv ((arrL 64 s.2.2.2).getD j2 0) (2 ^ (min (10 : Int).toNat (IntKind.bits .u32)))))))))) else some (.inr (.inl (arrL 8 s.2.1, arrL 8 s.2.2.1, arrL 64 s.2.2.2)))
def Pak.b2 (s : Int × T71) : Option ((Int × T71) ⊕ T12 ⊕ (List Int)) :=
 bif decide (s.1 < 64) then (Paf.f k (s.2.2.2.2.getD 4 0) (-6)).bind fun r1 => (Paf.f k (s.2.2.2.2.getD 4 0) (-11)).bind fun r2 => (Paf.f k (s.2.2.2.2.getD 4 0) (-25)).bind fun r3 => (inb? 64 s.1).bind fun j4 => (Qlr[j4]?).bind fun y5 => (inb? 64 s.1).bind fun j6 => (Paf.f k (s.2.2.2.2.getD 0 0) (-2)).bind fun r7 => (Paf.f k (s.2.2.2.2.getD 0 0) (-13)).bind fun r8 => (Paf.f k (s.2.2.2.2.getD 0 0) (-22)).bind fun r9 => some (.inl (Zr (s.1 + 1), arrL 8 s.2.1, arrL 8 s.2.2.1, arrL 64 s.2.2.2.1, [IntKind.wrap .u32 ((IntKind.wrap .u32 ((IntKind.wrap .u32 ((IntKind.wrap .u32 ((IntKind.wrap .u32 ((IntKind.wrap .u32 ((s.2.2.2.2.getD 7 0) + (bits .xor .u32 (bits .xor .u32 r1 r2) r3))) + (bits .xor .u32 (bits .and .u32 (s.2.2.2.2.getD 4 0) (s.2.2.2.2.getD 5 0)) (bits .and .u32 (bits .xor .u32 (if IntKind.signed .u32 then -1 else IntKind.max .u32) (s.2.2.2.2.getD 4 0)) (s.2.2.2.2.getD 6 0))))) + y5)) + ((arrL 64 s.2.2.2.1).getD j6 0))) + (bits .xor .u32 (bits .xor .u32 r7 r8) r9))) + (bits .xor .u32 (bits .xor .u32 (bits .and .u32 (s.2.2.2.2.getD 0 0) (s.2.2.2.2.getD 1 0)) (bits .and .u32 (s.2.2.2.2.getD 0 0) (s.2.2.2.2.getD 2 0))) (bits .and .u32 (s.2.2.2.2.getD 1 0) (s.2.2.2.2.getD 2 0)))), s.2.2.2.2.getD 0 0, s.2.2.2.2.getD 1 0, s.2.2.2.2.getD 2 0, IntKind.wrap .u32 ((s.2.2.2.2.getD 3 0) + (IntKind.wrap .u32 ((IntKind.wrap .u32 ((IntKind.wrap .u32 ((IntKind.wrap .u32 ((s.2.2.2.2.getD 7 0) + (bits .xor .u32 (bits .xor .u32 r1 r2) r3))) + (bits .xor .u32 (bits .and .u32 (s.2.2.2.2.getD 4 0) (s.2.2.2.2.getD 5 0)) (bits .and .u32 (bits .xor .u32 (if IntKind.signed .u32 then -1 else IntKind.max .u32) (s.2.2.2.2.getD 4 0)) (s.2.2.2.2.getD 6 0))))) + y5)) + ((arrL 64 s.2.2.2.1).getD j6 0)))), s.2.2.2.2.getD 4 0, s.2.2.2.2.getD 5 0, s.2.2.2.2.getD 6 0])) else some (.inr (.inl (arrL 8 s.2.1, arrL 8 s.2.2.1, arrL 8 s.2.2.2.2)))
def Pak.b3 (k : Nat) (s : Int × T12) : Option ((Int × T12) ⊕ T70 ⊕ (List Int)) :=
 bif decide (s.1 < 8) then (inb? 8 s.1).bind fun j1 => (inb? 8 s.1).bind fun j2 => (inb? 8 s.1).bind fun j3 => some (.inl (Zr (s.1 + 1), arrL 8 ((arrL 8 s.2.1).set j3 (IntKind.wrap .u32 (((arrL 8 s.2.1).getD j1 0) + ((arrL 8 s.2.2.2).getD j2 0)))), arrL 8 s.2.2.1, arrL 8 s.2.2.2)) else some (.inr (.inl (arrL 8 s.2.1, arrL 8 s.2.2.1)))
def Pak.d3 (k : Nat) (y : T70) : Option (List Int) :=
 some (arrL 8 y.1)
def Pak.d2 (y : T12) : Option (List Int) :=
 (iter (X := T70 ⊕ (List Int)) (Pak.b3 k) k (0, arrL 8 y.1, arrL 8 y.2.1, arrL 8 y.2.2)).bind fun | .inl y => Pak.d3 k y | .inr o => some o
def Pak.d1 (y : T12) : Option (List Int) :=
 (iter (X := T12 ⊕ (List Int)) (Pak.b2 k) k (0, arrL 8 y.1, arrL 8 y.2.1, arrL 64 y.2.2, arrL 8 y.1)).bind fun | .inl y => Pak.d2 k y | .inr o => some o
def Pak.d0 (y : T12) : Option (List Int) :=
 (iter (X := T12 ⊕ (List Int)) (Pak.b1 k) k (16, arrL 8 y.1, arrL 8 y.2.1, arrL 64 y.2.2)).bind fun | .inl y => Pak.d1 k y | .inr o => some o
def Pak.f (a0 : List Int) (a1 : Zb) : Option (List Int) :=
 (iter (X := T12 ⊕ (List Int)) (Pak.b0 k) k (a1, 0, arrL 8 a0, List.replicate 8 0, List.replicate 64 0)).bind fun | .inl y => Pak.d0 k y | .inr o => some o
theorem Pak.ok : Yg 263 ⟨⟨[.w K30, .v .str], [.t K30]⟩, Z2 Pak.f⟩ := Yq 176 Yv (.n (.n (.seq (.n (.lp [.s 1 .str, .ptr 2 1000, .ptr 4 1001, .ptr 5 2000, .s 22 K0, .box 1000 281 K30 false false, .box 1001 281 K30 false false, .box 2000 296 (.arr .u32 64) false false] 238 (.n (.seq (.cond .l .l) (.seq (.blk (.n .l)) .l))))) (.seq (.n (.lp [.ptr 2 1000, .ptr 4 1001, .ptr 5 2000, .s 7 K0, .box 1000 281 K30 false false, .box 1001 281 K30 false false, .box 2000 296 (.arr .u32 64) false false] 119 (.seq (.n (.cond .l .l)) (.seq (.blk (.m 3 .l)) .l)))) (.n (.seq (.n (.lp [.ptr 2 1000, .ptr 4 1001, .ptr 5 2000, .ptr 12 15001, .s 77 K0, .box 1000 281 K30 false false, .box 1001 281 K30 false false, .box 2000 296 (.arr .u32 64) false false, .box 15001 281 K30 false false] 363 (.n (.seq (.cond .l .l) (.seq (.blk (.m 7 .l)) .l))))) (.seq (.n (.lp [.ptr 2 1000, .ptr 4 1001, .ptr 12 15001, .s 162 K0, .box 1000 281 K30 false false, .box 1001 281 K30 false false, .box 15001 281 K30 false false] 51 (.n (.seq (.cond .l .l) (.seq (.blk (.n .l)) .l))))) (.n .l)))))))) Tryz.func263 (Yc Phk.ok (Yc Paf.ok Yn))
def Pdv.b0 (s : Zb × Zb × T55) : Option ((Zb × Zb × T55) ⊕ T17 ⊕ Zb) :=
 bif decide (s.2.2.1 < (s.2.1.size : Int)) then (cut? s.2.1.size s.2.2.1 (Zr (s.2.2.1 + 64))).bind fun p1 => (Pak.f k (arrL 8 s.2.2.2) (s.2.1.extract p1.1 p1.2)).bind fun r2 => some (.inl (s.1, s.2.1, Zr (s.2.2.1 + 64), arrL 8 r2)) else some (.inr (.inl (s.1, arrL 8 s.2.2.2)))
def Pdv.b1 (s : Zb × Zb × T32) : Option ((Zb × Zb × T32) ⊕ T14 ⊕ Zb) :=
 bif decide (s.2.2.2 < 8) then (inb? 8 s.2.2.2).bind fun j1 => (Pca.f k (Zr ((arrL 8 s.2.2.1).getD j1 0)) 4).bind fun r2 => (cat? s.2.1 r2).bind fun s3 => some (.inl (s.1, s3, arrL 8 s.2.2.1, Zr (s.2.2.2 + 1))) else some (.inr (.inl (s.1, s.2.1)))
def Pdv.d1 (k : Nat) (y : T14) : Option Zb :=
 some y.2
def Pdv.d0 (y : T17) : Option Zb :=
 (iter (X := T14 ⊕ Zb) (Pdv.b1 k) k (y.1, Ze, arrL 8 y.2, 0)).bind fun | .inl y => Pdv.d1 k y | .inr o => some o
def Pdv.f (a0 : Zb) : Option Zb :=
 (cat? a0 (⟨#[128]⟩ : Zb)).bind fun s1 => (mk? (limOf 1) (Zr ((Int.tmod (Zr (64 - (Int.tmod (Zr ((a0.size : Int) + 9)) 64))) 64) + 1)) (0 : Int)).bind fun l2 => (cat? s1 (strOfNums l2)).bind fun s3 => (Pca.f k (Zr (8 * (a0.size : Int))) 7).bind fun r4 => (cat? s3 r4).bind fun s5 => (iter (X := T17 ⊕ Zb) (Pdv.b0 k) k (Ze, s5, 0, [1779033703, 3144134277, 1013904242, 2773480762, 1359893119, 2600822924, 528734635, 1541459225])).bind fun | .inl y => Pdv.d0 k y | .inr o => some o
theorem Pdv.ok : Yg 199 ⟨⟨[.v .str], [.f .str]⟩, Pdv.f⟩ := Yq 55 (Yk 5 K32 Yv) (.m 5 (.seq (.n (.lp [.s 2 .str, .s 5 .str, .ptr 6 5001, .s 7 K0, .box 5001 281 K30 false false] 21 (.seq (.n (.cond .l .l)) (.seq (.blk .l) .l)))) (.n (.seq (.n (.lp [.s 2 .str, .s 8 .str, .slot 44 true K30 false, .s 45 K0] 3 (.n (.seq (.cond .l .l) (.seq (.blk (.n .l)) .l))))) (.n .l))))) Tryz.func199 (Yc Pca.ok (Yc Pak.ok Yn))
def Phv.f (k : Nat) (a0 : T10) (a1 : Zb) : Option Bool :=
 some (decide (a0.1 = a1))
theorem Phv.ok : Yg 265 ⟨⟨[.w K18, .box 9 .str false false], [.f .bool]⟩, Z2 Phv.f⟩ := Yq 8 Yv (.n (.n .l)) Tryz.func265 Yn
def Pae.b0 (s : List T10 × Int × Int × T11) : Option ((List T10 × Int × Int × T11) ⊕ Int ⊕ Int) :=
 bif decide (s.2.2.2.1 < s.2.2.1) then (inb? s.1.length s.2.2.2.1).bind fun j1 => (s.1[j1]?).bind fun y2 => (Phv.f k y2 s.2.2.2.2).bind fun r3 => bif r3 then some (.inr (.inr s.2.2.2.1)) else some (.inl (s.1, s.2.1, s.2.2.1, Zr (s.2.2.2.1 + 1), s.2.2.2.2)) else some (.inr (.inl s.2.1))
def Pae.d0 (k : Nat) (y : Int) : Option Int :=
 some (-1)
def Pae.f (a0 : List T10) (a1 : Zb) : Option Int :=
 (iter (X := Int ⊕ Int) (Pae.b0 k) k (a0, 0, (a0.length : Int), 0, a1)).bind fun | .inl y => Pae.d0 k y | .inr o => some o
theorem Pae.ok : Yg 264 ⟨⟨[.v K26, .clo 265 false 9 .str], [.f K0]⟩, Z2 Pae.f⟩ := Yq 19 Yv (.n (.seq (.n (.lp [.s 0 K26, .fnp 1 265 false 2, .s 4 K0, .s 7 K0, .s 8 K0, .box 2 9 .str false true] 4 (.n (.seq (.cond .l .l) (.seq (.blk (.n .c)) .l))))) (.n .l))) Tryz.func264 (Yc Phv.ok Yn)
def Pjq.f (a0 : T2) (a1 : Zb) : Option Int :=
 (Pae.f k a0.1 a1).bind fun r1 => some (Zr (1 + r1))
theorem Pjq.ok : Yg 200 ⟨⟨[.w K3, .v .str], [.f K0]⟩, Z2 Pjq.f⟩ := Yq 10 Yv (.n (.n .l)) Tryz.func200 (Yc Pae.ok Yn)
def Pbw.b0 (k : Nat) (s : Int × Bool × Int × List Int × T8) : Option ((Int × Bool × Int × List Int × T8) ⊕ (Bool × Int) ⊕ Bool) :=
 bif decide (s.2.2.2.2.2 < s.2.2.2.2.1) then (inb? s.2.2.2.1.length s.2.2.2.2.2).bind fun j1 => (s.2.2.2.1[j1]?).bind fun y2 => bif decide (y2 = s.1) then some (.inl (s.1, s.2.1, Zr (s.2.2.1 + 1), s.2.2.2.1, s.2.2.2.2.1, Zr (s.2.2.2.2.2 + 1))) else some (.inl (s.1, s.2.1, s.2.2.1, s.2.2.2.1, s.2.2.2.2.1, Zr (s.2.2.2.2.2 + 1))) else some (.inr (.inl (s.2.1, s.2.2.1)))
def Pbw.d0 (k : Nat) (y : Bool × Int) : Option Bool :=
 some (decide (y.2 = 1))
def Pbw.f (a0 : T2) (a1 : Int) : Option Bool :=
 (iter (X := (Bool × Int) ⊕ Bool) (Pbw.b0 k) k (a1, false, 0, a0.2.1, (a0.2.1.length : Int), 0)).bind fun | .inl y => Pbw.d0 k y | .inr o => some o
theorem Pbw.ok : Yg 201 ⟨⟨[.w K3, .v K0], [.f .bool]⟩, Z2 Pbw.f⟩ := Yq 23 Yv (.n (.n (.seq (.n (.lp [.s 1 K0, .s 4 .bool, .s 5 K0, .s 9 K20, .s 10 K0, .s 11 K0] 6 (.n (.seq (.cond .l .l) (.seq (.blk (.n (.n (.cond .l .l)))) .l))))) (.n .l)))) Tryz.func201 Yn
def Pga.f (a0 : T75) : Option Bool :=
 (Paa.f k a0.1 0 5).bind fun r1 => bif r1 then (Paa.f k a0.2.1 0 6).bind fun r2 => bif r2 then (Paa.f k a0.2.2.1 0 4).bind fun r3 => bif r3 then bif decide ((a0.2.2.2.1.size : Int) = 0) then (Paa.f k a0.2.2.2.2.1 0 250).bind fun r4 => bif r4 then (Paa.f k a0.2.2.2.2.2 0 100000).bind fun r5 => some r5 else some false else bif decide ((a0.2.2.2.1.size : Int) = 32) then (Paa.f k a0.2.2.2.2.1 0 250).bind fun r6 => bif r6 then (Paa.f k a0.2.2.2.2.2 0 100000).bind fun r7 => some r7 else some false else some false else some false else some false else some false
theorem Pga.ok : Yg 202 ⟨⟨[.w K13], [.f .bool]⟩, Pga.f⟩ := Yq 38 Yv (.n (.n .l)) Tryz.func202 (Yc Paa.ok Yn)
def Pbk.b0 (s : Bool × List T10 × T69) : Option ((Bool × List T10 × T69) ⊕ T87 ⊕ Bool) :=
 bif decide (s.2.2.2.1 < s.2.2.1) then (inb? s.2.1.length s.2.2.2.1).bind fun j1 => (s.2.1[j1]?).bind fun y2 => (Pcd.f k y2.1).bind fun r3 => bif !r3.2 then some (.inr (.inr false)) else (Pdv.f k y2.1).bind fun r4 => bif !decide (y2.2.1 = r4) then some (.inr (.inr false)) else (Paa.f k y2.2.2 1 4).bind fun r5 => bif !r5 then some (.inr (.inr false)) else (Pjq.f k s.2.2.2.2 y2.1).bind fun r6 => bif !decide (r6 = Zr (s.2.2.2.1 + 1)) then some (.inr (.inr false)) else bif decide (y2.2.2 = 2) then (Pbw.f k s.2.2.2.2 (Zr (s.2.2.2.1 + 1))).bind fun r7 => bif !r7 then some (.inr (.inr false)) else some (.inl (s.1, s.2.1, s.2.2.1, Zr (s.2.2.2.1 + 1), s.2.2.2.2)) else some (.inl (s.1, s.2.1, s.2.2.1, Zr (s.2.2.2.1 + 1), s.2.2.2.2)) else some (.inr (.inl (s.1, s.2.2.2.2)))
def Pbk.b1 (s : Bool × List Int × T69) : Option ((Bool × List Int × T69) ⊕ T87 ⊕ Bool) :=
 bif decide (s.2.2.2.1 < s.2.2.1) then (inb? s.2.1.length s.2.2.2.1).bind fun j1 => (s.2.1[j1]?).bind fun y2 => (Paa.f k y2 0 (s.2.2.2.2.1.length : Int)).bind fun r3 => bif !r3 then some (.inr (.inr false)) else bif decide (0 < y2) then (inb? s.2.2.2.2.1.length (Zr (y2 - 1))).bind fun j4 => (s.2.2.2.2.1[j4]?).bind fun y5 => bif !decide (y5.2.2 = 2) then some (.inr (.inr false)) else some (.inl (s.1, s.2.1, s.2.2.1, Zr (s.2.2.2.1 + 1), s.2.2.2.2)) else some (.inl (s.1, s.2.1, s.2.2.1, Zr (s.2.2.2.1 + 1), s.2.2.2.2)) else some (.inr (.inl (s.1, s.2.2.2.2)))
def Pbk.b2 (s : Bool × List T9 × T69) : Option ((Bool × List T9 × T69) ⊕ Bool ⊕ Bool) :=
 bif decide (s.2.2.2.1 < s.2.2.1) then (inb? s.2.1.length s.2.2.2.1).bind fun j1 => (s.2.1[j1]?).bind fun y2 => (Paa.f k y2.1 1 6).bind fun r3 => bif !r3 then some (.inr (.inr false)) else bif decide (0 < s.2.2.2.1) then (inb? s.2.2.2.2.2.2.length (Zr (s.2.2.2.1 - 1))).bind fun j4 => (s.2.2.2.2.2.2[j4]?).bind fun y5 => bif decide (y2.1 ≤ y5.1) then some (.inr (.inr false)) else (Paa.f k y2.2.1 1 1000000).bind fun r6 => bif !r6 then some (.inr (.inr false)) else (Pga.f k y2.2.2).bind fun r7 => bif !r7 then some (.inr (.inr false)) else some (.inl (s.1, s.2.1, s.2.2.1, Zr (s.2.2.2.1 + 1), s.2.2.2.2)) else (Paa.f k y2.2.1 1 1000000).bind fun r8 => bif !r8 then some (.inr (.inr false)) else (Pga.f k y2.2.2).bind fun r9 => bif !r9 then some (.inr (.inr false)) else some (.inl (s.1, s.2.1, s.2.2.1, Zr (s.2.2.2.1 + 1), s.2.2.2.2)) else some (.inr (.inl s.1))
def Pbk.d2 (k : Nat) (y : Bool) : Option Bool :=
 some true
def Pbk.d1 (y : T87) : Option Bool :=
 (iter (X := Bool ⊕ Bool) (Pbk.b2 k) k (y.1, y.2.2.2, (y.2.2.2.length : Int), 0, y.2)).bind fun | .inl y => Pbk.d2 k y | .inr o => some o
def Pbk.d0 (y : T87) : Option Bool :=
 (iter (X := T87 ⊕ Bool) (Pbk.b1 k) k (y.1, y.2.2.1, (y.2.2.1.length : Int), 0, y.2)).bind fun | .inl y => Pbk.d1 k y | .inr o => some o
def Pbk.f (a0 : T2) : Option Bool :=
 bif decide (6 < (a0.1.length : Int)) then some false else bif !decide ((a0.2.1.length : Int) = 3) then some false else bif decide (6 < (a0.2.2.length : Int)) then some false else (iter (X := T87 ⊕ Bool) (Pbk.b0 k) k (false, a0.1, (a0.1.length : Int), 0, a0)).bind fun | .inl y => Pbk.d0 k y | .inr o => some o
theorem Pbk.ok : Yg 103 ⟨⟨[.w K3], [.f .bool]⟩, Pbk.f⟩ := Yq 148 Yv (.n (.seq .c (.seq (.n (.lp [.ptr 1 1000, .s 2 .bool, .s 28 K26, .s 29 K0, .s 30 K0, .box 1000 47 K3 false false] 35 (.n (.seq (.cond .l .l) (.seq (.blk (.n (.n .c))) .l))))) (.seq (.n (.lp [.ptr 1 1000, .s 2 .bool, .s 80 K20, .s 81 K0, .s 82 K0, .box 1000 47 K3 false false] 35 (.n (.seq (.cond .l .l) (.seq (.blk (.n .c)) .l))))) (.seq (.n (.lp [.ptr 1 1000, .s 2 .bool, .s 108 K33, .s 109 K0, .s 110 K0, .box 1000 47 K3 false false] 2 (.n (.seq (.cond .l .l) (.seq (.blk (.n .c)) .l))))) (.n .l)))))) Tryz.func103 (Yc Pcd.ok (Yc Pdv.ok (Yc Paa.ok (Yc Pjq.ok (Yc Pbw.ok (Yc Pga.ok Yn))))))
def Phw.f (a0 : Int × T11) : Option Bool :=
 bif decide (a0.1 = 0) && (decide (a0.2.1 = 0) && (decide (a0.2.2 = Ze) && true)) then some true else (Paa.f k a0.1 1 100000).bind fun r1 => bif r1 then (Paa.f k a0.2.1 1 100000).bind fun r2 => bif r2 then some (decide ((a0.2.2.size : Int) ≤ 8000)) else some false else some false
theorem Phw.ok : Yg 104 ⟨⟨[.w K8], [.f .bool]⟩, Phw.f⟩ := Yq 22 Yv (.n (.n .l)) Tryz.func104 (Yc Paa.ok Yn)
def Pdy.f (a0 : T13) : Option T88 :=
 (Pee.f k a0 1).bind fun r1 => bif decide (r1.1 = Ze) then some (0, r1.2) else (inb? r1.1.size 0).bind fun j2 => some (Zr (Qmy r1.1 j2), r1.2)
theorem Pdy.ok : Yg 204 ⟨⟨[.box 249 K29 false true], [.f K0]⟩, Pdy.f⟩ := Yq 11 Yv (.n (.n (.seq .c (.n .l)))) Tryz.func204 (Yc Pee.ok Yn)
def Pff.f (a0 : T13) : Option (Zb × T13) :=
 (Paz.f k a0).bind fun r1 => (Pee.f k r1.2 r1.1).bind fun r2 => some r2
theorem Pff.ok : Yg 205 ⟨⟨[.box 249 K29 false true], [.f .str]⟩, Pff.f⟩ := Yq 9 Yv (.m 3 .l) Tryz.func205 (Yc Paz.ok (Yc Pee.ok Yn))
def Peu.f (a0 : T75) : Option Zb :=
 (Pga.f k a0).bind fun r1 => bif !r1 then some Ze else (Pco.f k a0.1).bind fun r2 => (Pco.f k a0.2.1).bind fun r3 => (cat? r2 r3).bind fun s4 => (Pco.f k a0.2.2.1).bind fun r5 => (cat? s4 r5).bind fun s6 => (Pco.f k a0.2.2.2.2.1).bind fun r7 => (cat? s6 r7).bind fun s8 => (Pco.f k a0.2.2.2.2.2).bind fun r9 => (cat? s8 r9).bind fun s10 => (cat? s10 a0.2.2.2.1).bind fun s11 => some s11
theorem Peu.ok : Yg 237 ⟨⟨[.w K13], [.f .str]⟩, Peu.f⟩ := Yq 28 Yv (.n (.seq .c (.n .l))) Tryz.func237 (Yc Pga.ok (Yc Pco.ok Yn))
def Pes.f (a0 : Zb) : Option (T75 × Bool) :=
 (Paz.f k (a0, false)).bind fun r1 => (Paz.f k r1.2).bind fun r2 => (Paz.f k r2.2).bind fun r3 => (Paz.f k r3.2).bind fun r4 => (Paz.f k r4.2).bind fun r5 => bif r5.2.2 then some ((0, 0, 0, Ze, 0, 0), false) else bif decide (a0 = Ze) then some ((0, 0, 0, Ze, 0, 0), false) else (Peu.f k (r1.1, r2.1, r3.1, r5.2.1, r4.1, r5.1)).bind fun r6 => bif !decide (r6 = a0) then some ((0, 0, 0, Ze, 0, 0), false) else some ((r1.1, r2.1, r3.1, r5.2.1, r4.1, r5.1), true)
theorem Pes.ok : Yg 207 ⟨⟨[.v .str], [.t K13, .f .bool]⟩, Pes.f⟩ := Yq 45 Yv (.m 8 (.seq .c (.n .l))) Tryz.func207 (Yc Paz.ok (Yc Peu.ok Yn))
def Pla.f (a0 : Zb) : Option Zb :=
 (Pco.f k (a0.size : Int)).bind fun r1 => (cat? r1 a0).bind fun s2 => some s2
theorem Pla.ok : Yg 236 ⟨⟨[.v .str], [.f .str]⟩, Pla.f⟩ := Yq 8 Yv (.n (.n .l)) Tryz.func236 (Yc Pco.ok Yn)
def Pbg.b0 (s : Zb × Zb × List T10 × T69) : Option ((Zb × Zb × List T10 × T69) ⊕ T26 ⊕ Zb) :=
 bif decide (s.2.2.2.2.1 < s.2.2.2.1) then (inb? s.2.2.1.length s.2.2.2.2.1).bind fun j1 => (s.2.2.1[j1]?).bind fun y2 => (cat? s.2.1 (strOfNums ([IntKind.wrap .u8 (y2.2.2)]))).bind fun s3 => (Pla.f k y2.1).bind fun r4 => (cat? s3 r4).bind fun s5 => some (.inl (s.1, s5, s.2.2.1, s.2.2.2.1, Zr (s.2.2.2.2.1 + 1), s.2.2.2.2.2)) else some (.inr (.inl (s.1, s.2.1, s.2.2.2.2.2)))
def Pbg.b1 (s : Zb × Zb × List Int × T69) : Option ((Zb × Zb × List Int × T69) ⊕ T26 ⊕ Zb) :=
 bif decide (s.2.2.2.2.1 < s.2.2.2.1) then (inb? s.2.2.1.length s.2.2.2.2.1).bind fun j1 => (s.2.2.1[j1]?).bind fun y2 => (Pco.f k y2).bind fun r3 => (cat? s.2.1 r3).bind fun s4 => some (.inl (s.1, s4, s.2.2.1, s.2.2.2.1, Zr (s.2.2.2.2.1 + 1), s.2.2.2.2.2)) else some (.inr (.inl (s.1, s.2.1, s.2.2.2.2.2)))
def Pbg.b2 (s : Zb × Zb × List T9 × T8) : Option ((Zb × Zb × List T9 × T8) ⊕ T14 ⊕ Zb) :=
 bif decide (s.2.2.2.2 < s.2.2.2.1) then (inb? s.2.2.1.length s.2.2.2.2).bind fun j1 => (s.2.2.1[j1]?).bind fun y2 => (Pco.f k y2.1).bind fun r3 => (cat? s.2.1 r3).bind fun s4 => (Pco.f k y2.2.1).bind fun r5 => (cat? s4 r5).bind fun s6 => (Peu.f k y2.2.2).bind fun r7 => (Pla.f k r7).bind fun r8 => (cat? s6 r8).bind fun s9 => some (.inl (s.1, s9, s.2.2.1, s.2.2.2.1, Zr (s.2.2.2.2 + 1))) else some (.inr (.inl (s.1, s.2.1)))
def Pbg.d2 (k : Nat) (y : T14) : Option Zb :=
 some y.2
def Pbg.d1 (y : T26) : Option Zb :=
 (Pco.f k (y.2.2.2.2.length : Int)).bind fun r1 => (cat? y.2.1 r1).bind fun s2 => (iter (X := T14 ⊕ Zb) (Pbg.b2 k) k (y.1, s2, y.2.2.2.2, (y.2.2.2.2.length : Int), 0)).bind fun | .inl y => Pbg.d2 k y | .inr o => some o
def Pbg.d0 (y : T26) : Option Zb :=
 (iter (X := T26 ⊕ Zb) (Pbg.b1 k) k (y.1, y.2.1, y.2.2.2.1, (y.2.2.2.1.length : Int), 0, y.2.2)).bind fun | .inl y => Pbg.d1 k y | .inr o => some o
def Pbg.f (a0 : T2) : Option Zb :=
 (Pbk.f k a0).bind fun r1 => bif !r1 then some Ze else (Pco.f k (a0.1.length : Int)).bind fun r2 => (iter (X := T26 ⊕ Zb) (Pbg.b0 k) k (Ze, r2, a0.1, (a0.1.length : Int), 0, a0)).bind fun | .inl y => Pbg.d0 k y | .inr o => some o
theorem Pbg.ok : Yg 151 ⟨⟨[.w K3], [.f .str]⟩, Pbg.f⟩ := Yq 77 (Yk 5 K32 Yv) (.n (.seq .c (.n (.seq (.n (.lp [.ptr 1 1000, .s 2 .str, .s 3 .str, .s 18 K26, .s 19 K0, .s 20 K0, .box 1000 47 K3 false false] 71 (.n (.seq (.cond .l .l) (.seq (.blk (.n .l)) .l))))) (.seq (.n (.lp [.ptr 1 1000, .s 2 .str, .s 3 .str, .s 37 K20, .s 38 K0, .s 39 K0, .box 1000 47 K3 false false] 71 (.n (.seq (.cond .l .l) (.seq (.blk (.n .l)) .l))))) (.n (.seq (.n (.lp [.s 2 .str, .s 3 .str, .s 55 K33, .s 56 K0, .s 57 K0] 3 (.n (.seq (.cond .l .l) (.seq (.blk (.n .l)) .l))))) (.n .l)))))))) Tryz.func151 (Yc Pbk.ok (Yc Pco.ok (Yc Pla.ok (Yc Peu.ok Yn))))
def Pah.b0 (s : Zb × Bool × Int × Int × T2 × T13 × T2) : Option T52 :=
 bif decide (s.2.2.2.1 < s.2.2.1) then (Pdy.f k s.2.2.2.2.2.1).bind fun r1 => (Pff.f k r1.2).bind fun r2 => (Pdv.f k r2.1).bind fun r3 => (app? (limOf 40) s.2.2.2.2.2.2.1 ([(r2.1, r3, r1.1)])).bind fun l4 => some (.inl (s.1, s.2.1, s.2.2.1, Zr (s.2.2.2.1 + 1), s.2.2.2.2.1, r2.2, l4, s.2.2.2.2.2.2.2)) else some (.inr (.inl (s.1, s.2.1, s.2.2.2.2)))
def Pah.b1 (s : Zb × Bool × Int × T2 × T13 × T2) : Option ((Zb × Bool × Int × T2 × T13 × T2) ⊕ T23 ⊕ T29) :=
 bif decide (s.2.2.1 < 3) then (Paz.f k s.2.2.2.2.1).bind fun r1 => (app? (limOf 8) s.2.2.2.2.2.2.1 ([r1.1])).bind fun l2 => some (.inl (s.1, s.2.1, Zr (s.2.2.1 + 1), s.2.2.2.1, r1.2, s.2.2.2.2.2.1, l2, s.2.2.2.2.2.2.2)) else some (.inr (.inl (s.1, s.2.1, s.2.2.2)))
def Pah.b2 (s : Zb × Bool × Int × Int × T2 × T13 × T2) : Option T52 :=
 bif decide (s.2.2.2.1 < s.2.2.1) then (Paz.f k s.2.2.2.2.2.1).bind fun r1 => (Paz.f k r1.2).bind fun r2 => (Pff.f k r2.2).bind fun r3 => (Pes.f k r3.1).bind fun r4 => (app? (limOf 72) s.2.2.2.2.2.2.2.2 ([(r1.1, r2.1, r4.1)])).bind fun l5 => some (.inl (s.1, s.2.1, s.2.2.1, Zr (s.2.2.2.1 + 1), s.2.2.2.2.1, r3.2, s.2.2.2.2.2.2.1, s.2.2.2.2.2.2.2.1, l5)) else some (.inr (.inl (s.1, s.2.1, s.2.2.2.2)))
def Pah.d2 (y : T23) : Option T29 :=
 bif y.2.2.2.1.2 then some (([], [], []), false) else bif decide (y.1 = Ze) then some (([], [], []), false) else (Pbg.f k y.2.2.2.2).bind fun r1 => bif !decide (r1 = y.1) then some (([], [], []), false) else some (y.2.2.2.2, true)
def Pah.d1 (y : T23) : Option T29 :=
 (Pdf.f k y.2.2.2.1 6).bind fun r1 => (iter (X := T23 ⊕ T29) (Pah.b2 k) k (y.1, y.2.1, r1.1, 0, y.2.2.1, r1.2, y.2.2.2.2)).bind fun | .inl y => Pah.d2 k y | .inr o => some o
def Pah.d0 (y : T23) : Option T29 :=
 (iter (X := T23 ⊕ T29) (Pah.b1 k) k (y.1, y.2.1, 0, y.2.2)).bind fun | .inl y => Pah.d1 k y | .inr o => some o
def Pah.f (a0 : Zb) : Option T29 :=
 (Pdf.f k (a0, false) 6).bind fun r1 => (iter (X := T23 ⊕ T29) (Pah.b0 k) k (a0, false, r1.1, 0, ([], [], []), r1.2, [], [], [])).bind fun | .inl y => Pah.d0 k y | .inr o => some o
theorem Pah.ok : Yg 105 ⟨⟨[.v .str], [.t K3, .f .bool]⟩, Pah.f⟩ := Yq 90 (Yk 3 K0 (Yk 124 K18 (Yk 135 K7 Yv))) (.m 4 (.seq (.n (.lp [.s 0 .str, .ptr 2 1000, .s 3 .bool, .ptr 4 2002, .ptr 5 3001, .s 17 K0, .s 18 K0, .box 1000 47 K3 true false, .box 2002 249 K29 false false, .box 3001 47 K3 true false] 927 (.n (.seq (.cond .l .l) (.seq (.blk (.m 3 .l)) .l))))) (.seq (.n (.lp [.s 0 .str, .ptr 2 1000, .s 3 .bool, .ptr 4 2002, .ptr 5 3001, .s 37 K0, .box 1000 47 K3 true false, .box 2002 249 K29 false false, .box 3001 47 K3 true false] 479 (.n (.seq (.cond .l .l) (.seq (.blk (.n .l)) .l))))) (.n (.seq (.n (.lp [.s 0 .str, .ptr 2 1000, .s 3 .bool, .ptr 4 2002, .ptr 5 3001, .s 50 K0, .s 51 K0, .box 1000 47 K3 true false, .box 2002 249 K29 false false, .box 3001 47 K3 true false] 927 (.n (.seq (.cond .l .l) (.seq (.blk (.m 4 .l)) .l))))) (.seq .c (.n .l))))))) Tryz.func105 (Yc Pdf.ok (Yc Pdy.ok (Yc Pff.ok (Yc Pdv.ok (Yc Paz.ok (Yc Pes.ok (Yc Pbg.ok Yn)))))))
def Pcw.b0 (s : List T4 × List T4 × List T16 × T8) : Option ((List T4 × List T4 × List T16 × T8) ⊕ T38 ⊕ (List T4)) :=
 bif decide (s.2.2.2.2 < s.2.2.2.1) then (inb? s.2.2.1.length s.2.2.2.2).bind fun j1 => (s.2.2.1[j1]?).bind fun y2 => (Pjt.f k s.2.1 y2).bind fun r3 => some (.inl (s.1, r3.1, s.2.2.1, s.2.2.2.1, Zr (s.2.2.2.2 + 1))) else some (.inr (.inl (s.1, s.2.1)))
def Pcw.d0 (k : Nat) (y : T38) : Option (List T4) :=
 some y.2
def Pcw.f (a0 : T1) (a1 : Int) : Option (List T4) :=
 (Pde.f k a0.2.2.2.1).bind fun r1 => (cut? a0.2.2.2.2.length 0 a1).bind fun p2 => (iter (X := T38 ⊕ (List T4)) (Pcw.b0 k) k ([], r1, (a0.2.2.2.2.take p2.2).drop p2.1, (((a0.2.2.2.2.take p2.2).drop p2.1).length : Int), 0)).bind fun | .inl y => Pcw.d0 k y | .inr o => some o
theorem Pcw.ok : Yg 229 ⟨⟨[.w K2, .v K0], [.f K12]⟩, Z2 Pcw.f⟩ := Yq 28 Yv (.n (.n (.seq (.n (.lp [.o 4 K12, .o 5 K12, .s 14 K31, .s 15 K0, .s 16 K0] 3 (.n (.seq (.cond .l .l) (.seq (.blk (.n .l)) .l))))) (.n .l)))) Tryz.func229 (Yc Pde.ok (Yc Pjt.ok Yn))
def Pgb.f (a0 : T1) : Option (List T4) :=
 (Pcw.f k a0 (a0.2.2.2.2.length : Int)).bind fun r1 => some r1
theorem Pgb.ok : Yg 220 ⟨⟨[.w K2], [.f K12]⟩, Pgb.f⟩ := Yq 8 Yv (.n (.n .l)) Tryz.func220 (Yc Pcw.ok Yn)
def Pbf.f (a0 : T1) (a1 : Zb) : Option Int :=
 (Pgb.f k a0).bind fun r1 => (Pia.f k r1 a1).bind fun r2 => bif decide (r2 < 0) then some (-1) else (inb? r1.length r2).bind fun j3 => (r1[j3]?).bind fun y4 => (Pfq.f k a0 y4.2).bind fun r5 => some r5
theorem Pbf.ok : Yg 116 ⟨⟨[.w K2, .v .str], [.f K0]⟩, Z2 Pbf.f⟩ := Yq 21 Yv (.m 3 (.seq .c (.n .l))) Tryz.func116 (Yc Pgb.ok (Yc Pia.ok (Yc Pfq.ok Yn)))
def Pmu.f (a0 : T1) (a1 : Zb) : Option T13 :=
 (Pbe.f k a0).bind fun r1 => bif !r1 then some (Ze, false) else (Pbf.f k a0 a1).bind fun r2 => bif decide (r2 < 0) then some (Ze, false) else (Pbf.f k a0 a1).bind fun r3 => (inb? a0.2.2.1.length r3).bind fun j4 => (a0.2.2.1[j4]?).bind fun y5 => some (y5.2.1, true)
theorem Pmu.ok : Yg 208 ⟨⟨[.w K2, .v .str], [.f .str, .f .bool]⟩, Z2 Pmu.f⟩ := Yq 23 Yv (.n (.seq .c (.n .l))) Tryz.func208 (Yc Pbe.ok (Yc Pbf.ok Yn))
def Pce.b0 (k : Nat) (s : Zb × Int × Int × Bool × T8) : Option T62 :=
 bif decide (s.2.2.2.2.2 < s.2.1) then (inb? s.1.size s.2.2.2.2.2).bind fun j1 => some (.inl (s.1, s.2.1, s.2.2.1, s.2.2.2.1, bits .or .i64 (Zr (s.2.2.2.2.1 * 2 ^ (min (8 : Int).toNat (IntKind.bits .i64)))) (Zr (Qmy s.1 j1)), Zr (s.2.2.2.2.2 + 1))) else some (.inr (.inl (s.2.2.1, s.2.2.2.1, s.2.2.2.2.1)))
def Pce.d0 (k : Nat) (y : T39) : Option T33 :=
 some (y.2.2, true)
def Pce.f (a0 : Zb) (a1 : Int) : Option T33 :=
 (Paa.f k a1 1 7).bind fun r1 => bif !r1 then some (0, false) else bif decide ((a0.size : Int) < a1) then some (0, false) else (iter (X := T39 ⊕ T33) (Pce.b0 k) k (a0, a1, 0, false, 0, 0)).bind fun | .inl y => Pce.d0 k y | .inr o => some o
theorem Pce.ok : Yg 271 ⟨⟨[.v .str, .v K0], [.f K0, .f .bool]⟩, Z2 Pce.f⟩ := Yq 30 Yv (.n (.seq .c (.n (.seq (.n (.lp [.s 0 .str, .s 1 K0, .s 4 K0, .s 5 .bool, .s 6 K0, .s 7 K0] 28 (.seq (.n (.cond .l .l)) (.seq (.blk .l) .l)))) (.n .l))))) Tryz.func271 (Yc Paa.ok Yn)
def Pdd.b1 (k : Nat) (s : T48) : Option (T48 ⊕ T31 ⊕ Int) :=
 bif decide (s.2.2.2.2 < 8) then bif decide (bits .and .i64 s.2.2.1 1 = 1) then some (.inl (s.1, s.2.1, bits .xor .i64 (Int.fdiv s.2.2.1 (2 ^ (min (1 : Int).toNat (IntKind.bits .i64)))) 2197175160, s.2.2.2.1, Zr (s.2.2.2.2 + 1))) else some (.inl (s.1, s.2.1, Int.fdiv s.2.2.1 (2 ^ (min (1 : Int).toNat (IntKind.bits .i64))), s.2.2.2.1, Zr (s.2.2.2.2 + 1))) else some (.inr (.inl (s.1, s.2.1, s.2.2.1, s.2.2.2.1)))
def Pdd.d0 (k : Nat) (y : T31) : Option T61 :=
 some (.inl (y.1, y.2.1, y.2.2.1, Zr (y.2.2.2 + 1)))
def Pdd.b0 (s : T31) : Option T61 :=
 bif decide (s.2.2.2 < (s.1.size : Int)) then (inb? s.1.size s.2.2.2).bind fun j1 => (iter (X := T31 ⊕ Int) (Pdd.b1 k) k (s.1, s.2.1, bits .xor .i64 s.2.2.1 (Zr (Qmy s.1 j1)), s.2.2.2, 0)).bind fun | .inl y => Pdd.d0 k y | .inr o => some (.inr (.inr o)) else some (.inr (.inl (s.2.1, s.2.2.1)))
def Pdd.d1 (k : Nat) (y : T8) : Option Int :=
 some (Zr (4294967295 - y.2))
def Pdd.f (a0 : Zb) : Option Int :=
 (iter (X := T8 ⊕ Int) (Pdd.b0 k) k (a0, 0, 4294967295, 0)).bind fun | .inl y => Pdd.d1 k y | .inr o => some o
theorem Pdd.ok : Yg 305 ⟨⟨[.v .str], [.f K0]⟩, Pdd.f⟩ := Yq 31 Yv (.n (.n (.seq (.n (.lp [.s 0 .str, .s 2 K0, .s 3 K0, .s 4 K0] 6 (.seq (.n (.cond .l .l)) (.seq (.blk (.n (.n (.lp [.s 0 .str, .s 2 K0, .s 3 K0, .s 4 K0, .s 18 K0] 15 (.n (.seq (.cond .l .l) (.seq (.blk (.m 3 (.cond .l .l))) .l))))))) .l)))) (.n .l)))) Tryz.func305 Yn
def Pfk.f (a0 : Zb) : Option Zb :=
 (Paa.f k (a0.size : Int) 1 2000).bind fun r1 => bif !r1 then some Ze else (Pca.f k (a0.size : Int) 4).bind fun r2 => (cat? r2 a0).bind fun s3 => (Pdd.f k s3).bind fun r4 => (Pca.f k r4 4).bind fun r5 => (cat? r2 r5).bind fun s6 => (cat? s6 a0).bind fun s7 => some s7
theorem Pfk.ok : Yg 292 ⟨⟨[.v .str], [.f .str]⟩, Pfk.f⟩ := Yq 20 Yv (.n (.seq .c (.n (.n .l)))) Tryz.func292 (Yc Paa.ok (Yc Pca.ok (Yc Pdd.ok Yn)))
def Pgy.f (a0 : Zb) : Option T44 :=
 (Pce.f k a0 4).bind fun r1 => bif !r1.2 then some (Ze, 0, 1) else (Paa.f k r1.1 1 2000).bind fun r2 => bif !r2 then some (Ze, 0, 2) else bif decide ((a0.size : Int) < Zr (8 + r1.1)) then some (Ze, 0, 1) else (cut? a0.size 8 (Zr (8 + r1.1))).bind fun p3 => (Pfk.f k (a0.extract p3.1 p3.2)).bind fun r4 => (cut? a0.size 0 (Zr (8 + r1.1))).bind fun p5 => bif !decide (r4 = a0.extract p5.1 p5.2) then some (Ze, 0, 2) else some (a0.extract p3.1 p3.2, Zr (8 + r1.1), 0)
theorem Pgy.ok : Yg 270 ⟨⟨[.v .str], [.f .str, .f K0, .f K0]⟩, Pgy.f⟩ := Yq 40 Yv (.n (.n (.seq (.blk (.n (.cond (.n .l) (.n (.cond (.n .l) .c))))) (.n (.seq .c (.n .l)))))) Tryz.func270 (Yc Pce.ok (Yc Paa.ok (Yc Pfk.ok Yn)))
def Pfc.b0 (s : Zb × T51) : Option ((Zb × T51) ⊕ Unit ⊕ T18) :=
 (cut? s.1.size s.2.2.2.2 s.1.size).bind fun p1 => (Pgy.f k (s.1.extract p1.1 p1.2)).bind fun r2 => bif !decide (r2.2.2 = 0) then some (.inr (.inr s.2.2.2)) else (app? (limOf 16) s.2.2.2.1 ([r2.1])).bind fun l3 => some (.inl (s.1, s.2.1, s.2.2.1, l3, Zr (s.2.2.2.2 + r2.2.1)))
def Pfc.d0 (k : Nat) (y : Unit) : Option T18 :=
 none
def Pfc.f (a0 : Zb) : Option T18 :=
 (iter (X := Unit ⊕ T18) (Pfc.b0 k) k (a0, [], 0, [], 0)).bind fun | .inl y => Pfc.d0 k y | .inr o => some o
theorem Pfc.ok : Yg 267 ⟨⟨[.v .str], [.f K25, .f K0]⟩, Pfc.f⟩ := Yq 29 (Yk 9 .str Yv) (.m 3 (.lp [.s 0 .str, .o 2 K25, .s 3 K0, .o 4 K25, .s 5 K0] 0 (.blk (.n (.seq .c (.n .l)))))) Tryz.func267 (Yc Pgy.ok Yn)
def Pmn.f (a0 : T46) : Option Bool :=
 bif decide (a0.1 = 1) then (Phy.f k a0.2.1).bind fun r1 => bif r1 then (Phz.f k a0.2.2.2.1).bind fun r2 => bif r2 then bif decide (a0.2.2.1 = 0) then some (decide (a0.2.2.2.2 = Ze)) else some false else some false else some false else bif decide (a0.1 = 2) then (Paa.f k a0.2.1 1 100000).bind fun r3 => bif r3 then (Paa.f k a0.2.2.1 1 100000).bind fun r4 => bif r4 then bif decide ((a0.2.2.2.2.size : Int) ≤ 900) then some (decide (a0.2.2.2.1 = 0)) else some false else some false else some false else bif decide (a0.1 = 3) then bif decide (a0.1 = 3) && (decide (a0.2.1 = 0) && (decide (a0.2.2.1 = a0.2.2.1) && (decide (a0.2.2.2.1 = 0) && (decide (a0.2.2.2.2 = Ze) && true)))) then (Paa.f k a0.2.2.1 1 100000).bind fun r5 => some r5 else some false else bif decide (a0.1 = 4) then (Phf.f k a0.2.2.1 a0.2.1).bind fun r6 => bif r6 then bif decide (a0.2.2.2.1 = 0) then some (decide (a0.2.2.2.2 = Ze)) else some false else some false else some false
theorem Pmn.ok : Yg 310 ⟨⟨[.w K21], [.f .bool]⟩, Pmn.f⟩ := Yq 75 Yv (.n (.seq (.n (.blk (.n (.cond (.n .l) (.n (.cond (.n .l) (.n (.cond (.n .l) .c)))))))) (.n .l))) Tryz.func310 (Yc Phy.ok (Yc Phz.ok (Yc Paa.ok (Yc Phf.ok Yn))))
def Pgx.f (a0 : T46) : Option Zb :=
 (Pmn.f k a0).bind fun r1 => bif !r1 then some Ze else (Pco.f k a0.2.1).bind fun r2 => (cat? (strOfNums ([IntKind.wrap .u8 (a0.1)])) r2).bind fun s3 => (Pco.f k a0.2.2.1).bind fun r4 => (cat? s3 r4).bind fun s5 => (Pco.f k (Zr (a0.2.2.2.1 + 1))).bind fun r6 => (cat? s5 r6).bind fun s7 => (cat? s7 a0.2.2.2.2).bind fun s8 => some s8
theorem Pgx.ok : Yg 300 ⟨⟨[.w K21], [.f .str]⟩, Pgx.f⟩ := Yq 27 (Yk 5 K32 Yv) (.n (.seq .c (.n .l))) Tryz.func300 (Yc Pmn.ok (Yc Pco.ok Yn))
def Phu.f (a0 : Zb) : Option (T46 × Bool) :=
 (Pdy.f k (a0, false)).bind fun r1 => (Paz.f k r1.2).bind fun r2 => (Paz.f k r2.2).bind fun r3 => (Paz.f k r3.2).bind fun r4 => bif r4.2.2 then some ((0, 0, 0, 0, Ze), false) else bif decide (a0 = Ze) then some ((0, 0, 0, 0, Ze), false) else (Pgx.f k (r1.1, r2.1, r3.1, Zr (r4.1 - 1), r4.2.1)).bind fun r5 => bif !decide (r5 = a0) then some ((0, 0, 0, 0, Ze), false) else some ((r1.1, r2.1, r3.1, Zr (r4.1 - 1), r4.2.1), true)
theorem Phu.ok : Yg 268 ⟨⟨[.v .str], [.t K21, .f .bool]⟩, Phu.f⟩ := Yq 45 Yv (.m 8 (.seq .c (.n .l))) Tryz.func268 (Yc Pdy.ok (Yc Paz.ok (Yc Pgx.ok Yn)))
def Pfz.f (k : Nat) (a0 : T3) : Option Int :=
 bif decide (0 < (a0.2.2.2.2.length : Int)) then (inb? a0.2.2.2.2.length (Zr ((a0.2.2.2.2.length : Int) - 1))).bind fun j1 => (a0.2.2.2.2[j1]?).bind fun y2 => some y2.1 else some a0.2.2.2.1
theorem Pfz.ok : Yg 301 ⟨⟨[.w K5], [.f K0]⟩, Pfz.f⟩ := Yq 18 Yv (.n (.seq (.n .c) (.n .l))) Tryz.func301 Yn
def Pfn.c0 (k : Nat) (y : Bool × T3 × T46) : Option (Bool × T3) :=
 some (true, y.2.2.2.1, y.2.2.2.2.2.1, y.2.1.2.2)
def Pfn.f (a0 : T3) (a1 : T46) : Option (Bool × T3) :=
 bif decide (a1.1 = 1) then Option.bind (α := (Bool × T3 × T46) ⊕ (Bool × T3)) (bif decide (a1.2.1 < a0.1) then some (.inr (false, a0)) else bif decide (a1.2.1 = a0.1) then bif !decide (a0.2.1 = (-1)) then bif !decide (a0.2.1 = a1.2.2.2.1) then some (.inr (false, a0)) else some (.inl (false, a0, a1)) else some (.inl (false, a0, a1)) else some (.inl (false, a0, a1))) fun | .inl y => Pfn.c0 k y | .inr o => some o else bif decide (a1.1 = 2) then (Pgc.f k a0).bind fun r1 => bif !decide (a1.2.2.1 = Zr (r1 + 1)) then some (false, a0) else bif decide (60 ≤ (a0.2.2.2.2.length : Int)) then some (false, a0) else (Pfz.f k a0).bind fun r2 => (Paa.f k a1.2.1 r2 a0.1).bind fun r3 => bif !r3 then some (false, a0) else (app? (limOf 24) a0.2.2.2.2 ([(a1.2.1, a1.2.2.2.2)])).bind fun l4 => some (true, a0.1, a0.2.1, a0.2.2.1, a0.2.2.2.1, l4) else bif decide (a1.1 = 3) then (Pgc.f k a0).bind fun r5 => (Paa.f k a1.2.2.1 (Zr (a0.2.2.1 + 1)) r5).bind fun r6 => bif !r6 then some (false, a0) else (cut? a0.2.2.2.2.length 0 (Zr ((Zr (a1.2.2.1 - a0.2.2.1)) - 1))).bind fun p7 => some (true, a0.1, a0.2.1, a0.2.2.1, a0.2.2.2.1, (a0.2.2.2.2.take p7.2).drop p7.1) else some (false, a0)
theorem Pfn.ok : Yg 269 ⟨⟨[.box 77 K5 true true, .w K21], [.f .bool]⟩, Z2 Pfn.f⟩ := Yq 128 (Yk 145 K14 Yv) (.n (.seq (.n (.blk (.n (.cond (.seq (.cut [.ptr 0 1, .ptr 3 1000, .s 4 .bool, .box 1 77 K5 true false, .box 1000 229 K21 false false] .c) (.n .l)) (.n (.cond (.seq .c .l) (.n (.cond (.seq .c .l) (.n .l))))))))) (.n .l))) Tryz.func269 (Yc Pgc.ok (Yc Pfz.ok (Yc Paa.ok Yn)))
def Pet.b0 (s : Int × Bool × Int × List Zb × Int × Int × T3 × T3) : Option ((Int × Bool × Int × List Zb × Int × Int × T3 × T3) ⊕ T42 ⊕ T63) :=
 bif decide (s.2.2.2.2.2.1 < s.2.2.2.2.1) then (inb? s.2.2.2.1.length s.2.2.2.2.2.1).bind fun j1 => (s.2.2.2.1[j1]?).bind fun y2 => (Phu.f k y2).bind fun r3 => bif !r3.2 then some (.inr (.inl (s.1, s.2.1, s.2.2.1, s.2.2.2.2.2.2))) else (Pfn.f k s.2.2.2.2.2.2.2 r3.1).bind fun r4 => bif !r4.1 then some (.inr (.inl (s.1, s.2.1, s.2.2.1, s.2.2.2.2.2.2.1, r4.2))) else some (.inl (s.1, s.2.1, Zr ((Zr (s.2.2.1 + 8)) + (y2.size : Int)), s.2.2.2.1, s.2.2.2.2.1, Zr (s.2.2.2.2.2.1 + 1), s.2.2.2.2.2.2.1, r4.2)) else some (.inr (.inl (s.1, s.2.1, s.2.2.1, s.2.2.2.2.2.2)))
def Pet.d0 (k : Nat) (y : T42) : Option T63 :=
 some (y.2.2.2.2, y.2.2.1, true)
def Pet.f (a0 : Zb) : Option T63 :=
 (Pfc.f k a0).bind fun r1 => bif decide ((r1.1.length : Int) = 0) then some ((0, 0, 0, 0, []), 0, false) else (inb? r1.1.length 0).bind fun j2 => (r1.1[j2]?).bind fun y3 => (Phu.f k y3).bind fun r4 => bif !r4.2 then some ((0, 0, 0, 0, []), 0, false) else bif !decide (r4.1.1 = 4) then some ((0, 0, 0, 0, []), 0, false) else (inb? r1.1.length 0).bind fun j5 => (r1.1[j5]?).bind fun y6 => (cut? r1.1.length 1 r1.1.length).bind fun p7 => (iter (X := T42 ⊕ T63) (Pet.b0 k) k (0, false, Zr (8 + (y6.size : Int)), (r1.1.take p7.2).drop p7.1, (((r1.1.take p7.2).drop p7.1).length : Int), 0, (0, 0, 0, 0, []), r4.1.2.1, (-1), r4.1.2.2.1, r4.1.2.1, [])).bind fun | .inl y => Pet.d0 k y | .inr o => some o
theorem Pet.ok : Yg 209 ⟨⟨[.v .str], [.t K5, .f K0, .f .bool]⟩, Pet.f⟩ := Yq 78 Yv (.n (.n (.seq .c (.n (.seq .c (.n (.n (.seq (.n (.lp [.ptr 2 1000, .s 3 K0, .s 4 .bool, .ptr 9 8007, .s 10 K0, .o 52 K25, .s 53 K0, .s 54 K0, .box 1000 77 K5 true false, .box 8007 77 K5 true false] 799 (.n (.seq (.cond .l .l) (.seq (.blk (.n (.n (.seq (.n (.cond .l .l)) .l)))) .l))))) (.n .l))))))))) Tryz.func209 (Yc Pfc.ok (Yc Phu.ok (Yc Pfn.ok Yn)))
def Pil.f (a0 : Int × T11) : Option Zb :=
 (Phw.f k a0).bind fun r1 => bif !r1 then some Ze else bif decide (a0.1 = 0) && (decide (a0.2.1 = 0) && (decide (a0.2.2 = Ze) && true)) then some Ze else (Pca.f k a0.1 4).bind fun r2 => (Pca.f k a0.2.1 4).bind fun r3 => (cat? r2 r3).bind fun s4 => (Pca.f k (a0.2.2.size : Int) 4).bind fun r5 => (cat? s4 r5).bind fun s6 => (Pdv.f k a0.2.2).bind fun r7 => (cat? s6 r7).bind fun s8 => (Pfk.f k s8).bind fun r9 => (cat? r9 a0.2.2).bind fun s10 => some s10
theorem Pil.ok : Yg 238 ⟨⟨[.w K8], [.f .str]⟩, Pil.f⟩ := Yq 31 Yv (.n (.seq .c (.n .l))) Tryz.func238 (Yc Phw.ok (Yc Pca.ok (Yc Pdv.ok (Yc Pfk.ok Yn))))
def Pik.f (a0 : Zb) : Option ((Int × T11) × Bool) :=
 (Pgy.f k a0).bind fun r1 => bif !decide (r1.2.2 = 0) then some ((0, 0, Ze), false) else bif !decide ((r1.1.size : Int) = 44) then some ((0, 0, Ze), false) else (cut? a0.size r1.2.1 a0.size).bind fun p2 => (Pce.f k r1.1 4).bind fun r3 => (cut? r1.1.size 4 r1.1.size).bind fun p4 => (Pce.f k (r1.1.extract p4.1 p4.2) 4).bind fun r5 => (Pil.f k (r3.1, r5.1, a0.extract p2.1 p2.2)).bind fun r6 => bif !decide (r6 = a0) then some ((0, 0, Ze), false) else some ((r3.1, r5.1, a0.extract p2.1 p2.2), true)
theorem Pik.ok : Yg 210 ⟨⟨[.v .str], [.t K8, .f .bool]⟩, Pik.f⟩ := Yq 45 Yv (.n (.n (.seq .c (.m 3 (.seq .c (.n .l)))))) Tryz.func210 (Yc Pgy.ok (Yc Pce.ok (Yc Pil.ok Yn)))
def Ply.f (a0 : T3) : Option T3 :=
 (Pbd.f k a0.2.2.2.2).bind fun r1 => some (a0.1, a0.2.1, a0.2.2.1, a0.2.2.2.1, r1)
theorem Ply.ok : Yg 212 ⟨⟨[.w K5], [.t K5]⟩, Ply.f⟩ := Yq 8 Yv (.m 3 .l) Tryz.func212 (Yc Pbd.ok Yn)
def Pbb.c2 (k : Nat) (y : T28) : Option (T41 ⊕ T24) :=
 bif decide (y.2.2.2.1.1 < y.2.2.2.2.1.2.1) then some (.inl (y.1, y.2.2.1, (y.2.2.2.2.1.2.1, (-1), y.2.2.2.2.1.1, y.2.2.2.2.1.2.1, y.2.1), y.2.2.2.2.2)) else some (.inl (y.1, y.2.2.1, (y.2.2.2.1.1, y.2.2.2.1.2.1, y.2.2.2.2.1.1, y.2.2.2.2.1.2.1, y.2.1), y.2.2.2.2.2))
def Pbb.c3 (y : T41) : Option T24 :=
 (Ply.f k y.2.2.1).bind fun r1 => some ((r1, y.2.2.2.2), 0)
def Pbb.c1 (y : Int × Zb × Int × T22) : Option T24 :=
 bif decide (y.2.2.1 < (y.2.1.size : Int)) then Option.bind (α := T41 ⊕ T24) (bif decide (y.2.2.2.2.2.1.2.2.1 < y.2.2.2.2.2.2.1) then Option.bind (α := T28 ⊕ T24) (bif decide (Zr (y.2.2.2.2.2.2.1 - y.2.2.2.2.2.1.2.2.1) ≤ (y.2.2.2.2.2.1.2.2.2.2.length : Int)) then (inb? y.2.2.2.2.2.1.2.2.2.2.length (Zr ((Zr (y.2.2.2.2.2.2.1 - y.2.2.2.2.2.1.2.2.1)) - 1))).bind fun j1 => (y.2.2.2.2.2.1.2.2.2.2[j1]?).bind fun y2 => bif decide (y2.1 = y.2.2.2.2.2.2.2.1) then (cut? y.2.2.2.2.2.1.2.2.2.2.length (Zr (y.2.2.2.2.2.2.1 - y.2.2.2.2.2.1.2.2.1)) y.2.2.2.2.2.1.2.2.2.2.length).bind fun p3 => (Pbd.f k ((y.2.2.2.2.2.1.2.2.2.2.take p3.2).drop p3.1)).bind fun r4 => some (.inl (y.1, r4, y.2.2.2.2.1, y.2.2.2.2.2.1, y.2.2.2.2.2.2, (0, 0, 0, 0, []), y.2.2.2.2.2.2, true)) else some (.inl (y.1, [], y.2.2.2.2.1, y.2.2.2.2.2.1, y.2.2.2.2.2.2, (0, 0, 0, 0, []), y.2.2.2.2.2.2, true)) else some (.inl (y.1, [], y.2.2.2.2.1, y.2.2.2.2.2.1, y.2.2.2.2.2.2, (0, 0, 0, 0, []), y.2.2.2.2.2.2, true))) fun | .inl y => Pbb.c2 k y | .inr o => some (.inr o) else some (.inl (y.1, y.2.2.2.2.1, y.2.2.2.2.2.1, (0, 0, 0, 0, []), y.2.2.2.2.2.2, true))) fun | .inl y => Pbb.c3 k y | .inr o => some o else bif decide (y.2.2.2.2.2.1.2.2.1 < y.2.2.2.2.2.2.1) then Option.bind (α := T41 ⊕ T24) (bif decide (y.2.2.2.2.2.1.2.2.1 < y.2.2.2.2.2.2.1) then Option.bind (α := T28 ⊕ T24) (bif decide (Zr (y.2.2.2.2.2.2.1 - y.2.2.2.2.2.1.2.2.1) ≤ (y.2.2.2.2.2.1.2.2.2.2.length : Int)) then (inb? y.2.2.2.2.2.1.2.2.2.2.length (Zr ((Zr (y.2.2.2.2.2.2.1 - y.2.2.2.2.2.1.2.2.1)) - 1))).bind fun j5 => (y.2.2.2.2.2.1.2.2.2.2[j5]?).bind fun y6 => bif decide (y6.1 = y.2.2.2.2.2.2.2.1) then (cut? y.2.2.2.2.2.1.2.2.2.2.length (Zr (y.2.2.2.2.2.2.1 - y.2.2.2.2.2.1.2.2.1)) y.2.2.2.2.2.1.2.2.2.2.length).bind fun p7 => (Pbd.f k ((y.2.2.2.2.2.1.2.2.2.2.take p7.2).drop p7.1)).bind fun r8 => some (.inl (y.1, r8, y.2.2.2.2.1, y.2.2.2.2.2.1, y.2.2.2.2.2.2, (0, 0, 0, 0, []), y.2.2.2.2.2.2, true)) else some (.inl (y.1, [], y.2.2.2.2.1, y.2.2.2.2.2.1, y.2.2.2.2.2.2, (0, 0, 0, 0, []), y.2.2.2.2.2.2, true)) else some (.inl (y.1, [], y.2.2.2.2.1, y.2.2.2.2.2.1, y.2.2.2.2.2.2, (0, 0, 0, 0, []), y.2.2.2.2.2.2, true))) fun | .inl y => Pbb.c2 k y | .inr o => some (.inr o) else some (.inl (y.1, y.2.2.2.2.1, y.2.2.2.2.2.1, (0, 0, 0, 0, []), y.2.2.2.2.2.2, true))) fun | .inl y => Pbb.c3 k y | .inr o => some o else (Pbf.f k y.2.2.2.1 Zl3).bind fun r9 => bif decide (0 ≤ r9) then Option.bind (α := T41 ⊕ T24) (bif decide (y.2.2.2.2.2.1.2.2.1 < y.2.2.2.2.2.2.1) then Option.bind (α := T28 ⊕ T24) (bif decide (Zr (y.2.2.2.2.2.2.1 - y.2.2.2.2.2.1.2.2.1) ≤ (y.2.2.2.2.2.1.2.2.2.2.length : Int)) then (inb? y.2.2.2.2.2.1.2.2.2.2.length (Zr ((Zr (y.2.2.2.2.2.2.1 - y.2.2.2.2.2.1.2.2.1)) - 1))).bind fun j10 => (y.2.2.2.2.2.1.2.2.2.2[j10]?).bind fun y11 => bif decide (y11.1 = y.2.2.2.2.2.2.2.1) then (cut? y.2.2.2.2.2.1.2.2.2.2.length (Zr (y.2.2.2.2.2.2.1 - y.2.2.2.2.2.1.2.2.1)) y.2.2.2.2.2.1.2.2.2.2.length).bind fun p12 => (Pbd.f k ((y.2.2.2.2.2.1.2.2.2.2.take p12.2).drop p12.1)).bind fun r13 => some (.inl (y.1, r13, y.2.2.2.2.1, y.2.2.2.2.2.1, y.2.2.2.2.2.2, (0, 0, 0, 0, []), y.2.2.2.2.2.2, true)) else some (.inl (y.1, [], y.2.2.2.2.1, y.2.2.2.2.2.1, y.2.2.2.2.2.2, (0, 0, 0, 0, []), y.2.2.2.2.2.2, true)) else some (.inl (y.1, [], y.2.2.2.2.1, y.2.2.2.2.2.1, y.2.2.2.2.2.2, (0, 0, 0, 0, []), y.2.2.2.2.2.2, true))) fun | .inl y => Pbb.c2 k y | .inr o => some (.inr o) else some (.inl (y.1, y.2.2.2.2.1, y.2.2.2.2.2.1, (0, 0, 0, 0, []), y.2.2.2.2.2.2, true))) fun | .inl y => Pbb.c3 k y | .inr o => some o else (Pbf.f k y.2.2.2.1 Zl0).bind fun r14 => Option.bind (α := T41 ⊕ T24) (bif decide (y.2.2.2.2.2.1.2.2.1 < y.2.2.2.2.2.2.1) then Option.bind (α := T28 ⊕ T24) (bif decide (Zr (y.2.2.2.2.2.2.1 - y.2.2.2.2.2.1.2.2.1) ≤ (y.2.2.2.2.2.1.2.2.2.2.length : Int)) then (inb? y.2.2.2.2.2.1.2.2.2.2.length (Zr ((Zr (y.2.2.2.2.2.2.1 - y.2.2.2.2.2.1.2.2.1)) - 1))).bind fun j15 => (y.2.2.2.2.2.1.2.2.2.2[j15]?).bind fun y16 => bif decide (y16.1 = y.2.2.2.2.2.2.2.1) then (cut? y.2.2.2.2.2.1.2.2.2.2.length (Zr (y.2.2.2.2.2.2.1 - y.2.2.2.2.2.1.2.2.1)) y.2.2.2.2.2.1.2.2.2.2.length).bind fun p17 => (Pbd.f k ((y.2.2.2.2.2.1.2.2.2.2.take p17.2).drop p17.1)).bind fun r18 => some (.inl (y.1, r18, y.2.2.2.2.1, y.2.2.2.2.2.1, y.2.2.2.2.2.2, (0, 0, 0, 0, []), y.2.2.2.2.2.2, (decide (0 ≤ r14)))) else some (.inl (y.1, [], y.2.2.2.2.1, y.2.2.2.2.2.1, y.2.2.2.2.2.2, (0, 0, 0, 0, []), y.2.2.2.2.2.2, (decide (0 ≤ r14)))) else some (.inl (y.1, [], y.2.2.2.2.1, y.2.2.2.2.2.1, y.2.2.2.2.2.2, (0, 0, 0, 0, []), y.2.2.2.2.2.2, (decide (0 ≤ r14))))) fun | .inl y => Pbb.c2 k y | .inr o => some (.inr o) else some (.inl (y.1, y.2.2.2.2.1, y.2.2.2.2.2.1, (0, 0, 0, 0, []), y.2.2.2.2.2.2, (decide (0 ≤ r14))))) fun | .inl y => Pbb.c3 k y | .inr o => some o
def Pbb.c0 (y : Int × Zb × T60) : Option T24 :=
 Option.bind (α := (Int × Zb × Int × T22) ⊕ T24) (bif !y.2.2.2.1 then some (.inr (((0, 0, 0, 0, []), (0, 0, Ze), false), 2)) else bif decide (y.2.2.2.2.2.2.2.1 < y.2.2.2.2.2.2.1.2.2.1) then some (.inr (((0, 0, 0, 0, []), (0, 0, Ze), false), 2)) else bif decide (y.2.2.2.2.2.2.1.2.2.1 = y.2.2.2.2.2.2.2.1) then bif !decide (y.2.2.2.2.2.2.1.2.2.2.1 = y.2.2.2.2.2.2.2.2.1) then some (.inr (((0, 0, 0, 0, []), (0, 0, Ze), false), 2)) else some (.inl (y.1, y.2.1, y.2.2.1, y.2.2.2.2)) else some (.inl (y.1, y.2.1, y.2.2.1, y.2.2.2.2))) fun | .inl y => Pbb.c1 k y | .inr o => some o
def Pbb.f (a0 : T1) : Option T24 :=
 (Pbe.f k a0).bind fun r1 => bif !r1 then some (((0, 0, 0, 0, []), (0, 0, Ze), false), 2) else (Pmu.f k a0 Zl5).bind fun r2 => bif !r2.2 then some (((0, 0, 0, 0, []), (0, 0, Ze), false), 1) else (Pet.f k r2.1).bind fun r3 => Option.bind (α := (Int × Zb × T60) ⊕ T24) ((Pmu.f k a0 Zl2).bind fun r4 => bif r4.2 then (Pik.f k r4.1).bind fun r5 => bif r3.2.2 then some (.inl (0, r2.1, r3.2.1, r5.2, a0, ((0, 0, 0, 0, []), (0, 0, Ze), false), r3.1, r5.1)) else some (.inl (0, r2.1, r3.2.1, false, a0, ((0, 0, 0, 0, []), (0, 0, Ze), false), r3.1, r5.1)) else some (.inl (0, r2.1, r3.2.1, r3.2.2, a0, ((0, 0, 0, 0, []), (0, 0, Ze), false), r3.1, 0, 0, Ze))) fun | .inl y => Pbb.c0 k y | .inr o => some o
theorem Pbb.ok : Yg 106 ⟨⟨[.w K2], [.t K17, .f K0]⟩, Pbb.f⟩ := Yq 153 (Yk 145 K14 Yv) (.n (.seq .c (.n (.seq .c (.n (.n (.seq (.cut [.ptr 1 1000, .ptr 2 1001, .s 3 K0, .s 4 .str, .ptr 6 7006, .s 7 K0, .s 8 .bool, .ptr 9 8001, .box 1000 53 K2 false false, .box 1001 79 K17 true false, .box 7006 77 K5 true false, .box 8001 48 K8 false false] (.n (.n (.cond (.n (.n .l)) .l)))) (.seq (.cut [.ptr 1 1000, .ptr 2 1001, .s 3 K0, .s 4 .str, .ptr 6 7006, .s 7 K0, .ptr 9 8001, .box 1000 53 K2 false false, .box 1001 79 K17 true false, .box 7006 77 K5 true false, .box 8001 48 K8 false false] .c) (.n (.seq (.cut [.ptr 2 1001, .s 3 K0, .ptr 6 7006, .ptr 14 16023, .box 1001 79 K17 true false, .box 7006 77 K5 true false, .box 16023 79 K17 true false] (.n (.cond (.n (.n (.seq (.cut [.ptr 2 1001, .s 3 K0, .ptr 6 7006, .ptr 9 8001, .ptr 14 16023, .o 16 K22, .box 1001 79 K17 true false, .box 7006 77 K5 true false, .box 8001 48 K8 false false, .box 16023 79 K17 true false] (.n (.cond .l .l))) (.m 3 .c)))) .l))) (.n (.n .l)))))))))))) Tryz.func106 (Yc Pbe.ok (Yc Pmu.ok (Yc Pet.ok (Yc Pik.ok (Yc Pbd.ok (Yc Ply.ok (Yc Pbf.ok Yn)))))))
def Pby.b0 (k : Nat) (s : List T11 × List T11 × Bool × T8) : Option ((List T11 × List T11 × Bool × T8) ⊕ Bool ⊕ Bool) :=
 bif decide (s.2.2.2.2 < s.2.2.2.1) then (inb? s.1.length s.2.2.2.2).bind fun j1 => (s.1[j1]?).bind fun y2 => (inb? s.2.1.length s.2.2.2.2).bind fun j3 => (s.2.1[j3]?).bind fun y4 => bif !(decide (y2.1 = y4.1) && (decide (y2.2 = y4.2) && true)) then some (.inr (.inr false)) else some (.inl (s.1, s.2.1, s.2.2.1, s.2.2.2.1, Zr (s.2.2.2.2 + 1))) else some (.inr (.inl s.2.2.1))
def Pby.d0 (k : Nat) (y : Bool) : Option Bool :=
 some true
def Pby.f (a0 : List T11) (a1 : List T11) : Option Bool :=
 bif !decide ((a0.length : Int) = (a1.length : Int)) then some false else (iter (X := Bool ⊕ Bool) (Pby.b0 k) k (a0, a1, false, (a0.length : Int), 0)).bind fun | .inl y => Pby.d0 k y | .inr o => some o
theorem Pby.ok : Yg 213 ⟨⟨[.v K22, .v K22], [.f .bool]⟩, Z2 Pby.f⟩ := Yq 26 Yv (.n (.seq .c (.seq (.n (.lp [.s 0 K22, .s 1 K22, .s 4 .bool, .s 12 K0, .s 13 K0] 4 (.n (.seq (.cond .l .l) (.seq (.blk (.n .c)) .l))))) (.n .l)))) Tryz.func213 Yn
def Pgz.f (a0 : T3) (a1 : T3) : Option Bool :=
 bif decide (a0.1 = a1.1) then bif decide (a0.2.1 = a1.2.1) then bif decide (a0.2.2.1 = a1.2.2.1) then bif decide (a0.2.2.2.1 = a1.2.2.2.1) then (Pby.f k a0.2.2.2.2 a1.2.2.2.2).bind fun r1 => some r1 else some false else some false else some false else some false
theorem Pgz.ok : Yg 107 ⟨⟨[.w K5, .w K5], [.f .bool]⟩, Z2 Pgz.f⟩ := Yq 38 Yv (.n (.n .l)) Tryz.func107 (Yc Pby.ok Yn)
def Pgn.c0 (y : Bool × T0 × T5) : Option Bool :=
 (Pbb.f k y.2.1.2.2.2.2.2.2.1).bind fun r1 => bif decide (r1.2 = 0) then (Per.f k y.2.2).bind fun r2 => (Pgz.f k r1.1.1 r2).bind fun r3 => bif r3 then bif decide (r1.1.2.1.1 = y.2.1.2.2.2.2.2.1.1) && (decide (r1.1.2.1.2.1 = y.2.1.2.2.2.2.2.1.2.1) && (decide (r1.1.2.1.2.2 = y.2.1.2.2.2.2.2.1.2.2) && true)) then some (!r1.1.2.2) else some false else some false else some false
def Pgn.f (a0 : T0) : Option Bool :=
 (Phs.f k a0.2.2.2.1).bind fun r1 => bif !r1 then some false else bif !decide (a0.2.2.2.1.1 = a0.1) then some false else bif !decide (a0.2.2.2.1.2.1 = a0.2.1) then some false else (Pbk.f k a0.2.2.2.2.1).bind fun r2 => bif !r2 then some false else (Phw.f k a0.2.2.2.2.2.1).bind fun r3 => bif !r3 then some false else bif !decide (a0.2.2.2.2.2.1.1 = a0.2.2.2.1.2.2.2.2.2.2.1) then some false else bif !decide (a0.2.2.2.2.2.1.2.1 = a0.2.2.2.1.2.2.2.2.2.2.2.1) then some false else Option.bind (α := (Bool × T0 × T5) ⊕ Bool) ((Pah.f k a0.2.2.2.2.2.1.2.2).bind fun r4 => bif !r4.2 then bif !(decide (a0.2.2.2.2.2.1.1 = 0) && (decide (a0.2.2.2.2.2.1.2.1 = 0) && (decide (a0.2.2.2.2.2.1.2.2 = Ze) && true))) then some (.inr false) else some (.inl (false, a0, a0.2.2.2.1)) else some (.inl (false, a0, a0.2.2.2.1))) fun | .inl y => Pgn.c0 k y | .inr o => some o
theorem Pgn.ok : Yg 44 ⟨⟨[.w K1], [.f .bool]⟩, Pgn.f⟩ := Yq 96 Yv (.n (.n (.seq .c (.seq (.cut [.ptr 1 1000, .s 2 .bool, .ptr 3 2002, .box 1000 55 K1 false false, .box 2002 43 K4 false false] (.n .c)) (.n (.n .l)))))) Tryz.func44 (Yc Phs.ok (Yc Pbk.ok (Yc Phw.ok (Yc Pah.ok (Yc Pbb.ok (Yc Per.ok (Yc Pgz.ok Yn)))))))
def Pin.f (a0 : T5) : Option Bool :=
 bif decide (a0.1 = 0) then bif decide (a0.2.1 = 0) then (Per.f k a0).bind fun r1 => (Pgz.f k r1 (0, 0, 0, 0, [])).bind fun r2 => bif r2 then bif decide (a0.2.2.2.2.1 = 0) then bif decide (a0.2.2.2.2.2.1 = 0) then bif decide (a0.2.2.2.2.2.2.2.2.2.1 = 0) then some (decide (Zr ((Zr ((a0.2.2.2.2.2.2.2.2.2.2.1.length : Int) + (a0.2.2.2.2.2.2.2.2.2.2.2.1.length : Int))) + (a0.2.2.2.2.2.2.2.2.2.2.2.2.length : Int)) = 0)) else some false else some false else some false else some false else some false else some false
theorem Pin.ok : Yg 45 ⟨⟨[.w K4], [.f .bool]⟩, Pin.f⟩ := Yq 45 Yv (.n (.n .l)) Tryz.func45 (Yc Per.ok (Yc Pgz.ok Yn))
def Pjv.f (k : Nat) (a0 : T2) : Option Bool :=
 some (decide (Zr ((Zr ((a0.1.length : Int) + (a0.2.1.length : Int))) + (a0.2.2.length : Int)) = 0))
theorem Pjv.ok : Yg 46 ⟨⟨[.w K3], [.f .bool]⟩, Pjv.f⟩ := Yq 15 Yv (.n (.n .l)) Tryz.func46 Yn
def Pgg.c0 (y : T37) : Option Bool :=
 bif y.2.2.2.1 then (Pgn.f k y.2).bind fun r1 => some r1 else (Pin.f k y.2.2.2.2.1).bind fun r2 => bif r2 then (Pjv.f k y.2.2.2.2.2.1).bind fun r3 => bif r3 then bif decide (y.2.2.2.2.2.2.1.1 = 0) && (decide (y.2.2.2.2.2.2.1.2.1 = 0) && (decide (y.2.2.2.2.2.2.1.2.2 = Ze) && true)) then some (decide (y.2.2.2.2.2.2.2.2.1 = (-1))) else some false else some false else some false
def Pgg.f (a0 : T0) : Option Bool :=
 Option.bind (α := T37 ⊕ Bool) ((Paa.f k a0.2.1 1 5).bind fun r1 => bif !r1 then some (.inr false) else (Paa.f k a0.1 0 (Zr (a0.2.1 - 1))).bind fun r2 => bif !r2 then some (.inr false) else (Pbe.f k a0.2.2.2.2.2.2.1).bind fun r3 => bif !r3 then some (.inr false) else (Paa.f k a0.2.2.2.2.2.2.2.1 (-1) 100).bind fun r4 => bif !r4 then some (.inr false) else (Pmv.f k a0.2.2.2.2.2.2.2.2.1 a0.2.2.2.2.2.2.2.2.2).bind fun r5 => bif !r5 then some (.inr false) else bif decide (a0.2.2.2.2.2.2.2.1 = (-1)) then bif !decide (Zr (a0.2.2.2.2.2.2.2.2.1 + a0.2.2.2.2.2.2.2.2.2) = 0) then some (.inr false) else some (.inl (false, a0)) else some (.inl (false, a0))) fun | .inl y => Pgg.c0 k y | .inr o => some o
theorem Pgg.ok : Yg 11 ⟨⟨[.w K1], [.f .bool]⟩, Pgg.f⟩ := Yq 72 Yv (.n (.seq (.cut [.ptr 1 1000, .s 2 .bool, .box 1000 55 K1 false false] .c) (.seq .c (.n .l)))) Tryz.func11 (Yc Paa.ok (Yc Pbe.ok (Yc Pmv.ok (Yc Pgn.ok (Yc Pin.ok (Yc Pjv.ok Yn))))))
def Pfe.f (k : Nat) (a0 : List Int) : Option (List Int) :=
 (app? (limOf 8) [] a0).bind fun l1 => some l1
theorem Pfe.ok : Yg 228 ⟨⟨[.v K20], [.f K20]⟩, Pfe.f⟩ := Yq 5 (Yk 3 K0 Yv) (.n (.n .l)) Tryz.func228 Yn
def Pkp.f (a0 : T5) : Option T5 :=
 (Pbd.f k a0.2.2.2.2.2.2.2.2.1).bind fun r1 => (Pfe.f k a0.2.2.2.2.2.2.2.2.2.2.1).bind fun r2 => (Pfe.f k a0.2.2.2.2.2.2.2.2.2.2.2.1).bind fun r3 => (Pfe.f k a0.2.2.2.2.2.2.2.2.2.2.2.2).bind fun r4 => some (a0.1, a0.2.1, a0.2.2.1, a0.2.2.2.1, a0.2.2.2.2.1, a0.2.2.2.2.2.1, a0.2.2.2.2.2.2.1, a0.2.2.2.2.2.2.2.1, r1, a0.2.2.2.2.2.2.2.2.2.1, r2, r3, r4)
theorem Pkp.ok : Yg 139 ⟨⟨[.w K4], [.t K4]⟩, Pkp.f⟩ := Yq 20 Yv (.m 6 .l) Tryz.func139 (Yc Pbd.ok (Yc Pfe.ok Yn))
def Plx.f (a0 : T2) : Option T2 :=
 (app? (limOf 40) [] a0.1).bind fun l1 => (Pfe.f k a0.2.1).bind fun r2 => (app? (limOf 72) [] a0.2.2).bind fun l3 => some (l1, r2, l3)
theorem Plx.ok : Yg 140 ⟨⟨[.w K3], [.t K3]⟩, Plx.f⟩ := Yq 13 (Yk 124 K18 (Yk 135 K7 Yv)) (.n (.n .l)) Tryz.func140 (Yc Pfe.ok Yn)
def Pbx.f (a0 : T1) : Option T1 :=
 (app? (limOf 32) [] a0.2.2.1).bind fun l1 => (Pde.f k a0.2.2.2.1).bind fun r2 => (app? (limOf 48) [] a0.2.2.2.2).bind fun l3 => some (a0.1, a0.2.1, l1, r2, l3)
theorem Pbx.ok : Yg 141 ⟨⟨[.w K2], [.t K2]⟩, Pbx.f⟩ := Yq 17 (Yk 110 K16 (Yk 117 K9 Yv)) (.n (.n .l)) Tryz.func141 (Yc Pde.ok Yn)
def Pim.f (a0 : T0) : Option T0 :=
 (Pkp.f k a0.2.2.2.1).bind fun r1 => (Plx.f k a0.2.2.2.2.1).bind fun r2 => (Pbx.f k a0.2.2.2.2.2.2.1).bind fun r3 => some (a0.1, a0.2.1, a0.2.2.1, r1, r2, a0.2.2.2.2.2.1, r3, a0.2.2.2.2.2.2.2)
theorem Pim.ok : Yg 62 ⟨⟨[.w K1], [.t K1]⟩, Pim.f⟩ := Yq 16 Yv (.m 5 .l) Tryz.func62 (Yc Pkp.ok (Yc Plx.ok (Yc Pbx.ok Yn)))
def Pkw.f (a0 : Int) (a1 : Int) (a2 : T3) : Option (T5 × Bool) :=
 (Pbd.f k a2.2.2.2.2).bind fun r1 => (Phs.f k (a0, a1, a2.1, a2.2.1, 1, (-1), a2.2.2.1, a2.2.2.2.1, r1, a2.2.2.1, [], [], [])).bind fun r2 => bif !r2 then some ((0, 0, 0, 0, 0, 0, 0, 0, [], 0, [], [], []), false) else some ((a0, a1, a2.1, a2.2.1, 1, (-1), a2.2.2.1, a2.2.2.2.1, r1, a2.2.2.1, [], [], []), true)
theorem Pkw.ok : Yg 117 ⟨⟨[.v K0, .v K0, .w K5], [.t K4, .f .bool]⟩, Z3 Pkw.f⟩ := Yq 30 Yv (.n (.n (.seq .c (.n .l)))) Tryz.func117 (Yc Pbd.ok (Yc Phs.ok Yn))
def Pky.f (k : Nat) : Option T2 :=
 (mk? (limOf 8) 3 (0 : Int)).bind fun l1 => some ([], l1, [])
theorem Pky.ok : Yg 118 ⟨⟨[], [.t K3]⟩, fun k (x : Unit) => Pky.f k⟩ := Yq 3 (Yk 3 K0 Yv) (.n (.n .l)) Tryz.func118 Yn
def Phx.f (a0 : T46) : Option Zb :=
 (Pgx.f k a0).bind fun r1 => (Pfk.f k r1).bind fun r2 => some r2
theorem Phx.ok : Yg 275 ⟨⟨[.w K21], [.f .str]⟩, Phx.f⟩ := Yq 6 Yv (.n (.n .l)) Tryz.func275 (Yc Pgx.ok (Yc Pfk.ok Yn))
def Pel.b0 (s : Zb × Zb × List T11 × Int × Int × T3) : Option ((Zb × Zb × List T11 × Int × Int × T3) ⊕ T14 ⊕ Zb) :=
 bif decide (s.2.2.2.2.1 < s.2.2.2.1) then (inb? s.2.2.1.length s.2.2.2.2.1).bind fun j1 => (s.2.2.1[j1]?).bind fun y2 => (Phx.f k (2, y2.1, Zr ((Zr (s.2.2.2.2.2.2.2.1 + s.2.2.2.2.1)) + 1), 0, y2.2)).bind fun r3 => (cat? s.2.1 r3).bind fun s4 => some (.inl (s.1, s4, s.2.2.1, s.2.2.2.1, Zr (s.2.2.2.2.1 + 1), s.2.2.2.2.2)) else some (.inr (.inl (s.1, s.2.1)))
def Pel.d0 (k : Nat) (y : T14) : Option Zb :=
 some y.2
def Pel.f (a0 : T3) : Option Zb :=
 (Pek.f k a0).bind fun r1 => bif !r1 then some Ze else (Phx.f k (4, a0.2.2.2.1, a0.2.2.1, 0, Ze)).bind fun r2 => (Phx.f k (1, a0.1, 0, a0.2.1, Ze)).bind fun r3 => (cat? r2 r3).bind fun s4 => (iter (X := T14 ⊕ Zb) (Pel.b0 k) k (Ze, s4, a0.2.2.2.2, (a0.2.2.2.2.length : Int), 0, a0)).bind fun | .inl y => Pel.d0 k y | .inr o => some o
theorem Pel.ok : Yg 223 ⟨⟨[.w K5], [.f .str]⟩, Pel.f⟩ := Yq 45 Yv (.n (.seq .c (.n (.seq (.n (.lp [.ptr 1 1000, .s 2 .str, .s 3 .str, .s 23 K22, .s 24 K0, .s 25 K0, .box 1000 77 K5 false false] 6 (.n (.seq (.cond .l .l) (.seq (.blk (.n .l)) .l))))) (.n .l))))) Tryz.func223 (Yc Pek.ok (Yc Phx.ok Yn))
def Pkq.c0 (k : Nat) (y : Zb × Zb × List T7 × Zb × List T7) : Option (List T7) :=
 (app? (limOf 56) y.2.2.2.2 ([(1, y.2.2.2.1, Ze, Ze), (2, y.2.2.2.1, Ze, y.2.1), (3, y.2.2.2.1, Ze, Ze), (4, y.2.2.2.1, y.1, Ze), (6, Ze, Ze, Ze)])).bind fun l1 => some l1
def Pkq.f (a0 : T1) (a1 : Zb) (a2 : Zb) : Option (List T7) :=
 (cat? a1 Zl1).bind fun s1 => Option.bind (α := (Zb × Zb × List T7 × Zb × List T7) ⊕ (List T7)) ((Pbf.f k a0 s1).bind fun r2 => bif decide (0 ≤ r2) then (app? (limOf 56) ([]) ([(5, s1, Ze, Ze)])).bind fun l3 => some (.inl (a1, a2, [], s1, l3)) else some (.inl (a1, a2, [], s1, []))) fun | .inl y => Pkq.c0 k y | .inr o => some o
theorem Pkq.ok : Yg 222 ⟨⟨[.w K2, .v .str, .v .str], [.f K28]⟩, Z3 Pkq.f⟩ := Yq 35 (Yk 169 K11 Yv) (.m 3 (.seq (.cut [.s 1 .str, .s 2 .str, .slot 6 false K28 true, .s 7 .str, .slot 8 false K28 true] (.n (.cond .l .l))) (.n .l))) Tryz.func222 (Yc Pbf.ok Yn)
def Pjp.f (a0 : T1) (a1 : T3) : Option (List T7) :=
 (Pbe.f k a0).bind fun r1 => bif !r1 then some ([]) else (Pek.f k a1).bind fun r2 => bif !r2 then some ([]) else (Pel.f k a1).bind fun r3 => (Pkq.f k a0 Zl5 r3).bind fun r4 => some r4
theorem Pjp.ok : Yg 119 ⟨⟨[.w K2, .w K5], [.f K28]⟩, Z2 Pjp.f⟩ := Yq 18 (Yk 169 K11 Yv) (.n (.seq .c (.n .l))) Tryz.func119 (Yc Pbe.ok (Yc Pek.ok (Yc Pel.ok (Yc Pkq.ok Yn))))
def Pnh.f (a0 : T1) (a1 : Zb) : Option T27 :=
 (Pbe.f k a0).bind fun r1 => bif !r1 then some ((0, 0, [], [], []), 1) else (Pbx.f k a0).bind fun r2 => (Pbl.f k a1).bind fun r3 => bif !r3 then some (r2, 1) else (Pbf.f k a0 a1).bind fun r4 => bif decide (0 ≤ r4) then some (r2, 3) else bif decide ((a0.2.2.1.length : Int) = 10) then some (r2, 4) else bif decide ((a0.2.2.2.2.length : Int) = 20) then some (r2, 4) else bif decide (a0.2.1 = 1000000) then some (r2, 4) else (app? (limOf 32) r2.2.2.1 ([(a0.2.1, Ze, 0)])).bind fun l5 => (app? (limOf 48) r2.2.2.2.2 ([(1, a1, Ze, a0.2.1)])).bind fun l6 => some ((r2.1, Zr (r2.2.1 + 1), l5, r2.2.2.2.1, l6), 0)
theorem Pnh.ok : Yg 276 ⟨⟨[.w K2, .v .str], [.t K2, .f K0]⟩, Z2 Pnh.f⟩ := Yq 63 (Yk 110 K16 (Yk 117 K9 Yv)) (.n (.seq .c (.n (.seq (.blk (.n (.cond (.n .l) (.n (.cond (.n .l) .c))))) (.m 4 .l))))) Tryz.func276 (Yc Pbe.ok (Yc Pbx.ok (Yc Pbl.ok (Yc Pbf.ok Yn))))
def Pok.f (a0 : T1) (a1 : Zb) (a2 : Zb) : Option T27 :=
 (Pbe.f k a0).bind fun r1 => bif !r1 then some ((0, 0, [], [], []), 1) else (Pbx.f k a0).bind fun r2 => (Pbf.f k a0 a1).bind fun r3 => (Pbl.f k a1).bind fun r4 => bif !r4 then some (r2, 1) else bif decide (r3 < 0) then some (r2, 2) else (Pcu.f k a0).bind fun r5 => bif decide (a0.1 < Zr (r5 + (a2.size : Int))) then some (r2, 4) else (inb? a0.2.2.1.length r3).bind fun j6 => (a0.2.2.1[j6]?).bind fun y7 => (cat? y7.2.1 a2).bind fun s8 => (inb? r2.2.2.1.length r3).bind fun j9 => (r2.2.2.1[j9]?).bind fun y10 => some ((r2.1, r2.2.1, r2.2.2.1.set j9 (y10.1, s8, y10.2.2), r2.2.2.2), 0)
theorem Pok.ok : Yg 277 ⟨⟨[.w K2, .v .str, .v .str], [.t K2, .f K0]⟩, Z3 Pok.f⟩ := Yq 52 Yv (.n (.seq .c (.n (.n (.seq (.blk (.n (.cond (.n .l) (.n (.cond (.n .l) .c))))) (.n (.n .l))))))) Tryz.func277 (Yc Pbe.ok (Yc Pbx.ok (Yc Pbf.ok (Yc Pbl.ok (Yc Pcu.ok Yn)))))
def Pni.f (a0 : T1) (a1 : Zb) : Option T27 :=
 (Pbe.f k a0).bind fun r1 => bif !r1 then some ((0, 0, [], [], []), 1) else (Pbx.f k a0).bind fun r2 => (Pbf.f k a0 a1).bind fun r3 => (Pbl.f k a1).bind fun r4 => bif !r4 then some (r2, 1) else bif decide (r3 < 0) then some (r2, 2) else (inb? a0.2.2.1.length r3).bind fun j5 => (a0.2.2.1[j5]?).bind fun y6 => (inb? r2.2.2.1.length r3).bind fun j7 => (r2.2.2.1[j7]?).bind fun y8 => some ((r2.1, r2.2.1, r2.2.2.1.set j7 (y8.1, y8.2.1, (y6.2.1.size : Int)), r2.2.2.2), 0)
theorem Pni.ok : Yg 278 ⟨⟨[.w K2, .v .str], [.t K2, .f K0]⟩, Z2 Pni.f⟩ := Yq 39 Yv (.n (.seq .c (.n (.n (.seq (.blk (.n (.cond (.n .l) .c))) (.n (.n .l))))))) Tryz.func278 (Yc Pbe.ok (Yc Pbx.ok (Yc Pbf.ok (Yc Pbl.ok Yn))))
def Pfr.f (a0 : T1) (a1 : T16) (a2 : Bool) : Option T27 :=
 (Pbe.f k a0).bind fun r1 => bif !r1 then some ((0, 0, [], [], []), 1) else (Pbx.f k a0).bind fun r2 => bif !a2 then some (r2, 1) else (Pbf.f k a0 a1.2.1).bind fun r3 => bif decide (r3 < 0) then some (r2, 2) else bif decide ((a0.2.2.2.2.length : Int) = 20) then some (r2, 4) else (app? (limOf 48) r2.2.2.2.2 ([a1])).bind fun l4 => some ((r2.1, r2.2.1, r2.2.2.1, r2.2.2.2.1, l4), 0)
theorem Pfr.ok : Yg 302 ⟨⟨[.w K2, .w K9, .v .bool], [.t K2, .f K0]⟩, Z3 Pfr.f⟩ := Yq 39 (Yk 117 K9 Yv) (.n (.seq .c (.n (.seq (.blk (.n (.cond (.n .l) (.n (.cond (.n .l) .c))))) (.n (.n .l)))))) Tryz.func302 (Yc Pbe.ok (Yc Pbx.ok (Yc Pbf.ok Yn)))
def Pkz.f (a0 : T1) (a1 : Zb) (a2 : Zb) : Option T27 :=
 (Pbl.f k a1).bind fun r1 => bif r1 then (Pbl.f k a2).bind fun r2 => bif r2 then (Pfr.f k a0 (2, a1, a2, 0) (!decide (a1 = a2))).bind fun r3 => some r3 else (Pfr.f k a0 (2, a1, a2, 0) false).bind fun r4 => some r4 else (Pfr.f k a0 (2, a1, a2, 0) false).bind fun r5 => some r5
theorem Pkz.ok : Yg 279 ⟨⟨[.w K2, .v .str, .v .str], [.t K2, .f K0]⟩, Z3 Pkz.f⟩ := Yq 26 Yv (.n (.n .l)) Tryz.func279 (Yc Pbl.ok (Yc Pfr.ok Yn))
def Png.f (a0 : T1) (a1 : Zb) : Option T27 :=
 (Pbl.f k a1).bind fun r1 => (Pfr.f k a0 (3, a1, Ze, 0) r1).bind fun r2 => some r2
theorem Png.ok : Yg 280 ⟨⟨[.w K2, .v .str], [.t K2, .f K0]⟩, Z2 Png.f⟩ := Yq 14 Yv (.n (.n .l)) Tryz.func280 (Yc Pbl.ok (Yc Pfr.ok Yn))
def Pib.f (k : Nat) (a0 : T4) (a1 : T15) : Option Bool :=
 some (decide (a0.2 = a1.1))
theorem Pib.ok : Yg 285 ⟨⟨[.w K6, .box 110 K16 false false], [.f .bool]⟩, Z2 Pib.f⟩ := Yq 9 Yv (.n (.n .l)) Tryz.func285 Yn
def Paj.b0 (s : List T4 × Int × Int × Int × T15) : Option ((List T4 × Int × Int × Int × T15) ⊕ Int ⊕ Int) :=
 bif decide (s.2.2.2.1 < s.2.2.1) then (inb? s.1.length s.2.2.2.1).bind fun j1 => (s.1[j1]?).bind fun y2 => (Pib.f k y2 s.2.2.2.2).bind fun r3 => bif r3 then some (.inr (.inr s.2.2.2.1)) else some (.inl (s.1, s.2.1, s.2.2.1, Zr (s.2.2.2.1 + 1), s.2.2.2.2)) else some (.inr (.inl s.2.1))
def Paj.d0 (k : Nat) (y : Int) : Option Int :=
 some (-1)
def Paj.f (a0 : List T4) (a1 : T15) : Option Int :=
 (iter (X := Int ⊕ Int) (Paj.b0 k) k (a0, 0, (a0.length : Int), 0, a1)).bind fun | .inl y => Paj.d0 k y | .inr o => some o
theorem Paj.ok : Yg 273 ⟨⟨[.v K12, .clo 285 false 110 K16], [.f K0]⟩, Z2 Paj.f⟩ := Yq 19 Yv (.n (.seq (.n (.lp [.s 0 K12, .fnp 1 285 false 2, .s 4 K0, .s 7 K0, .s 8 K0, .box 2 110 K16 false true] 4 (.n (.seq (.cond .l .l) (.seq (.blk (.n .c)) .l))))) (.n .l))) Tryz.func273 (Yc Pib.ok Yn)
def Pbj.f (a0 : List T4) (a1 : T15) : Option Bool :=
 (Paj.f k a0 a1).bind fun r1 => some (decide (0 ≤ r1))
theorem Pbj.ok : Yg 284 ⟨⟨[.v K12, .clo 285 false 110 K16], [.f .bool]⟩, Z2 Pbj.f⟩ := Yq 9 Yv (.n (.n .l)) Tryz.func284 (Yc Paj.ok Yn)
def Pea.f (a0 : T15) (a1 : T47) : Option Bool :=
 (Pbj.f k a1.2.2.2.1 a0).bind fun r1 => some (!r1)
def Pea.fn : Fn := ⟨⟨[.val true K16, .box 53 K23 false false], [⟨false, .bool, true⟩]⟩, fun k (x : T15 × T47) => Pea.f k x.1 x.2⟩
theorem Pea.ok : Yg 283 Pea.fn := Yq 9 Yv (.n (.n .l)) Tryz.func283 (Yc Pbj.ok Yn)
def Pab.b0 (s : List T15 × Int × Int × Int × T47) : Option ((List T15 × Int × Int × Int × T47) ⊕ Int ⊕ Int) :=
 bif decide (s.2.2.2.1 < s.2.2.1) then (inb? s.1.length s.2.2.2.1).bind fun j1 => (s.1[j1]?).bind fun y2 => (Pea.f k y2 (s.2.2.2.2.1, s.2.2.2.2.2.1, (), s.2.2.2.2.2.2.2)).bind fun r3 => bif r3 then some (.inr (.inr s.2.2.2.1)) else some (.inl (s.1, s.2.1, s.2.2.1, Zr (s.2.2.2.1 + 1), s.2.2.2.2.1, s.2.2.2.2.2.1, (), s.2.2.2.2.2.2.2)) else some (.inr (.inl s.2.1))
def Pab.d0 (k : Nat) (y : Int) : Option Int :=
 some (-1)
def Pab.f (a0 : List T15) (a1 : T47) : Option Int :=
 (iter (X := Int ⊕ Int) (Pab.b0 k) k (a0, 0, (a0.length : Int), 0, a1.1, a1.2.1, (), a1.2.2.2)).bind fun | .inl y => Pab.d0 k y | .inr o => some o
def Pab.fn : Fn := ⟨⟨[.val false K24, .clo 283 false 53 K23], [⟨false, K0, true⟩]⟩, fun k (x : List T15 × T47) => Pab.f k x.1 x.2⟩
theorem Pab.ok : Yg 248 Pab.fn := Yq 19 Yv (.n (.seq (.n (.lp [.s 0 K24, .fnp 1 283 false 2, .s 4 K0, .s 7 K0, .s 8 K0, .box 2 53 K23 false true] 4 (.n (.seq (.cond .l .l) (.seq (.blk (.n .c)) .l))))) (.n .l))) Tryz.func248 (Yc Pea.ok Yn)
section
open Go.Proofs Go.Shelf Go.RowKit Go.Lib
theorem Hand.zeroInode : ∃ z : Value, (∀ w, (zeroValue 110).run Tryz.prog w = .ok z w) ∧ z.cells.size = 3 ∧ ∀ n, ∀ v ∈ (Builtin.zeroCells z.cells n).toList, v.oneCell' = true := by
 refine ⟨_, Tryz.zeroValue110, rfl, fun n v hv => ?_⟩
 simp only [Builtin.zeroCells] at hv
 obtain ⟨j, hj, rfl⟩ := List.getElem_of_mem hv
 simp [Value.cells]
 have : j % 3 = 0 ∨ j % 3 = 1 ∨ j % 3 = 2 := by omega
 rcases this with h | h | h <;> rw [h] <;> rfl
end
def Pnb (x : T15) : List Value := [.int .i64 x.1, .string x.2.1, .int .i64 x.2.2]
theorem Pjl (x : T15) : (Pnb x).length = 3 := rfl
theorem Puj {w : World} {S : Nat → Prop} (x : T15) : RdT w S K16 x (Pnb x) := by unfold Pnb; exact ⟨[_], [_, _], rfl, rfl, ⟨[_], [_], rfl, rfl, rfl⟩⟩
section
open Go.Proofs Go.Shelf Go.RowKit Go.Lib
set_option maxHeartbeats 4000000 in
theorem Hand.dfn0_slices_DeleteFunc_Inode_impl_swept_in (w : World) (b : Option Addr) (n c mb : Nat) (Q : World → Prop) (hix : Calls Tryz.prog 248 #[.slice b n c, .func (.func 283) #[] #[.pointer (some ⟨mb, 0, none⟩)]] w fun e w' => e = .returned (.int .i64 (-1)) ∧ Q w') :
  Calls Tryz.prog 282 #[.slice b n c, .func (.func 283) #[] #[.pointer (some ⟨mb, 0, none⟩)]] w (fun e w' => e = .returned (.slice b n c) ∧ Q w') := by
 have mixed : Tryz.prog.follows .mixedOrders = true := by kernel_rfl
 go_enter Tryz.func282, Tryz.ntmps282
 go_wp2_with (go_at_call 248; refine hix.mono ?_; rintro e w' ⟨rfl, hI⟩)
 go_ret
 exact ⟨rfl, hI⟩
set_option maxHeartbeats 4000000 in
set_option maxRecDepth 100000 in
theorem Hand.dfn_slices_DeleteFunc_Inode_impl_swept_in (w : World) (b off n c i0 mb : Nat) (cur : Array Value) (X : List Value) (E0 : Nat → Int) (E1 : Nat → Zb) (E2 : Nat → Int) (pr : Nat → Bool) (Inv : Nat → Nat → World → Prop)
  (hix : Calls Tryz.prog 248 #[.slice (some ⟨b, off, none⟩) n c, .func (.func 283) #[] #[.pointer (some ⟨mb, 0, none⟩)]] w fun e w' => e = .returned (.int .i64 i0) ∧ Inv i0 (i0 + 1) w')
  (hi0 : i0 < n) (hn63 : n ≤ 9223372036854775806) (hnc : n ≤ c)
  (hread : ∀ i j W, Inv i j W → j < n → W.cell? ⟨b, off + j * 3, none⟩ = some (.int .i64 (E0 j)) ∧ W.cell? ⟨b, off + j * 3 + 1, none⟩ = some (.string (E1 j)) ∧ W.cell? ⟨b, off + j * 3 + 2, none⟩ = some (.int .i64 (E2 j)))
  (hcall : ∀ i j W, Inv i j W → j < n → Calls Tryz.prog 283 #[.agg #[.int .i64 (E0 j), .string (E1 j), .int .i64 (E2 j)], .pointer (some ⟨mb, 0, none⟩)] (W.alloc (.cells #[.int .i64 (E0 j), .string (E1 j), .int .i64 (E2 j)] 110)) fun e W' => e = .returned (.bool (pr j)) ∧ Frm (W.alloc (.cells #[.int .i64 (E0 j), .string (E1 j), .int .i64 (E2 j)] 110)).heap.size (fun _ => False) (W.alloc (.cells #[.int .i64 (E0 j), .string (E1 j), .int .i64 (E2 j)] 110)) W')
  (hskip : ∀ i j W W', Inv i j W → j < n → pr j = true → Frm (W.alloc (.cells #[.int .i64 (E0 j), .string (E1 j), .int .i64 (E2 j)] 110)).heap.size (fun _ => False) (W.alloc (.cells #[.int .i64 (E0 j), .string (E1 j), .int .i64 (E2 j)] 110)) W' → Inv i (j + 1) W')
  (hrow : ∀ i j W W', Inv i j W → j < n → Frm (W.alloc (.cells #[.int .i64 (E0 j), .string (E1 j), .int .i64 (E2 j)] 110)).heap.size (fun _ => False) (W.alloc (.cells #[.int .i64 (E0 j), .string (E1 j), .int .i64 (E2 j)] 110)) W' → ∃ cur', W'.heap[b]? = some (.cells cur' 110 (0, 0)) ∧ off + c * 3 ≤ cur'.size)
  (hkeep : ∀ i j W W', Inv i j W → j < n → pr j = false → Frm (W.alloc (.cells #[.int .i64 (E0 j), .string (E1 j), .int .i64 (E2 j)] 110)).heap.size (fun _ => False) (W.alloc (.cells #[.int .i64 (E0 j), .string (E1 j), .int .i64 (E2 j)] 110)) W' →
   Inv (i + 1) (j + 1) (((W'.setCell ⟨b, off + i * 3, none⟩ (.int .i64 (E0 j))).setCell ⟨b, off + i * 3 + 1, none⟩ (.string (E1 j))).setCell ⟨b, off + i * 3 + 2, none⟩ (.int .i64 (E2 j))))
  (Post : Nat → World → Prop)
  (hend : ∀ i W, Inv i n W → ∃ W2, (∀ ty dc, (Builtin.clear_ #[49] ty #[.slice (some ⟨b, off + i * 3, none⟩) (n - i) dc]).run Tryz.prog W = .ok (.tuple #[]) W2) ∧ Post i W2)
  (hij : ∀ i j W, Inv i j W → i < j) :
  Calls Tryz.prog 282 #[.slice (some ⟨b, off, none⟩) n c, .func (.func 283) #[] #[.pointer (some ⟨mb, 0, none⟩)]] w (fun e w' => ∃ i, e = .returned (.slice (some ⟨b, off, none⟩) i c) ∧ Post i w') := by
 have hne1 : ((i0 : Int) == -1) = false := beq_eq_false_iff_ne.2 (by omega)
 have HC : Aside _ := hcall
 have HR : Aside _ := hread
 clear hcall hread
 have HROW0 : Aside _ := hrow
 have HSK0 : Aside _ := hskip
 have HKP0 : Aside _ := hkeep
 have HEND : Aside _ := hend
 clear hrow hskip hkeep hend
 have mixed : Tryz.prog.follows .mixedOrders = true := by kernel_rfl
 go_enter Tryz.func282, Tryz.ntmps282
 go_wp2_with (go_at_call 248; refine hix.mono ?_; rintro e w' ⟨rfl, hI⟩)
 go_loopg [5, 6, 7] n (fun gg s5 s6 _ wr => ∃ (i j : Nat), s5 = .int .i64 i ∧ s6 = .int .i64 j ∧ j ≤ n ∧ n - j ≤ gg ∧ Aside (Inv i j wr))
 case atStart => exact ⟨i0, i0 + 1, rfl, by go_num, by omega, by omega, hI⟩
 case round =>
  obtain ⟨i, j, rfl, rfl, hjn, hgg, I⟩ := hrel
  by_cases hlt : j < n
  ·have hltz : (j : Int) < (n : Int) := by omega
   obtain ⟨c0, c1, c2⟩ := HR.out i j wr I.out hlt
   have hcall := HC.out i j wr I.out hlt
   have hil := hij i j wr I.out
   have HROW : Aside _ := HROW0.out i j wr
   have HSK : Aside _ := HSK0.out i j wr
   obtain ⟨e0, C0⟩ : ∃ e, Aside (E0 j = e) := ⟨_, rfl⟩
   rw [C0.out] at c0 hcall
   obtain ⟨e1, C1⟩ : ∃ e, Aside (E1 j = e) := ⟨_, rfl⟩
   rw [C1.out] at c1 hcall
   obtain ⟨e2, C2⟩ : ∃ e, Aside (E2 j = e) := ⟨_, rfl⟩
   rw [C2.out] at c2 hcall
   cases hq : pr j with
   | true =>
    rw [hq] at hcall
    go_wp2_with (go_at_call 283; refine hcall.mono ?_; rintro e w' ⟨rfl, hf⟩)
    go_roundg (n - (j + 1))
    case measure => omega
    case rel =>
     refine ⟨i, j + 1, rfl, by go_num, by omega, Nat.le_refl _, HSK.out w' I.out hlt hq ?_⟩
     rw [C0.out, C1.out, C2.out]
     exact hf
   | false =>
    rw [hq] at hcall
    have hpost : ∀ w', Frm (wr.alloc (.cells #[.int .i64 e0, .string e1, .int .i64 e2] 110)).heap.size (fun _ => False) (wr.alloc (.cells #[.int .i64 e0, .string e1, .int .i64 e2] 110)) w' →
      w'.cell? ⟨wr.heap.size, 0, none⟩ = some (.int .i64 e0) ∧ w'.cell? ⟨wr.heap.size, 1, none⟩ = some (.string e1) ∧ w'.cell? ⟨wr.heap.size, 2, none⟩ = some (.int .i64 e2) ∧ (∃ u, w'.cell? ⟨b, off + i * 3, none⟩ = some u) ∧ (∃ u, w'.cell? ⟨b, off + i * 3 + 1, none⟩ = some u) ∧ (∃ u, w'.cell? ⟨b, off + i * 3 + 2, none⟩ = some u) ∧ w'.frozen? ⟨b, off + i * 3, none⟩ = false ∧ w'.frozen? ⟨b, off + i * 3 + 1, none⟩ = false ∧ w'.frozen? ⟨b, off + i * 3 + 2, none⟩ = false := by
     intro w' hf
     obtain ⟨cur', hcur', hfit'⟩ := HROW.out w' I.out hlt (by rw [C0.out, C1.out, C2.out]; exact hf)
     have hwn : (wr.alloc (.cells #[.int .i64 e0, .string e1, .int .i64 e2] 110)).heap[wr.heap.size]? = some (.cells #[.int .i64 e0, .string e1, .int .i64 e2] 110 (0, 0)) := by show (wr.heap.push _)[wr.heap.size]? = _; simp
     refine ⟨hf.cell0 ?_, hf.cell0 ?_, hf.cell0 ?_, ?_, ?_, ?_, ?_, ?_, ?_⟩
     ·rw [cell_of_row _ _ _ _ 110 (0, 0) hwn]; rfl
     ·rw [cell_of_row _ _ _ _ 110 (0, 0) hwn]; rfl
     ·rw [cell_of_row _ _ _ _ 110 (0, 0) hwn]; rfl
     ·exact ⟨_, by rw [cell_of_row w' b _ cur' 110 (0, 0) hcur', Array.getElem?_eq_getElem (by omega)]⟩
     ·exact ⟨_, by rw [cell_of_row w' b _ cur' 110 (0, 0) hcur', Array.getElem?_eq_getElem (by omega)]⟩
     ·exact ⟨_, by rw [cell_of_row w' b _ cur' 110 (0, 0) hcur', Array.getElem?_eq_getElem (by omega)]⟩
     ·simp [World.frozen?, hcur']
     ·simp [World.frozen?, hcur']
     ·simp [World.frozen?, hcur']
    go_wp2_with (go_at_call 283; refine hcall.mono ?_; rintro e w' ⟨rfl, hf⟩; obtain ⟨d0, d1, d2, ⟨u0, g0⟩, ⟨u1, g1⟩, ⟨u2, g2⟩, f0, f1, f2⟩ := hpost w' hf)
    go_roundg (n - (j + 1))
    case measure => omega
    case rel =>
     refine ⟨i + 1, j + 1, by go_num, by go_num, by omega, Nat.le_refl _, (show Aside _ from ?_)⟩
     have := HKP0.out i j wr w' I.out hlt hq (by rw [C0.out, C1.out, C2.out]; exact hf)
     rw [C0.out, C1.out, C2.out] at this
     exact this
  ·obtain rfl : j = n := by omega
   have hltz : ¬ (j : Int) < (j : Int) := by omega
   have hil := hij i j wr I.out
   obtain ⟨W2, hcl, hp⟩ := HEND.out i wr I.out
   have HP : Aside _ := hp
   clear hp
   have hic : i ≤ c := by omega
   have hci : ¬ (c = i) := by omega
   have hij1 : (i : Int) ≤ (j : Int) := by omega
   go_wp2
   go_ret
   exact ⟨i, rfl, HP.out⟩
end
def Poj : T15 := (0, ⟨#[]⟩, 0)
def Pan.f (a0 : List T15) (a1 : T47) : Option (List T15) := delG (Pab.f k a0 a1) (fun x => Pea.f k x a1) a0
def Pan.sig : Sig := ⟨[.give false K24, .clo 283 false 53 K23], [⟨false, K24, true⟩]⟩
def Pan.fn : Fn := ⟨Pan.sig, fun k (x : List T15 × T47) => Pan.f k x.1 x.2⟩
theorem Pan.ok (k : Nat) : FnOk Tryz.prog k 282 Pan.fn := by
 refine ⟨Qqo Tryz.func282 (by kernel_rfl) (by kernel_rfl), ?_⟩
 intro w S vs vss rows (x : List T15 × T47) (r : List T15) hsem hargs hparts hS hbn hbn2 hbS hnd hrows hgl
 obtain ⟨xs, cap⟩ := x
 change Pan.f k xs cap = some r at hsem
 unfold Pan.f delG at hsem
 obtain ⟨idx, hidx, hsem⟩ := Option.bind_eq_some_iff.1 hsem
 have hal := hargs.length
 obtain ⟨v0, v1, rfl⟩ := list2 hal.1
 obtain ⟨l0, l1, rfl⟩ := list2 hal.2
 obtain ⟨ha0, ⟨mb, rfl, hmb⟩, _⟩ := hargs
 simp only [Bool.false_eq_true, if_false] at ha0
 subst ha0
 obtain ⟨q0, qs, r1, r2, he, rfl, hp0, hp⟩ := hparts
 simp only [List.cons.injEq] at he
 obtain ⟨rfl, rfl⟩ := he
 obtain ⟨q1, he, hp1⟩ := hp
 simp only [List.cons.injEq, and_true] at he
 subst he
 have hp0 : OwnT w S K24 xs [v0] r1 := hp0
 obtain ⟨hp1, rfl⟩ : RdT w S K23 cap l1 ∧ r2 = [] := hp1
 have hrd0 : RdT w (fun b => S b ∨ b ∈ Blks r1) K24 xs [v0] := by
  obtain ⟨a, n, cp, h1, h2, h3, _⟩ := hp0
  refine ⟨a, n, cp, h1, h3.mono (fun b hb => .inr ?_) (fun _ _ => rfl) (fun x l => RdT.mono (fun b hb => .inl hb) fun _ _ => rfl)⟩
  subst h2
  cases a with
  | none => cases hb
  | some ad => simpa [Blks] using hb.symm
 obtain ⟨a, c, X, hl, rfl, hcap, hnil, hXl, hX, hblk⟩ := Qrc hp0 (by decide)
 simp only [List.cons.injEq, and_true] at hl
 subst hl
 simp only [List.append_nil] at hnd hrows ⊢
 have hcap : xs.length ≤ c := hcap
 have hix : Calls Tryz.prog 248 #[.slice a xs.length c, .func (.func 283) #[] #[.pointer (some ⟨mb, 0, none⟩)]] w (fun e w' => e = .returned (.int .i64 idx) ∧ Frm w.heap.size (fun _ => False) w w') := by
  refine ((Pab.ok k).run w (fun b => S b ∨ b ∈ Blks [(a.map (·.block), .slice a xs.length c)]) [.slice a xs.length c, .func (.func 283) #[] #[.pointer (some ⟨mb, 0, none⟩)]] [[.slice a xs.length c], l1] [] (xs, cap) idx hidx
   ⟨rfl, ⟨mb, rfl, hmb⟩, trivial⟩ ⟨_, _, [], [], rfl, rfl, ⟨hrd0, rfl⟩, _, rfl, ⟨hp1.mono (fun b hb => .inl hb) (fun _ _ => rfl), rfl⟩⟩
   (fun b hb => hb.elim (hS b) fun hb => (hrows b hb).2.1) List.nodup_nil (fun b hb => nomatch hb) (fun b hb => ?_) List.nodup_nil (fun b hb => nomatch hb) (hgl.mono (fun b hb => .inl hb) fun _ _ => rfl)).mono ?_
  ·exact fun h => h.elim (hbS b hb) fun h => (hrows b h).2.2 hb
  ·rintro e w' ⟨rv, S', vr, vo, rows', rfl, hfrm, _, _, _, hpr, hres, ho, _, _⟩
   obtain rfl : vo = [] := ho
   match vr, hres with
   | [l], hres =>
    have h1 := hres.1
    simp only [Bool.false_eq_true, if_false] at h1
    subst h1
    have := Qrp (own := true) (.inr ⟨_, rfl⟩) hpr
    simp only [RdT, List.cons.injEq, and_true] at this
    subst this
    exact ⟨rfl, hfrm.os, hfrm.tape, hfrm.output, rfl, hfrm.size, fun b hb _ => hfrm.block b hb fun h => h.elim (fun h => nomatch h) (fun h => nomatch h)⟩
   | [], hres => exact hres.elim
   | _ :: _ :: _, hres => exact hres.2.elim
 have hmS : ¬ S mb := hbS mb (List.mem_singleton.2 rfl : mb ∈ [mb])
 by_cases hi1 : idx = -1
 ·subst hi1
  rw [if_pos rfl] at hsem
  simp only [Zj] at hsem
  subst hsem
  refine (Hand.dfn0_slices_DeleteFunc_Inode_impl_swept_in w a xs.length c mb _ hix).mono ?_
  rintro en w' ⟨rfl, hfrm⟩
  refine ⟨_, S, [[_]], [], [(a.map (·.block), .slice a xs.length c)], rfl, ⟨hfrm.os, hfrm.tape, hfrm.output, rfl, hfrm.size, fun b hb _ => hfrm.block b hb id⟩, fun _ h => h, fun _ h => .inl h, fun b hb => Nat.lt_of_lt_of_le (hS b hb) hfrm.size, ⟨_, rfl, ?_⟩, ⟨rfl, trivial⟩, rfl, hnd, fun b hb => ⟨(hrows b hb).1, Nat.lt_of_lt_of_le (hrows b hb).2.1 hfrm.size, (hrows b hb).2.2, .inl hb⟩⟩
  exact OwnT.mono (fun _ h => h) (fun b hb => hfrm.block b (hS b hb) id) (fun b hb => hfrm.block b (hrows b hb).2.1 id) hp0
 have hrows : ∀ b ∈ Blks [(a.map (·.block), .slice a xs.length c)], ¬ S b ∧ b < w.heap.size ∧ b ≠ mb := fun b hb => ⟨(hrows b hb).1, (hrows b hb).2.1, fun e => (hrows b hb).2.2 (List.mem_singleton.2 e : b ∈ [mb])⟩
 rw [if_neg hi1] at hsem
 split at hsem
 case isFalse => cases hsem
 rename_i hc
 obtain ⟨h0, hlt, hbig⟩ := hc
 obtain ⟨i0, rfl⟩ : ∃ n : Nat, idx = n := ⟨idx.toNat, by omega⟩
 have hlt : i0 < xs.length := by exact_mod_cast hlt
 simp only [Zn] at hsem
 obtain ⟨rest, hrest, rfl⟩ := Option.map_eq_some_iff.1 hsem
 obtain ⟨hp, rfl⟩ := Qpz hrest
 obtain ⟨q, hq⟩ : ∃ q : T15 → Bool, q = fun x => (Pea.f k x cap).getD false := ⟨_, rfl⟩
 have hpq : ∀ x ∈ xs.drop (i0 + 1), Pea.f k x cap = some (q x) := fun x hx => by obtain ⟨b, hb⟩ := hp x hx; simp [hq, hb]
 have hfin : xs.take i0 ++ (xs.drop (i0 + 1)).filter (fun x => !(Pea.f k x cap).getD false) = Qjk q xs i0 (xs.length - (i0 + 1)) := by
  unfold Qjk
  rw [List.take_of_length_le (l := xs.drop (i0 + 1)) (by rw [List.length_drop]; omega), hq]
 rw [hfin]
 cases a with
 | none => obtain ⟨rfl, _⟩ := hnil rfl; exact absurd hlt (Nat.not_lt_zero _)
 | some ad =>
  obtain ⟨b, off, asp⟩ := ad
  obtain ⟨hsp, cur, hcur, hfit, hXc⟩ := hblk _ rfl
  simp only at hsp hcur hfit hXc
  subst hsp
  have hfit : off + c * 3 ≤ cur.size := hfit
  have hXf := hX.flat (cv := Pnb) Pjl (fun x l h => by obtain ⟨_, _, rfl, rfl, ⟨_, _, rfl, rfl, rfl⟩⟩ := h; rfl)
  subst hXf
  have hbb : b ∈ Blks [((some (⟨b, off, none⟩ : Addr)).map (·.block), .slice (some ⟨b, off, none⟩) xs.length c)] := by simp [Blks]
  have hbS' := hrows b hbb
  have hmbb : mb ≠ b := fun h => hbS'.2.2 h.symm
  have hmlt : mb < w.heap.size := (Array.getElem?_eq_some_iff.1 hmb).1
  obtain ⟨z, hzv, hzs, hz1⟩ := Hand.zeroInode
  have key := Hand.dfn_slices_DeleteFunc_Inode_impl_swept_in w b off xs.length c i0 mb cur [] (fun j => ((xs[j]?).getD Poj).1) (fun j => ((xs[j]?).getD Poj).2.1) (fun j => ((xs[j]?).getD Poj).2.2) (fun j => q ((xs[j]?).getD Poj))
   (fun i j W => ∃ d, j = i0 + 1 + d ∧ i = (Qjk q xs i0 d).length ∧ DInv 110 3 Pnb w b off cur.size xs (Qjk q xs i0 d) j W)
   (hix.mono (by
    rintro e w' ⟨rfl, hf⟩
    refine ⟨rfl, 0, rfl, ?_, ⟨⟨hf.os, hf.tape, hf.output, rfl, hf.size, fun k hk _ => hf.block k hk id⟩, cur, (hf.block b hbS'.2.1 id).trans hcur, rfl, fun q v hq => ?_, fun q v _ hq => hXc q v hq⟩⟩
    ·simp [Qjk]; omega
    ·simp only [Qjk, List.take_zero, List.filter_nil, List.append_nil] at hq
     refine hXc q v ?_
     rw [← List.take_append_drop i0 xs, List.flatMap_append, List.getElem?_append_left (List.getElem?_eq_some_iff.1 hq).1]
     exact hq))
   hlt (by omega) hcap
   (fun i j W hI hj => by
    obtain ⟨d, rfl, rfl, h⟩ := hI
    have hx : xs[i0 + 1 + d]? = some xs[i0 + 1 + d] := Zg hj
    exact ⟨by have := h.read (Pjl) hx (t := 0) rfl; simpa [hx] using this, by have := h.read (Pjl) hx (t := 1) rfl; simpa [hx] using this, by have := h.read (Pjl) hx (t := 2) rfl; simpa [hx] using this⟩)
   (fun i j W hI hj => by
    obtain ⟨d, rfl, rfl, h⟩ := hI
    have hx : xs[i0 + 1 + d]? = some xs[i0 + 1 + d] := Zg hj
    have hpx := hpq _ (List.mem_of_getElem? (by rw [List.getElem?_drop]; exact hx))
    simp only [hx, Option.getD_some]
    have hWs := h.frm.size
    have hkeep : ∀ k, k < w.heap.size → k ≠ b → (W.alloc (.cells (Pnb xs[i0 + 1 + d]).toArray 110)).heap[k]? = w.heap[k]? := fun k hk hkb => by
     show (W.heap.push _)[k]? = _
     rw [Array.getElem?_push, if_neg (by omega)]
     exact h.frm.block k hk hkb
    refine ((Pea.ok k).run _ S [.agg (Pnb xs[i0 + 1 + d]).toArray, .pointer (some ⟨mb, 0, none⟩)] [Pnb xs[i0 + 1 + d], l1] [] (xs[i0 + 1 + d], cap) (q xs[i0 + 1 + d]) hpx
     ⟨rfl, ⟨mb, rfl, (hkeep mb hmlt hmbb).trans hmb⟩, trivial⟩
     ⟨_, _, [], [], rfl, rfl, ⟨Puj _, rfl⟩, _, rfl, ⟨hp1.mono (fun _ h => h) (fun s hs => hkeep s (hS s hs) fun e => hbS'.1 (e ▸ hs)), rfl⟩⟩
     (fun s hs => by have := hS s hs; show s < (W.heap.push _).size; simp; omega) List.nodup_nil (fun b hb => nomatch hb) (fun s hs => by have hs : s = mb := List.mem_singleton.1 hs; rw [hs]; exact hmS) List.nodup_nil (fun b hb => nomatch hb) (hgl.mono (fun _ h => h) (fun s hs => hkeep s (hS s hs) fun e => hbS'.1 (e ▸ hs)))).mono ?_
    rintro e w' ⟨rv, S', vr, vo, rows', rfl, hfrm, _, _, _, hpr, hres, ho, _, _⟩
    obtain rfl : vo = [] := ho
    match vr, hres with
    | [l], hres =>
     have h1 := hres.1
     simp only [Bool.false_eq_true, if_false] at h1
     subst h1
     have := Qrp (own := true) (.inl rfl) hpr
     simp only [RdT, List.cons.injEq, and_true] at this
     subst this
     exact ⟨rfl, hfrm.os, hfrm.tape, hfrm.output, rfl, hfrm.size, fun b hb _ => hfrm.block b hb fun h => h.elim (fun h => nomatch h) (fun h => nomatch h)⟩
    | [], hres => exact hres.elim
    | _ :: _ :: _, hres => exact hres.2.elim)
   (fun i j W W' hI hj hpr hf => by
    obtain ⟨d, rfl, rfl, h⟩ := hI
    have hx : xs[i0 + 1 + d]? = some xs[i0 + 1 + d] := Zg hj
    simp only [hx, Option.getD_some] at hpr
    refine ⟨d + 1, rfl, ?_, ?_⟩ <;> rw [Qqe hx, hpr, Zy]
    exact (h.call hf).skip)
   (fun i j W W' hI hj hf => by
    obtain ⟨d, rfl, rfl, h⟩ := hI
    obtain ⟨cur', h1, h2, _⟩ := (h.call hf).row
    exact ⟨cur', h1, by omega⟩)
   (fun i j W W' hI hj hpr hf => by
    obtain ⟨d, rfl, rfl, h⟩ := hI
    have hx : xs[i0 + 1 + d]? = some xs[i0 + 1 + d] := Zg hj
    simp only [hx, Option.getD_some] at hpr hf ⊢
    have hkl := Qqq (q := q) (xs := xs) (i0 := i0) (d := d)
    refine ⟨d + 1, rfl, ?_, ?_⟩ <;> rw [Qqe hx, hpr, Zz]
    ·simp
    ·exact (h.call hf).keep Pjl (c := c) xs[i0 + 1 + d] (by omega) (by omega) (by omega))
   (fun i W2 => i = (Qjk q xs i0 (xs.length - (i0 + 1))).length ∧ Frm w.heap.size (fun x => x = b) w W2 ∧ ∃ cur', W2.heap[b]? = some (.cells cur' 110 (0, 0)) ∧ cur'.size = cur.size ∧ ∀ q' v, ((Qjk q xs i0 (xs.length - (i0 + 1))).flatMap Pnb)[q']? = some v → cur'[off + q']? = some v)
   (fun i W hI => by
    obtain ⟨d, hd, rfl, h⟩ := hI
    obtain rfl : d = xs.length - (i0 + 1) := by omega
    have hkl := Qqq (q := q) (xs := xs) (i0 := i0) (d := xs.length - (i0 + 1))
    obtain ⟨K, hK⟩ : ∃ K, K = Qjk q xs i0 (xs.length - (i0 + 1)) := ⟨_, rfl⟩
    rw [← hK] at h hkl ⊢
    obtain ⟨cur', h1, h2, h3, h4⟩ := h.row
    have hflat := Qnb Pjl K
    have hzl : (Builtin.zeroCells z.cells (xs.length - K.length)).toList.length = (xs.length - K.length) * 3 := by rw [Array.length_toList, size_zeroCells, hzs]
    refine ⟨_, fun ty dc => Qqm W 49 110 ty z Tryz.underlying49 hzv b (off + K.length * 3) (xs.length - K.length) dc cur' 110 h1 (by rw [hzl, h2]; omega) (hz1 _) (by omega), rfl, ?_, ?_⟩
    ·exact ⟨h.frm.os, h.frm.tape, h.frm.output, rfl, by rw [size_setRow]; exact h.frm.size, fun k hk hm => (setRow_other _ _ _ _ hm).trans (h.frm.block k hk hm)⟩
    ·refine ⟨_, setRow_heap _ b cur' _ 110 (0, 0) h1, ?_, fun q' v hv => ?_⟩
     ·simp only [List.size_toArray, List.length_append, List.length_take, List.length_drop, Array.length_toList, hzl] at *; omega
     ·have hlt' := (List.getElem?_eq_some_iff.1 hv).1
      simp only [List.getElem?_toArray]
      rw [Qke cur'.toList _ (off + K.length * 3) (off + q') (by rw [hzl]; simp; omega), if_pos (by omega)]
      simpa using h3 q' v hv)
   (fun i j W hI => by
    obtain ⟨d, rfl, rfl, h⟩ := hI
    have hkl := Qqq (q := q) (xs := xs) (i0 := i0) (d := d)
    omega)
  refine key.mono ?_
  rintro en w' ⟨i, rfl, rfl, hfrm, cur', hcur', hsz', hcells⟩
  have hkl := Qqq (q := q) (xs := xs) (i0 := i0) (d := xs.length - (i0 + 1))
  have hpost : Qhs 110 3 w (some b) ((Qjk q xs i0 (xs.length - (i0 + 1))).flatMap Pnb) (Qjk q xs i0 (xs.length - (i0 + 1))).length (.returned (.slice (some ⟨b, off, none⟩) (Qjk q xs i0 (xs.length - (i0 + 1))).length c)) w' :=
   ⟨b, off, c, cur', rfl, by omega, hcur', by omega, hcells, ⟨hfrm.os, hfrm.tape, hfrm.output, rfl, hfrm.size, fun k hk hm => hfrm.block k hk fun e => hm (by rw [e])⟩, .inl rfl⟩
  obtain ⟨rv, rows', h1, h2, h3, h4, h5, h6⟩ := Qri (e := 110) (c := K16) (S := S) (rows := [((some (⟨b, off, none⟩ : Addr)).map (·.block), .slice (some ⟨b, off, none⟩) xs.length c)]) hpost (FlatR.of_flat (rd := RdT w S K16) (size := 3) Pjl (xs := Qjk q xs i0 (xs.length - (i0 + 1))) fun x _ => Puj x) rfl hS
   (fun x hx => by cases hx; exact hbb) (fun x hx => ⟨(hrows x hx).1, (hrows x hx).2.1⟩) rfl
  refine ⟨rv, S, [[rv]], [], rows', h1, ⟨h2.os, h2.tape, h2.output, rfl, h2.size, fun k hk hm => h2.block k hk fun h => h.elim (fun h => nomatch h) fun h => hm (.inr h)⟩, fun _ h => h, fun _ h => .inl h, h3, h4, ⟨rfl, trivial⟩, rfl, h5, fun x hx => ⟨(h6 x hx).1, (h6 x hx).2.1, fun h => ?_, (h6 x hx).2.2.2⟩⟩
  have hxm : x = mb := List.mem_singleton.1 h
  rcases (h6 x hx).2.2.2 with h' | h'
  ·exact (hrows x h').2.2 hxm
  ·omega
def Pmo.f (a0 : T1) : Option T1 :=
 (Pan.f k a0.2.2.1 (a0.1, a0.2.1, (), a0.2.2.2)).bind fun r1 => some (a0.1, a0.2.1, r1, a0.2.2.2)
theorem Pmo.ok : Yg 230 ⟨⟨[.give true K2], [.t K2]⟩, Pmo.f⟩ := Yq 9 Yv (.m 3 .l) Tryz.func230 (Yc Pan.ok Yn)
def Pjr.f (a0 : T1) : Option T27 :=
 (Pbe.f k a0).bind fun r1 => bif !r1 then some ((0, 0, [], [], []), 1) else (Pbx.f k a0).bind fun r2 => (Pgb.f k a0).bind fun r3 => (Pmo.f k (r2.1, r2.2.1, r2.2.2.1, r3, [])).bind fun r4 => some (r4, 0)
theorem Pjr.ok : Yg 281 ⟨⟨[.w K2], [.t K2, .f K0]⟩, Pjr.f⟩ := Yq 17 Yv (.n (.seq .c (.m 4 .l))) Tryz.func281 (Yc Pbe.ok (Yc Pbx.ok (Yc Pgb.ok (Yc Pmo.ok Yn))))
def Pkx.f (a0 : T1) (a1 : T7) : Option T27 :=
 bif decide (a1.1 = 1) then (Pnh.f k a0 a1.2.1).bind fun r1 => some r1 else bif decide (a1.1 = 2) then (Pok.f k a0 a1.2.1 a1.2.2.2).bind fun r2 => some r2 else bif decide (a1.1 = 3) then (Pni.f k a0 a1.2.1).bind fun r3 => some r3 else bif decide (a1.1 = 4) then (Pkz.f k a0 a1.2.1 a1.2.2.1).bind fun r4 => some r4 else bif decide (a1.1 = 5) then (Png.f k a0 a1.2.1).bind fun r5 => some r5 else bif decide (a1.1 = 6) then (Pjr.f k a0).bind fun r6 => some r6 else (Pbe.f k a0).bind fun r7 => bif !r7 then some ((0, 0, [], [], []), 1) else (Pbx.f k a0).bind fun r8 => some (r8, 1)
theorem Pkx.ok : Yg 224 ⟨⟨[.w K2, .w K11], [.t K2, .f K0]⟩, Z2 Pkx.f⟩ := Yq 64 Yv (.n (.seq (.n (.blk (.n (.cond (.n .l) (.n (.cond (.n .l) (.n (.cond (.n .l) (.n (.cond (.n .l) (.n (.cond (.n .l) .c)))))))))))) (.seq .c (.n .l)))) Tryz.func224 (Yc Pnh.ok (Yc Pok.ok (Yc Pni.ok (Yc Pkz.ok (Yc Png.ok (Yc Pjr.ok (Yc Pbe.ok (Yc Pbx.ok Yn))))))))
def Pcv.b0 (s : List T7 × Int × T19) : Option T65 :=
 bif decide (s.2.2.2.2.1 < s.2.1) then bif decide (s.2.2.2.2.1 < (s.1.length : Int)) then (inb? s.1.length s.2.2.2.2.1).bind fun j1 => (s.1[j1]?).bind fun y2 => (Pkx.f k s.2.2.2.2.2.2 y2).bind fun r3 => bif !decide (r3.2 = 0) then some (.inr (.inr (s.2.2.2.2.2.2, s.2.2.2.2.1, r3.2))) else some (.inl (s.1, s.2.1, s.2.2.1, s.2.2.2.1, Zr (s.2.2.2.2.1 + 1), s.2.2.2.2.2.1, r3.1)) else some (.inr (.inl (s.1, s.2.1, s.2.2.1, s.2.2.2.1, s.2.2.2.2.2))) else some (.inr (.inl (s.1, s.2.1, s.2.2.1, s.2.2.2.1, s.2.2.2.2.2)))
def Pcv.d0 (k : Nat) (y : List T7 × T19) : Option T50 :=
 some (y.2.2.2.2.2, (if (if (y.1.length : Int) < y.2.1 then (y.1.length : Int) else y.2.1) > 0 then if (y.1.length : Int) < y.2.1 then (y.1.length : Int) else y.2.1 else 0), 0)
def Pcv.f (a0 : T1) (a1 : List T7) (a2 : Int) : Option T50 :=
 (Pbe.f k a0).bind fun r1 => bif !r1 then some ((0, 0, [], [], []), 0, 1) else (Pbx.f k a0).bind fun r2 => bif decide (20 < (a1.length : Int)) then some (r2, 0, 1) else (iter (X := (List T7 × T19) ⊕ T50) (Pcv.b0 k) k (a1, a2, 0, 0, 0, (0, 0, [], [], []), r2)).bind fun | .inl y => Pcv.d0 k y | .inr o => some o
theorem Pcv.ok : Yg 120 ⟨⟨[.w K2, .v K28, .v K0], [.t K2, .f K0, .f K0]⟩, Z3 Pcv.f⟩ := Yq 55 Yv (.n (.seq .c (.n (.seq .c (.seq (.n (.lp [.s 1 K28, .s 2 K0, .ptr 6 1001, .s 7 K0, .s 8 K0, .ptr 9 4002, .s 10 K0, .box 1001 53 K2 true false, .box 4002 53 K2 true false] 447 (.seq (.n (.cond .l .l)) (.seq (.blk (.n (.seq .c .l))) .l)))) (.n .l)))))) Tryz.func120 (Yc Pbe.ok (Yc Pbx.ok (Yc Pkx.ok Yn)))
def Pav.c3 (y : Bool × List T7 × T25) : Option ((Bool × T25) ⊕ T37) :=
 (Pjp.f k y.2.2.1.2.2.2.2.2.2.1 y.2.2.2.1.1).bind fun r1 => (app? (limOf 56) y.2.1 r1).bind fun l2 => (Pcv.f k y.2.2.1.2.2.2.2.2.2.1 l2 (l2.length : Int)).bind fun r3 => bif decide (r3.2.1 < (l2.length : Int)) then some (.inr (false, y.2.2.1.1, y.2.2.1.2.1, y.2.2.1.2.2.1, y.2.2.1.2.2.2.1, y.2.2.1.2.2.2.2.1, y.2.2.1.2.2.2.2.2.1, r3.1, y.2.2.1.2.2.2.2.2.2.2)) else some (.inl (y.1, (y.2.2.1.1, y.2.2.1.2.1, y.2.2.1.2.2.1, y.2.2.1.2.2.2.1, y.2.2.1.2.2.2.2.1, y.2.2.1.2.2.2.2.2.1, r3.1, y.2.2.1.2.2.2.2.2.2.2), y.2.2.2))
def Pav.c4 (k : Nat) (y : Bool × T25) : Option T37 :=
 some (true, y.2.1.1, y.2.1.2.1, true, y.2.2.2.1, y.2.2.2.2, y.2.2.1.2.1, y.2.1.2.2.2.2.2.2.1, (-1), 0, 0)
def Pav.c2 (y : Bool × Bool × Bool × T25) : Option T37 :=
 bif !y.2.2.1 then some (false, y.2.2.2.1) else Option.bind (α := (Bool × T25) ⊕ T37) (bif y.2.1 then Option.bind (α := (Bool × List T7 × T25) ⊕ T37) ((Pbf.f k y.2.2.2.1.2.2.2.2.2.2.1 Zl0).bind fun r1 => bif decide (0 ≤ r1) then (app? (limOf 56) ([]) ([(5, Zl0, Ze, Ze)])).bind fun l2 => some (.inl (y.1, l2, y.2.2.2)) else some (.inl (y.1, [], y.2.2.2))) fun | .inl y => Pav.c3 k y | .inr o => some (.inr o) else bif y.2.2.2.2.1.2.2 then Option.bind (α := (Bool × List T7 × T25) ⊕ T37) ((Pbf.f k y.2.2.2.1.2.2.2.2.2.2.1 Zl0).bind fun r3 => bif decide (0 ≤ r3) then (app? (limOf 56) ([]) ([(5, Zl0, Ze, Ze)])).bind fun l4 => some (.inl (y.1, l4, y.2.2.2)) else some (.inl (y.1, [], y.2.2.2))) fun | .inl y => Pav.c3 k y | .inr o => some (.inr o) else some (.inl (y.1, y.2.2.2))) fun | .inl y => Pav.c4 k y | .inr o => some o
def Pav.c1 (y : T73) : Option T37 :=
 (Pkw.f k y.2.2.1.1 y.2.2.1.2.1 y.2.2.2.1).bind fun r1 => (Pky.f k).bind fun r2 => Option.bind (α := (Bool × Bool × Bool × T25) ⊕ T37) (bif !(decide (y.2.2.2.2.1.1 = 0) && (decide (y.2.2.2.2.1.2.1 = 0) && (decide (y.2.2.2.2.1.2.2 = Ze) && true))) then (Pah.f k y.2.2.2.2.1.2.2).bind fun r3 => bif r1.2 then some (.inl (y.1, y.2.1, r3.2, y.2.2.1, y.2.2.2, r1.1, r3.1)) else some (.inl (y.1, y.2.1, false, y.2.2.1, y.2.2.2, r1.1, r3.1)) else some (.inl (y.1, y.2.1, r1.2, y.2.2.1, y.2.2.2, r1.1, r2))) fun | .inl y => Pav.c2 k y | .inr o => some o
def Pav.c0 (y : T73) : Option T37 :=
 Option.bind (α := T73 ⊕ T37) (bif y.2.1 then some (.inl (y.1, y.2.1, y.2.2.1, (0, (-1), 0, 0, []), (0, 0, Ze), false)) else some (.inl y)) fun | .inl y => Pav.c1 k y | .inr o => some o
def Pav.f (a0 : T0) : Option T37 :=
 (Pbb.f k a0.2.2.2.2.2.2.1).bind fun r1 => bif decide (r1.2 = 1) then (Pbf.f k a0.2.2.2.2.2.2.1 Zl2).bind fun r2 => Option.bind (α := T73 ⊕ T37) (bif a0.2.2.1 then some (.inr (false, a0)) else bif !decide (r1.2 = 0) then bif !(decide (r2 < 0)) then some (.inr (false, a0)) else some (.inl (false, (decide (r2 < 0)), a0, r1.1)) else some (.inl (false, (decide (r2 < 0)), a0, r1.1))) fun | .inl y => Pav.c0 k y | .inr o => some o else Option.bind (α := T73 ⊕ T37) (bif a0.2.2.1 then some (.inr (false, a0)) else bif !decide (r1.2 = 0) then some (.inr (false, a0)) else some (.inl (false, false, a0, r1.1))) fun | .inl y => Pav.c0 k y | .inr o => some o
theorem Pav.ok : Yg 53 ⟨⟨[.box 55 K1 true true], [.f .bool]⟩, Pav.f⟩ := Yq 145 (Yk 169 K11 Yv) (.m 3 (.seq (.cut [.ptr 0 1, .s 2 .bool, .ptr 3 2008, .s 5 .bool, .box 1 55 K1 true false, .box 2008 79 K17 true false] .c) (.seq (.cut [.ptr 0 1, .s 2 .bool, .ptr 3 2008, .s 5 .bool, .box 1 55 K1 true false, .box 2008 79 K17 true false] (.n (.cond .l .l))) (.n (.n (.seq (.cut [.ptr 0 1, .s 2 .bool, .ptr 3 2008, .s 5 .bool, .ptr 6 8014, .s 7 .bool, .ptr 8 9001, .box 1 55 K1 true false, .box 2008 79 K17 true false, .box 8014 43 K4 true false, .box 9001 47 K3 true false] (.n (.cond (.n (.n .l)) .l))) (.seq .c (.seq (.cut [.ptr 0 1, .s 2 .bool, .ptr 3 2008, .ptr 6 8014, .ptr 8 9001, .box 1 55 K1 true false, .box 2008 79 K17 true false, .box 8014 43 K4 true false, .box 9001 47 K3 true false] (.n (.cond (.n (.seq (.cut [.ptr 0 1, .s 2 .bool, .ptr 3 2008, .ptr 6 8014, .ptr 8 9001, .slot 11 false K28 true, .box 1 55 K1 true false, .box 2008 79 K17 true false, .box 8014 43 K4 true false, .box 9001 47 K3 true false] (.n (.cond .l .l))) (.m 3 .c))) .l))) (.n (.n .l)))))))))) Tryz.func53 (Yc Pbb.ok (Yc Pbf.ok (Yc Pkw.ok (Yc Pky.ok (Yc Pah.ok (Yc Pjp.ok (Yc Pcv.ok Yn)))))))
def Phe.f (a0 : T0) : Option T40 :=
 (Pgg.f k a0).bind fun r1 => bif !r1 then some ((0, 0, false, (0, 0, 0, 0, 0, 0, 0, 0, [], 0, [], [], []), ([], [], []), (0, 0, Ze), (0, 0, [], [], []), 0, 0, 0), false) else (Pim.f k a0).bind fun r2 => (Pav.f k r2).bind fun r3 => some (r3.2, r3.1)
theorem Phe.ok : Yg 20 ⟨⟨[.w K1], [.t K1, .f .bool]⟩, Phe.f⟩ := Yq 15 Yv (.n (.seq .c (.m 3 .l))) Tryz.func20 (Yc Pgg.ok (Yc Pim.ok (Yc Pav.ok Yn)))
def Pjw.f (k : Nat) (a0 : T11) (a1 : T11) : Option Bool :=
 bif !decide (a0.1 = a1.1) then some false else bif !decide (a0.2 = a1.2) then some false else some true
theorem Pjw.ok : Yg 214 ⟨⟨[.w K14, .w K14], [.f .bool]⟩, Z2 Pjw.f⟩ := Yq 15 Yv (.n (.seq .c (.seq .c (.n .l)))) Tryz.func214 Yn
def Pip.f (a0 : List T11) (a1 : List T11) : Option Bool := eqL (Pjw.f k) k a0 a1
theorem Pip.ok : Yg 109 ⟨⟨[.v K22, .v K22], [.f .bool]⟩, Z2 Pip.f⟩ := Yq 27 Yv (.n (.seq .c (.seq (.n (.lp [.s 0 K22, .s 1 K22, .s 4 .bool, .s 5 K0] 4 (.seq (.n (.cond .l .l)) (.seq (.blk .c) .l)))) (.n .l)))) Tryz.func109 (Yc Pjw.ok Yn)
def Pgh.f (a0 : List Int) (a1 : List Int) : Option Bool := eqL (fun x y => some (decide (x = y))) k a0 a1
theorem Pgh.ok : Yg 110 ⟨⟨[.v K20, .v K20], [.f .bool]⟩, Z2 Pgh.f⟩ := Yq 26 Yv (.n (.seq .c (.seq (.n (.lp [.s 0 K20, .s 1 K20, .s 4 .bool, .s 5 K0] 4 (.seq (.n (.cond .l .l)) (.seq (.blk .c) .l)))) (.n .l)))) Tryz.func110 Yn
def Plb.f (a0 : T5) (a1 : T5) : Option Bool :=
 bif !decide (a0.1 = a1.1) then some false else bif !decide (a0.2.1 = a1.2.1) then some false else bif !decide (a0.2.2.1 = a1.2.2.1) then some false else bif !decide (a0.2.2.2.1 = a1.2.2.2.1) then some false else bif !decide (a0.2.2.2.2.1 = a1.2.2.2.2.1) then some false else bif !decide (a0.2.2.2.2.2.1 = a1.2.2.2.2.2.1) then some false else bif !decide (a0.2.2.2.2.2.2.1 = a1.2.2.2.2.2.2.1) then some false else bif !decide (a0.2.2.2.2.2.2.2.1 = a1.2.2.2.2.2.2.2.1) then some false else (Pip.f k a0.2.2.2.2.2.2.2.2.1 a1.2.2.2.2.2.2.2.2.1).bind fun r1 => bif !r1 then some false else bif !decide (a0.2.2.2.2.2.2.2.2.2.1 = a1.2.2.2.2.2.2.2.2.2.1) then some false else (Pgh.f k a0.2.2.2.2.2.2.2.2.2.2.1 a1.2.2.2.2.2.2.2.2.2.2.1).bind fun r2 => bif !r2 then some false else (Pgh.f k a0.2.2.2.2.2.2.2.2.2.2.2.1 a1.2.2.2.2.2.2.2.2.2.2.2.1).bind fun r3 => bif !r3 then some false else (Pgh.f k a0.2.2.2.2.2.2.2.2.2.2.2.2 a1.2.2.2.2.2.2.2.2.2.2.2.2).bind fun r4 => bif !r4 then some false else some true
theorem Plb.ok : Yg 47 ⟨⟨[.w K4, .w K4], [.f .bool]⟩, Z2 Plb.f⟩ := Yq 74 Yv (.n (.seq .c (.seq .c (.seq .c (.seq .c (.seq .c (.seq .c (.seq .c (.seq .c (.seq .c (.seq .c (.seq .c (.seq .c (.seq .c (.n .l))))))))))))))) Tryz.func47 (Yc Pip.ok (Yc Pgh.ok Yn))
def Phm.f (k : Nat) (a0 : T10) (a1 : T10) : Option Bool :=
 bif !decide (a0.1 = a1.1) then some false else bif !decide (a0.2.1 = a1.2.1) then some false else bif !decide (a0.2.2 = a1.2.2) then some false else some true
theorem Phm.ok : Yg 215 ⟨⟨[.w K18, .w K18], [.f .bool]⟩, Z2 Phm.f⟩ := Yq 20 Yv (.n (.seq .c (.seq .c (.seq .c (.n .l))))) Tryz.func215 Yn
def Pgp.f (a0 : List T10) (a1 : List T10) : Option Bool := eqL (Phm.f k) k a0 a1
theorem Pgp.ok : Yg 111 ⟨⟨[.v K26, .v K26], [.f .bool]⟩, Z2 Pgp.f⟩ := Yq 27 Yv (.n (.seq .c (.seq (.n (.lp [.s 0 K26, .s 1 K26, .s 4 .bool, .s 5 K0] 4 (.seq (.n (.cond .l .l)) (.seq (.blk .c) .l)))) (.n .l)))) Tryz.func111 (Yc Phm.ok Yn)
def Pio.f (k : Nat) (a0 : T75) (a1 : T75) : Option Bool :=
 bif !decide (a0.1 = a1.1) then some false else bif !decide (a0.2.1 = a1.2.1) then some false else bif !decide (a0.2.2.1 = a1.2.2.1) then some false else bif !decide (a0.2.2.2.1 = a1.2.2.2.1) then some false else bif !decide (a0.2.2.2.2.1 = a1.2.2.2.2.1) then some false else bif !decide (a0.2.2.2.2.2 = a1.2.2.2.2.2) then some false else some true
theorem Pio.ok : Yg 272 ⟨⟨[.w K13, .w K13], [.f .bool]⟩, Z2 Pio.f⟩ := Yq 35 Yv (.n (.seq .c (.seq .c (.seq .c (.seq .c (.seq .c (.seq .c (.n .l)))))))) Tryz.func272 Yn
def Phl.f (a0 : T9) (a1 : T9) : Option Bool :=
 bif !decide (a0.1 = a1.1) then some false else bif !decide (a0.2.1 = a1.2.1) then some false else (Pio.f k a0.2.2 a1.2.2).bind fun r1 => bif !r1 then some false else some true
theorem Phl.ok : Yg 216 ⟨⟨[.w K7, .w K7], [.f .bool]⟩, Z2 Phl.f⟩ := Yq 21 Yv (.n (.seq .c (.seq .c (.seq .c (.n .l))))) Tryz.func216 (Yc Pio.ok Yn)
def Pgo.f (a0 : List T9) (a1 : List T9) : Option Bool := eqL (Phl.f k) k a0 a1
theorem Pgo.ok : Yg 112 ⟨⟨[.v K33, .v K33], [.f .bool]⟩, Z2 Pgo.f⟩ := Yq 27 Yv (.n (.seq .c (.seq (.n (.lp [.s 0 K33, .s 1 K33, .s 4 .bool, .s 5 K0] 4 (.seq (.n (.cond .l .l)) (.seq (.blk .c) .l)))) (.n .l)))) Tryz.func112 (Yc Phl.ok Yn)
def Pmp.f (a0 : T2) (a1 : T2) : Option Bool :=
 (Pgp.f k a0.1 a1.1).bind fun r1 => bif !r1 then some false else (Pgh.f k a0.2.1 a1.2.1).bind fun r2 => bif !r2 then some false else (Pgo.f k a0.2.2 a1.2.2).bind fun r3 => bif !r3 then some false else some true
theorem Pmp.ok : Yg 48 ⟨⟨[.w K3, .w K3], [.f .bool]⟩, Z2 Pmp.f⟩ := Yq 23 Yv (.n (.seq .c (.seq .c (.seq .c (.n .l))))) Tryz.func48 (Yc Pgp.ok (Yc Pgh.ok (Yc Pgo.ok Yn)))
def Plf.f (k : Nat) (a0 : Int × T11) (a1 : Int × T11) : Option Bool :=
 bif !decide (a0.1 = a1.1) then some false else bif !decide (a0.2.1 = a1.2.1) then some false else bif !decide (a0.2.2 = a1.2.2) then some false else some true
theorem Plf.ok : Yg 49 ⟨⟨[.w K8, .w K8], [.f .bool]⟩, Z2 Plf.f⟩ := Yq 20 Yv (.n (.seq .c (.seq .c (.seq .c (.n .l))))) Tryz.func49 Yn
def Pjx.f (k : Nat) (a0 : T15) (a1 : T15) : Option Bool :=
 bif !decide (a0.1 = a1.1) then some false else bif !decide (a0.2.1 = a1.2.1) then some false else bif !decide (a0.2.2 = a1.2.2) then some false else some true
theorem Pjx.ok : Yg 217 ⟨⟨[.w K16, .w K16], [.f .bool]⟩, Z2 Pjx.f⟩ := Yq 20 Yv (.n (.seq .c (.seq .c (.seq .c (.n .l))))) Tryz.func217 Yn
def Piq.f (a0 : List T15) (a1 : List T15) : Option Bool := eqL (Pjx.f k) k a0 a1
theorem Piq.ok : Yg 113 ⟨⟨[.v K24, .v K24], [.f .bool]⟩, Z2 Piq.f⟩ := Yq 27 Yv (.n (.seq .c (.seq (.n (.lp [.s 0 K24, .s 1 K24, .s 4 .bool, .s 5 K0] 4 (.seq (.n (.cond .l .l)) (.seq (.blk .c) .l)))) (.n .l)))) Tryz.func113 (Yc Pjx.ok Yn)
def Pld.f (k : Nat) (a0 : T4) (a1 : T4) : Option Bool :=
 bif !decide (a0.1 = a1.1) then some false else bif !decide (a0.2 = a1.2) then some false else some true
theorem Pld.ok : Yg 218 ⟨⟨[.w K6, .w K6], [.f .bool]⟩, Z2 Pld.f⟩ := Yq 15 Yv (.n (.seq .c (.seq .c (.n .l)))) Tryz.func218 Yn
def Pjy.f (a0 : List T4) (a1 : List T4) : Option Bool := eqL (Pld.f k) k a0 a1
theorem Pjy.ok : Yg 114 ⟨⟨[.v K12, .v K12], [.f .bool]⟩, Z2 Pjy.f⟩ := Yq 27 Yv (.n (.seq .c (.seq (.n (.lp [.s 0 K12, .s 1 K12, .s 4 .bool, .s 5 K0] 4 (.seq (.n (.cond .l .l)) (.seq (.blk .c) .l)))) (.n .l)))) Tryz.func114 (Yc Pld.ok Yn)
def Ple.f (k : Nat) (a0 : T16) (a1 : T16) : Option Bool :=
 bif !decide (a0.1 = a1.1) then some false else bif !decide (a0.2.1 = a1.2.1) then some false else bif !decide (a0.2.2.1 = a1.2.2.1) then some false else bif !decide (a0.2.2.2 = a1.2.2.2) then some false else some true
theorem Ple.ok : Yg 219 ⟨⟨[.w K9, .w K9], [.f .bool]⟩, Z2 Ple.f⟩ := Yq 25 Yv (.n (.seq .c (.seq .c (.seq .c (.seq .c (.n .l)))))) Tryz.func219 Yn
def Pjz.f (a0 : List T16) (a1 : List T16) : Option Bool := eqL (Ple.f k) k a0 a1
theorem Pjz.ok : Yg 115 ⟨⟨[.v K31, .v K31], [.f .bool]⟩, Z2 Pjz.f⟩ := Yq 27 Yv (.n (.seq .c (.seq (.n (.lp [.s 0 K31, .s 1 K31, .s 4 .bool, .s 5 K0] 4 (.seq (.n (.cond .l .l)) (.seq (.blk .c) .l)))) (.n .l)))) Tryz.func115 (Yc Ple.ok Yn)
def Plc.f (a0 : T1) (a1 : T1) : Option Bool :=
 bif !decide (a0.1 = a1.1) then some false else bif !decide (a0.2.1 = a1.2.1) then some false else (Piq.f k a0.2.2.1 a1.2.2.1).bind fun r1 => bif !r1 then some false else (Pjy.f k a0.2.2.2.1 a1.2.2.2.1).bind fun r2 => bif !r2 then some false else (Pjz.f k a0.2.2.2.2 a1.2.2.2.2).bind fun r3 => bif !r3 then some false else some true
theorem Plc.ok : Yg 50 ⟨⟨[.w K2, .w K2], [.f .bool]⟩, Z2 Plc.f⟩ := Yq 33 Yv (.n (.seq .c (.seq .c (.seq .c (.seq .c (.seq .c (.n .l))))))) Tryz.func50 (Yc Piq.ok (Yc Pjy.ok (Yc Pjz.ok Yn)))
def Pgi.f (a0 : T0) (a1 : T0) : Option Bool :=
 bif !decide (a0.1 = a1.1) then some false else bif !decide (a0.2.1 = a1.2.1) then some false else bif !decide (a0.2.2.1 = a1.2.2.1) then some false else (Plb.f k a0.2.2.2.1 a1.2.2.2.1).bind fun r1 => bif !r1 then some false else (Pmp.f k a0.2.2.2.2.1 a1.2.2.2.2.1).bind fun r2 => bif !r2 then some false else (Plf.f k a0.2.2.2.2.2.1 a1.2.2.2.2.2.1).bind fun r3 => bif !r3 then some false else (Plc.f k a0.2.2.2.2.2.2.1 a1.2.2.2.2.2.2.1).bind fun r4 => bif !r4 then some false else bif !decide (a0.2.2.2.2.2.2.2.1 = a1.2.2.2.2.2.2.2.1) then some false else bif !decide (a0.2.2.2.2.2.2.2.2.1 = a1.2.2.2.2.2.2.2.2.1) then some false else bif !decide (a0.2.2.2.2.2.2.2.2.2 = a1.2.2.2.2.2.2.2.2.2) then some false else some true
theorem Pgi.ok : Yg 12 ⟨⟨[.w K1, .w K1], [.f .bool]⟩, Z2 Pgi.f⟩ := Yq 59 Yv (.n (.seq .c (.seq .c (.seq .c (.seq .c (.seq .c (.seq .c (.seq .c (.seq .c (.seq .c (.seq .c (.n .l)))))))))))) Tryz.func12 (Yc Plb.ok (Yc Pmp.ok (Yc Plf.ok (Yc Plc.ok Yn))))
def Pam.b0 (k : Nat) (s : Int × T14) : Option ((Int × T14) ⊕ T14 ⊕ Zb) :=
 bif decide (0 < s.1) then (cat? (strOfNums ([IntKind.wrap .u8 (Zr (48 + (Int.tmod s.1 10)))])) s.2.2).bind fun s1 => some (.inl (Zr (Int.tdiv s.1 10), s.2.1, s1)) else some (.inr (.inl s.2))
def Pam.d0 (k : Nat) (y : T14) : Option Zb :=
 (cat? (⟨#[109]⟩ : Zb) y.2).bind fun s1 => some s1
def Pam.f (a0 : Int) : Option Zb :=
 bif decide (a0 ≤ 0) then some (⟨#[109, 48]⟩ : Zb) else (iter (X := T14 ⊕ Zb) (Pam.b0 k) k (a0, Ze, Ze)).bind fun | .inl y => Pam.d0 k y | .inr o => some o
theorem Pam.ok : Yg 225 ⟨⟨[.v K0], [.f .str]⟩, Pam.f⟩ := Yq 20 (Yk 5 K32 Yv) (.n (.seq .c (.n (.seq (.lp [.s 0 K0, .s 2 .str, .s 3 .str] 6 (.seq (.n (.cond .l .l)) (.blk (.n .l)))) (.n .l))))) Tryz.func225 Yn
def Pcz.b0 (s : List T11 × T20) : Option ((List T11 × T20) ⊕ (List T11 × T8) ⊕ T76) :=
 bif decide (s.2.2.2 < (s.1.length : Int)) then (inb? s.1.length s.2.2.2).bind fun j1 => (s.1[j1]?).bind fun y2 => (Pam.f k (Zr (s.2.1 + 1))).bind fun r3 => (inb? (s.1.set j1 (s.2.1, y2.2)).length s.2.2.2).bind fun j4 => ((s.1.set j1 (s.2.1, y2.2))[j4]?).bind fun y5 => some (.inl ((s.1.set j1 (s.2.1, y2.2)).set j4 (y5.1, r3), Zr ((Zr (s.2.1 + 1)) + 1), s.2.2.1, Zr (s.2.2.2 + 1))) else some (.inr (.inl (s.1, s.2.1, s.2.2.1)))
def Pcz.d0 (k : Nat) (y : List T11 × T8) : Option T76 :=
 some (y.2.1, y.1)
def Pcz.f (a0 : List T11) (a1 : Int) : Option T76 :=
 (iter (X := (List T11 × T8) ⊕ T76) (Pcz.b0 k) k (a0, a1, 0, 0)).bind fun | .inl y => Pcz.d0 k y | .inr o => some o
theorem Pcz.ok : Yg 121 ⟨⟨[.lent false K22, .v K0], [.f K0]⟩, Z2 Pcz.f⟩ := Yq 28 Yv (.n (.seq (.n (.lp [.o 0 K22, .s 1 K0, .s 4 K0, .s 5 K0] 7 (.seq (.n (.cond .l .l)) (.seq (.blk (.m 3 .l)) .l)))) (.n .l))) Tryz.func121 (Yc Pam.ok Yn)
def Pcr.b0 (k : Nat) (s : List Int × T20) : Option ((List Int × T20) ⊕ (List Int × T8) ⊕ T55) :=
 bif decide (s.2.2.2 < (s.1.length : Int)) then (inb? s.1.length s.2.2.2).bind fun j1 => (s.1[j1]?).bind fun y2 => some (.inl (s.1.set j1 s.2.1, Zr (s.2.1 + 1), s.2.2.1, Zr (s.2.2.2 + 1))) else some (.inr (.inl (s.1, s.2.1, s.2.2.1)))
def Pcr.d0 (k : Nat) (y : List Int × T8) : Option T55 :=
 some (y.2.1, y.1)
def Pcr.f (a0 : List Int) (a1 : Int) : Option T55 :=
 (iter (X := (List Int × T8) ⊕ T55) (Pcr.b0 k) k (a0, a1, 0, 0)).bind fun | .inl y => Pcr.d0 k y | .inr o => some o
theorem Pcr.ok : Yg 122 ⟨⟨[.lent false K20, .v K0], [.f K0]⟩, Z2 Pcr.f⟩ := Yq 19 Yv (.n (.seq (.n (.lp [.o 0 K20, .s 1 K0, .s 4 K0, .s 5 K0] 7 (.seq (.n (.cond .l .l)) (.seq (.blk (.n .l)) .l)))) (.n .l))) Tryz.func122 Yn
def Pit.f (a0 : T5) (a1 : Int) : Option (Int × T5) :=
 (Pcz.f k a0.2.2.2.2.2.2.2.2.1 a1).bind fun r1 => (Pcr.f k a0.2.2.2.2.2.2.2.2.2.2.1 r1.1).bind fun r2 => (Pcr.f k a0.2.2.2.2.2.2.2.2.2.2.2.1 r2.1).bind fun r3 => (Pcr.f k a0.2.2.2.2.2.2.2.2.2.2.2.2 r3.1).bind fun r4 => some (r4.1, a0.1, a0.2.1, a0.2.2.1, a0.2.2.2.1, a0.2.2.2.2.1, a0.2.2.2.2.2.1, a0.2.2.2.2.2.2.1, a0.2.2.2.2.2.2.2.1, r1.2, a0.2.2.2.2.2.2.2.2.2.1, r2.2, r3.2, r4.2)
theorem Pit.ok : Yg 54 ⟨⟨[.lent true K4, .v K0], [.f K0]⟩, Z2 Pit.f⟩ := Yq 22 Yv (.m 6 .l) Tryz.func54 (Yc Pcz.ok (Yc Pcr.ok Yn))
def Pck.b0 (s : List T10 × T20) : Option ((List T10 × T20) ⊕ (List T10 × T8) ⊕ T77) :=
 bif decide (s.2.2.2 < (s.1.length : Int)) then (Pam.f k s.2.1).bind fun r1 => (inb? s.1.length s.2.2.2).bind fun j2 => (s.1[j2]?).bind fun y3 => (Pam.f k (Zr (s.2.1 + 1))).bind fun r4 => (inb? (s.1.set j2 (r1, y3.2)).length s.2.2.2).bind fun j5 => ((s.1.set j2 (r1, y3.2))[j5]?).bind fun y6 => (inb? ((s.1.set j2 (r1, y3.2)).set j5 (y6.1, r4, y6.2.2)).length s.2.2.2).bind fun j7 => (((s.1.set j2 (r1, y3.2)).set j5 (y6.1, r4, y6.2.2))[j7]?).bind fun y8 => some (.inl (((s.1.set j2 (r1, y3.2)).set j5 (y6.1, r4, y6.2.2)).set j7 (y8.1, y8.2.1, Zr ((Zr (s.2.1 + 1)) + 1)), Zr ((Zr ((Zr (s.2.1 + 1)) + 1)) + 1), s.2.2.1, Zr (s.2.2.2 + 1))) else some (.inr (.inl (s.1, s.2.1, s.2.2.1)))
def Pck.d0 (k : Nat) (y : List T10 × T8) : Option T77 :=
 some (y.2.1, y.1)
def Pck.f (a0 : List T10) (a1 : Int) : Option T77 :=
 (iter (X := (List T10 × T8) ⊕ T77) (Pck.b0 k) k (a0, a1, 0, 0)).bind fun | .inl y => Pck.d0 k y | .inr o => some o
theorem Pck.ok : Yg 123 ⟨⟨[.lent false K26, .v K0], [.f K0]⟩, Z2 Pck.f⟩ := Yq 36 Yv (.n (.seq (.n (.lp [.slot 0 false K26 true, .s 1 K0, .s 4 K0, .s 5 K0] 7 (.seq (.n (.cond .l .l)) (.seq (.blk (.m 5 .l)) .l)))) (.n .l))) Tryz.func123 (Yc Pam.ok Yn)
def Pcj.b0 (s : List T9 × T20) : Option ((List T9 × T20) ⊕ (List T9 × T8) ⊕ T83) :=
 bif decide (s.2.2.2 < (s.1.length : Int)) then (inb? s.1.length s.2.2.2).bind fun j1 => (s.1[j1]?).bind fun y2 => (inb? (s.1.set j1 (s.2.1, y2.2)).length s.2.2.2).bind fun j3 => ((s.1.set j1 (s.2.1, y2.2))[j3]?).bind fun y4 => (inb? ((s.1.set j1 (s.2.1, y2.2)).set j3 (y4.1, Zr (s.2.1 + 1), y4.2.2)).length s.2.2.2).bind fun j5 => (((s.1.set j1 (s.2.1, y2.2)).set j3 (y4.1, Zr (s.2.1 + 1), y4.2.2))[j5]?).bind fun y6 => (inb? (((s.1.set j1 (s.2.1, y2.2)).set j3 (y4.1, Zr (s.2.1 + 1), y4.2.2)).set j5 (y6.1, y6.2.1, Zr ((Zr (s.2.1 + 1)) + 1), y6.2.2.2)).length s.2.2.2).bind fun j7 => ((((s.1.set j1 (s.2.1, y2.2)).set j3 (y4.1, Zr (s.2.1 + 1), y4.2.2)).set j5 (y6.1, y6.2.1, Zr ((Zr (s.2.1 + 1)) + 1), y6.2.2.2))[j7]?).bind fun y8 => (inb? ((((s.1.set j1 (s.2.1, y2.2)).set j3 (y4.1, Zr (s.2.1 + 1), y4.2.2)).set j5 (y6.1, y6.2.1, Zr ((Zr (s.2.1 + 1)) + 1), y6.2.2.2)).set j7 (y8.1, y8.2.1, y8.2.2.1, Zr ((Zr ((Zr (s.2.1 + 1)) + 1)) + 1), y8.2.2.2.2)).length s.2.2.2).bind fun j9 => (((((s.1.set j1 (s.2.1, y2.2)).set j3 (y4.1, Zr (s.2.1 + 1), y4.2.2)).set j5 (y6.1, y6.2.1, Zr ((Zr (s.2.1 + 1)) + 1), y6.2.2.2)).set j7 (y8.1, y8.2.1, y8.2.2.1, Zr ((Zr ((Zr (s.2.1 + 1)) + 1)) + 1), y8.2.2.2.2))[j9]?).bind fun y10 => (Pam.f k (Zr ((Zr ((Zr ((Zr ((Zr (s.2.1 + 1)) + 1)) + 1)) + 1)) + 1))).bind fun r11 => (inb? (((((s.1.set j1 (s.2.1, y2.2)).set j3 (y4.1, Zr (s.2.1 + 1), y4.2.2)).set j5 (y6.1, y6.2.1, Zr ((Zr (s.2.1 + 1)) + 1), y6.2.2.2)).set j7 (y8.1, y8.2.1, y8.2.2.1, Zr ((Zr ((Zr (s.2.1 + 1)) + 1)) + 1), y8.2.2.2.2)).set j9 (y10.1, y10.2.1, y10.2.2.1, y10.2.2.2.1, Zr ((Zr ((Zr ((Zr (s.2.1 + 1)) + 1)) + 1)) + 1), y10.2.2.2.2.2)).length s.2.2.2).bind fun j12 => ((((((s.1.set j1 (s.2.1, y2.2)).set j3 (y4.1, Zr (s.2.1 + 1), y4.2.2)).set j5 (y6.1, y6.2.1, Zr ((Zr (s.2.1 + 1)) + 1), y6.2.2.2)).set j7 (y8.1, y8.2.1, y8.2.2.1, Zr ((Zr ((Zr (s.2.1 + 1)) + 1)) + 1), y8.2.2.2.2)).set j9 (y10.1, y10.2.1, y10.2.2.1, y10.2.2.2.1, Zr ((Zr ((Zr ((Zr (s.2.1 + 1)) + 1)) + 1)) + 1), y10.2.2.2.2.2))[j12]?).bind fun y13 => (inb? ((((((s.1.set j1 (s.2.1, y2.2)).set j3 (y4.1, Zr (s.2.1 + 1), y4.2.2)).set j5 (y6.1, y6.2.1, Zr ((Zr (s.2.1 + 1)) + 1), y6.2.2.2)).set j7 (y8.1, y8.2.1, y8.2.2.1, Zr ((Zr ((Zr (s.2.1 + 1)) + 1)) + 1), y8.2.2.2.2)).set j9 (y10.1, y10.2.1, y10.2.2.1, y10.2.2.2.1, Zr ((Zr ((Zr ((Zr (s.2.1 + 1)) + 1)) + 1)) + 1), y10.2.2.2.2.2)).set j12 (y13.1, y13.2.1, y13.2.2.1, y13.2.2.2.1, y13.2.2.2.2.1, r11, y13.2.2.2.2.2.2)).length s.2.2.2).bind fun j14 => (((((((s.1.set j1 (s.2.1, y2.2)).set j3 (y4.1, Zr (s.2.1 + 1), y4.2.2)).set j5 (y6.1, y6.2.1, Zr ((Zr (s.2.1 + 1)) + 1), y6.2.2.2)).set j7 (y8.1, y8.2.1, y8.2.2.1, Zr ((Zr ((Zr (s.2.1 + 1)) + 1)) + 1), y8.2.2.2.2)).set j9 (y10.1, y10.2.1, y10.2.2.1, y10.2.2.2.1, Zr ((Zr ((Zr ((Zr (s.2.1 + 1)) + 1)) + 1)) + 1), y10.2.2.2.2.2)).set j12 (y13.1, y13.2.1, y13.2.2.1, y13.2.2.2.1, y13.2.2.2.2.1, r11, y13.2.2.2.2.2.2))[j14]?).bind fun y15 => (inb? (((((((s.1.set j1 (s.2.1, y2.2)).set j3 (y4.1, Zr (s.2.1 + 1), y4.2.2)).set j5 (y6.1, y6.2.1, Zr ((Zr (s.2.1 + 1)) + 1), y6.2.2.2)).set j7 (y8.1, y8.2.1, y8.2.2.1, Zr ((Zr ((Zr (s.2.1 + 1)) + 1)) + 1), y8.2.2.2.2)).set j9 (y10.1, y10.2.1, y10.2.2.1, y10.2.2.2.1, Zr ((Zr ((Zr ((Zr (s.2.1 + 1)) + 1)) + 1)) + 1), y10.2.2.2.2.2)).set j12 (y13.1, y13.2.1, y13.2.2.1, y13.2.2.2.1, y13.2.2.2.2.1, r11, y13.2.2.2.2.2.2)).set j14 (y15.1, y15.2.1, y15.2.2.1, y15.2.2.2.1, y15.2.2.2.2.1, y15.2.2.2.2.2.1, Zr ((Zr ((Zr ((Zr ((Zr ((Zr (s.2.1 + 1)) + 1)) + 1)) + 1)) + 1)) + 1), y15.2.2.2.2.2.2.2)).length s.2.2.2).bind fun j16 => ((((((((s.1.set j1 (s.2.1, y2.2)).set j3 (y4.1, Zr (s.2.1 + 1), y4.2.2)).set j5 (y6.1, y6.2.1, Zr ((Zr (s.2.1 + 1)) + 1), y6.2.2.2)).set j7 (y8.1, y8.2.1, y8.2.2.1, Zr ((Zr ((Zr (s.2.1 + 1)) + 1)) + 1), y8.2.2.2.2)).set j9 (y10.1, y10.2.1, y10.2.2.1, y10.2.2.2.1, Zr ((Zr ((Zr ((Zr (s.2.1 + 1)) + 1)) + 1)) + 1), y10.2.2.2.2.2)).set j12 (y13.1, y13.2.1, y13.2.2.1, y13.2.2.2.1, y13.2.2.2.2.1, r11, y13.2.2.2.2.2.2)).set j14 (y15.1, y15.2.1, y15.2.2.1, y15.2.2.2.1, y15.2.2.2.2.1, y15.2.2.2.2.2.1, Zr ((Zr ((Zr ((Zr ((Zr ((Zr (s.2.1 + 1)) + 1)) + 1)) + 1)) + 1)) + 1), y15.2.2.2.2.2.2.2))[j16]?).bind fun y17 => some (.inl ((((((((s.1.set j1 (s.2.1, y2.2)).set j3 (y4.1, Zr (s.2.1 + 1), y4.2.2)).set j5 (y6.1, y6.2.1, Zr ((Zr (s.2.1 + 1)) + 1), y6.2.2.2)).set j7 (y8.1, y8.2.1, y8.2.2.1, Zr ((Zr ((Zr (s.2.1 + 1)) + 1)) + 1), y8.2.2.2.2)).set j9 (y10.1, y10.2.1, y10.2.2.1, y10.2.2.2.1, Zr ((Zr ((Zr ((Zr (s.2.1 + 1)) + 1)) + 1)) + 1), y10.2.2.2.2.2)).set j12 (y13.1, y13.2.1, y13.2.2.1, y13.2.2.2.1, y13.2.2.2.2.1, r11, y13.2.2.2.2.2.2)).set j14 (y15.1, y15.2.1, y15.2.2.1, y15.2.2.2.1, y15.2.2.2.2.1, y15.2.2.2.2.2.1, Zr ((Zr ((Zr ((Zr ((Zr ((Zr (s.2.1 + 1)) + 1)) + 1)) + 1)) + 1)) + 1), y15.2.2.2.2.2.2.2)).set j16 (y17.1, y17.2.1, y17.2.2.1, y17.2.2.2.1, y17.2.2.2.2.1, y17.2.2.2.2.2.1, y17.2.2.2.2.2.2.1, Zr ((Zr ((Zr ((Zr ((Zr ((Zr ((Zr (s.2.1 + 1)) + 1)) + 1)) + 1)) + 1)) + 1)) + 1)), Zr ((Zr ((Zr ((Zr ((Zr ((Zr ((Zr ((Zr (s.2.1 + 1)) + 1)) + 1)) + 1)) + 1)) + 1)) + 1)) + 1), s.2.2.1, Zr (s.2.2.2 + 1))) else some (.inr (.inl (s.1, s.2.1, s.2.2.1)))
def Pcj.d0 (k : Nat) (y : List T9 × T8) : Option T83 :=
 some (y.2.1, y.1)
def Pcj.f (a0 : List T9) (a1 : Int) : Option T83 :=
 (iter (X := (List T9 × T8) ⊕ T83) (Pcj.b0 k) k (a0, a1, 0, 0)).bind fun | .inl y => Pcj.d0 k y | .inr o => some o
theorem Pcj.ok : Yg 124 ⟨⟨[.lent false K33, .v K0], [.f K0]⟩, Z2 Pcj.f⟩ := Yq 76 Yv (.n (.seq (.n (.lp [.slot 0 false K33 true, .s 1 K0, .s 4 K0, .s 5 K0] 7 (.seq (.n (.cond .l .l)) (.seq (.blk (.m 15 .l)) .l)))) (.n .l))) Tryz.func124 (Yc Pam.ok Yn)
def Pkb.f (a0 : T2) (a1 : Int) : Option (Int × T2) :=
 (Pck.f k a0.1 a1).bind fun r1 => (Pcr.f k a0.2.1 r1.1).bind fun r2 => (Pcj.f k a0.2.2 r2.1).bind fun r3 => some (r3.1, r1.2, r2.2, r3.2)
theorem Pkb.ok : Yg 55 ⟨⟨[.lent true K3, .v K0], [.f K0]⟩, Z2 Pkb.f⟩ := Yq 18 Yv (.m 5 .l) Tryz.func55 (Yc Pck.ok (Yc Pcr.ok (Yc Pcj.ok Yn)))
def Pda.b0 (s : List T15 × T20) : Option ((List T15 × T20) ⊕ (List T15 × T8) ⊕ T78) :=
 bif decide (s.2.2.2 < (s.1.length : Int)) then (inb? s.1.length s.2.2.2).bind fun j1 => (s.1[j1]?).bind fun y2 => (Pam.f k (Zr (s.2.1 + 1))).bind fun r3 => (inb? (s.1.set j1 (s.2.1, y2.2)).length s.2.2.2).bind fun j4 => ((s.1.set j1 (s.2.1, y2.2))[j4]?).bind fun y5 => (inb? ((s.1.set j1 (s.2.1, y2.2)).set j4 (y5.1, r3, y5.2.2)).length s.2.2.2).bind fun j6 => (((s.1.set j1 (s.2.1, y2.2)).set j4 (y5.1, r3, y5.2.2))[j6]?).bind fun y7 => some (.inl (((s.1.set j1 (s.2.1, y2.2)).set j4 (y5.1, r3, y5.2.2)).set j6 (y7.1, y7.2.1, Zr ((Zr (s.2.1 + 1)) + 1)), Zr ((Zr ((Zr (s.2.1 + 1)) + 1)) + 1), s.2.2.1, Zr (s.2.2.2 + 1))) else some (.inr (.inl (s.1, s.2.1, s.2.2.1)))
def Pda.d0 (k : Nat) (y : List T15 × T8) : Option T78 :=
 some (y.2.1, y.1)
def Pda.f (a0 : List T15) (a1 : Int) : Option T78 :=
 (iter (X := (List T15 × T8) ⊕ T78) (Pda.b0 k) k (a0, a1, 0, 0)).bind fun | .inl y => Pda.d0 k y | .inr o => some o
theorem Pda.ok : Yg 125 ⟨⟨[.lent false K24, .v K0], [.f K0]⟩, Z2 Pda.f⟩ := Yq 35 Yv (.n (.seq (.n (.lp [.slot 0 false K24 true, .s 1 K0, .s 4 K0, .s 5 K0] 7 (.seq (.n (.cond .l .l)) (.seq (.blk (.m 5 .l)) .l)))) (.n .l))) Tryz.func125 (Yc Pam.ok Yn)
def Pdo.b0 (s : List T4 × T20) : Option ((List T4 × T20) ⊕ (List T4 × T8) ⊕ T84) :=
 bif decide (s.2.2.2 < (s.1.length : Int)) then (Pam.f k s.2.1).bind fun r1 => (inb? s.1.length s.2.2.2).bind fun j2 => (s.1[j2]?).bind fun y3 => (inb? (s.1.set j2 (r1, y3.2)).length s.2.2.2).bind fun j4 => ((s.1.set j2 (r1, y3.2))[j4]?).bind fun y5 => some (.inl ((s.1.set j2 (r1, y3.2)).set j4 (y5.1, Zr (s.2.1 + 1)), Zr ((Zr (s.2.1 + 1)) + 1), s.2.2.1, Zr (s.2.2.2 + 1))) else some (.inr (.inl (s.1, s.2.1, s.2.2.1)))
def Pdo.d0 (k : Nat) (y : List T4 × T8) : Option T84 :=
 some (y.2.1, y.1)
def Pdo.f (a0 : List T4) (a1 : Int) : Option T84 :=
 (iter (X := (List T4 × T8) ⊕ T84) (Pdo.b0 k) k (a0, a1, 0, 0)).bind fun | .inl y => Pdo.d0 k y | .inr o => some o
theorem Pdo.ok : Yg 126 ⟨⟨[.lent false K12, .v K0], [.f K0]⟩, Z2 Pdo.f⟩ := Yq 28 Yv (.n (.seq (.n (.lp [.o 0 K12, .s 1 K0, .s 4 K0, .s 5 K0] 7 (.seq (.n (.cond .l .l)) (.seq (.blk (.m 3 .l)) .l)))) (.n .l))) Tryz.func126 (Yc Pam.ok Yn)
def Pdp.b0 (s : List T16 × T20) : Option ((List T16 × T20) ⊕ (List T16 × T8) ⊕ T79) :=
 bif decide (s.2.2.2 < (s.1.length : Int)) then (inb? s.1.length s.2.2.2).bind fun j1 => (s.1[j1]?).bind fun y2 => (Pam.f k (Zr (s.2.1 + 1))).bind fun r3 => (inb? (s.1.set j1 (s.2.1, y2.2)).length s.2.2.2).bind fun j4 => ((s.1.set j1 (s.2.1, y2.2))[j4]?).bind fun y5 => (Pam.f k (Zr ((Zr (s.2.1 + 1)) + 1))).bind fun r6 => (inb? ((s.1.set j1 (s.2.1, y2.2)).set j4 (y5.1, r3, y5.2.2)).length s.2.2.2).bind fun j7 => (((s.1.set j1 (s.2.1, y2.2)).set j4 (y5.1, r3, y5.2.2))[j7]?).bind fun y8 => (inb? (((s.1.set j1 (s.2.1, y2.2)).set j4 (y5.1, r3, y5.2.2)).set j7 (y8.1, y8.2.1, r6, y8.2.2.2)).length s.2.2.2).bind fun j9 => ((((s.1.set j1 (s.2.1, y2.2)).set j4 (y5.1, r3, y5.2.2)).set j7 (y8.1, y8.2.1, r6, y8.2.2.2))[j9]?).bind fun y10 => some (.inl ((((s.1.set j1 (s.2.1, y2.2)).set j4 (y5.1, r3, y5.2.2)).set j7 (y8.1, y8.2.1, r6, y8.2.2.2)).set j9 (y10.1, y10.2.1, y10.2.2.1, Zr ((Zr ((Zr (s.2.1 + 1)) + 1)) + 1)), Zr ((Zr ((Zr ((Zr (s.2.1 + 1)) + 1)) + 1)) + 1), s.2.2.1, Zr (s.2.2.2 + 1))) else some (.inr (.inl (s.1, s.2.1, s.2.2.1)))
def Pdp.d0 (k : Nat) (y : List T16 × T8) : Option T79 :=
 some (y.2.1, y.1)
def Pdp.f (a0 : List T16) (a1 : Int) : Option T79 :=
 (iter (X := (List T16 × T8) ⊕ T79) (Pdp.b0 k) k (a0, a1, 0, 0)).bind fun | .inl y => Pdp.d0 k y | .inr o => some o
theorem Pdp.ok : Yg 127 ⟨⟨[.lent false K31, .v K0], [.f K0]⟩, Z2 Pdp.f⟩ := Yq 43 Yv (.n (.seq (.n (.lp [.slot 0 false K31 true, .s 1 K0, .s 4 K0, .s 5 K0] 7 (.seq (.n (.cond .l .l)) (.seq (.blk (.m 7 .l)) .l)))) (.n .l))) Tryz.func127 (Yc Pam.ok Yn)
def Piu.f (a0 : T1) (a1 : Int) : Option T66 :=
 (Pda.f k a0.2.2.1 a1).bind fun r1 => (Pdo.f k a0.2.2.2.1 r1.1).bind fun r2 => (Pdp.f k a0.2.2.2.2 r2.1).bind fun r3 => some (r3.1, a0.1, a0.2.1, r1.2, r2.2, r3.2)
theorem Piu.ok : Yg 56 ⟨⟨[.lent true K2, .v K0], [.f K0]⟩, Z2 Piu.f⟩ := Yq 18 Yv (.m 5 .l) Tryz.func56 (Yc Pda.ok (Yc Pdo.ok (Yc Pdp.ok Yn)))
def Phh.f (a0 : T0) (a1 : Int) : Option (Int × T0) :=
 (Pit.f k a0.2.2.2.1 a1).bind fun r1 => (Pkb.f k a0.2.2.2.2.1 r1.1).bind fun r2 => (Piu.f k a0.2.2.2.2.2.2.1 r2.1).bind fun r3 => some (r3.1, a0.1, a0.2.1, a0.2.2.1, (a0.2.2.2.1.1, a0.2.2.2.1.2.1, a0.2.2.2.1.2.2.1, a0.2.2.2.1.2.2.2.1, a0.2.2.2.1.2.2.2.2.1, a0.2.2.2.1.2.2.2.2.2.1, a0.2.2.2.1.2.2.2.2.2.2.1, a0.2.2.2.1.2.2.2.2.2.2.2.1, r1.2.2.2.2.2.2.2.2.2.1, a0.2.2.2.1.2.2.2.2.2.2.2.2.2.1, r1.2.2.2.2.2.2.2.2.2.2.2), r2.2, a0.2.2.2.2.2.1, (a0.2.2.2.2.2.2.1.1, a0.2.2.2.2.2.2.1.2.1, r3.2.2.2), a0.2.2.2.2.2.2.2)
theorem Phh.ok : Yg 15 ⟨⟨[.lent true K1, .v K0], [.f K0]⟩, Z2 Phh.f⟩ := Yq 18 Yv (.m 5 .l) Tryz.func15 (Yc Pit.ok (Yc Pkb.ok (Yc Piu.ok Yn)))
def Pcx.b0 (s : List T11 × T20) : Option ((List T11 × T20) ⊕ T8 ⊕ Int) :=
 bif decide (s.2.2.2 < (s.1.length : Int)) then (inb? s.1.length s.2.2.2).bind fun j1 => (s.1[j1]?).bind fun y2 => bif !decide (y2.1 = s.2.1) then some (.inr (.inr (-1))) else (inb? s.1.length s.2.2.2).bind fun j3 => (s.1[j3]?).bind fun y4 => (Pam.f k (Zr (s.2.1 + 1))).bind fun r5 => bif !decide (y4.2 = r5) then some (.inr (.inr (-1))) else some (.inl (s.1, Zr ((Zr (s.2.1 + 1)) + 1), s.2.2.1, Zr (s.2.2.2 + 1))) else some (.inr (.inl (s.2.1, s.2.2.1)))
def Pcx.d0 (k : Nat) (y : T8) : Option Int :=
 some y.1
def Pcx.f (a0 : List T11) (a1 : Int) : Option Int :=
 (iter (X := T8 ⊕ Int) (Pcx.b0 k) k (a0, a1, 0, 0)).bind fun | .inl y => Pcx.d0 k y | .inr o => some o
theorem Pcx.ok : Yg 128 ⟨⟨[.v K22, .v K0], [.f K0]⟩, Z2 Pcx.f⟩ := Yq 32 Yv (.n (.seq (.n (.lp [.s 0 K22, .s 1 K0, .s 4 K0, .s 5 K0] 6 (.seq (.n (.cond .l .l)) (.seq (.blk (.seq .c (.n (.seq .c .l)))) .l)))) (.n .l))) Tryz.func128 (Yc Pam.ok Yn)
def Pcq.b0 (k : Nat) (s : List Int × T20) : Option ((List Int × T20) ⊕ T8 ⊕ Int) :=
 bif decide (s.2.2.2 < (s.1.length : Int)) then (inb? s.1.length s.2.2.2).bind fun j1 => (s.1[j1]?).bind fun y2 => bif !decide (y2 = s.2.1) then some (.inr (.inr (-1))) else some (.inl (s.1, Zr (s.2.1 + 1), s.2.2.1, Zr (s.2.2.2 + 1))) else some (.inr (.inl (s.2.1, s.2.2.1)))
def Pcq.d0 (k : Nat) (y : T8) : Option Int :=
 some y.1
def Pcq.f (a0 : List Int) (a1 : Int) : Option Int :=
 (iter (X := T8 ⊕ Int) (Pcq.b0 k) k (a0, a1, 0, 0)).bind fun | .inl y => Pcq.d0 k y | .inr o => some o
theorem Pcq.ok : Yg 129 ⟨⟨[.v K20, .v K0], [.f K0]⟩, Z2 Pcq.f⟩ := Yq 21 Yv (.n (.seq (.n (.lp [.s 0 K20, .s 1 K0, .s 4 K0, .s 5 K0] 6 (.seq (.n (.cond .l .l)) (.seq (.blk (.seq .c .l)) .l)))) (.n .l))) Tryz.func129 Yn
def Pir.f (a0 : T5) (a1 : Int) : Option Int :=
 (Pcx.f k a0.2.2.2.2.2.2.2.2.1 a1).bind fun r1 => bif decide (r1 < 0) then some (-1) else (Pcq.f k a0.2.2.2.2.2.2.2.2.2.2.1 r1).bind fun r2 => bif decide (r2 < 0) then some (-1) else (Pcq.f k a0.2.2.2.2.2.2.2.2.2.2.2.1 r2).bind fun r3 => bif decide (r3 < 0) then some (-1) else (Pcq.f k a0.2.2.2.2.2.2.2.2.2.2.2.2 r3).bind fun r4 => bif decide (r4 < 0) then some (-1) else some r4
theorem Pir.ok : Yg 57 ⟨⟨[.w K4, .v K0], [.f K0]⟩, Z2 Pir.f⟩ := Yq 30 Yv (.n (.n (.seq .c (.n (.seq .c (.n (.seq .c (.n (.seq .c (.n .l)))))))))) Tryz.func57 (Yc Pcx.ok (Yc Pcq.ok Yn))
def Pci.b0 (s : List T10 × T20) : Option ((List T10 × T20) ⊕ T8 ⊕ Int) :=
 bif decide (s.2.2.2 < (s.1.length : Int)) then (inb? s.1.length s.2.2.2).bind fun j1 => (s.1[j1]?).bind fun y2 => (Pam.f k s.2.1).bind fun r3 => bif !decide (y2.1 = r3) then some (.inr (.inr (-1))) else (inb? s.1.length s.2.2.2).bind fun j4 => (s.1[j4]?).bind fun y5 => (Pam.f k (Zr (s.2.1 + 1))).bind fun r6 => bif !decide (y5.2.1 = r6) then some (.inr (.inr (-1))) else (inb? s.1.length s.2.2.2).bind fun j7 => (s.1[j7]?).bind fun y8 => bif !decide (y8.2.2 = Zr ((Zr (s.2.1 + 1)) + 1)) then some (.inr (.inr (-1))) else some (.inl (s.1, Zr ((Zr ((Zr (s.2.1 + 1)) + 1)) + 1), s.2.2.1, Zr (s.2.2.2 + 1))) else some (.inr (.inl (s.2.1, s.2.2.1)))
def Pci.d0 (k : Nat) (y : T8) : Option Int :=
 some y.1
def Pci.f (a0 : List T10) (a1 : Int) : Option Int :=
 (iter (X := T8 ⊕ Int) (Pci.b0 k) k (a0, a1, 0, 0)).bind fun | .inl y => Pci.d0 k y | .inr o => some o
theorem Pci.ok : Yg 130 ⟨⟨[.v K26, .v K0], [.f K0]⟩, Z2 Pci.f⟩ := Yq 42 Yv (.n (.seq (.n (.lp [.s 0 K26, .s 1 K0, .s 4 K0, .s 5 K0] 6 (.seq (.n (.cond .l .l)) (.seq (.blk (.seq .c (.n (.seq .c (.n (.seq .c .l)))))) .l)))) (.n .l))) Tryz.func130 (Yc Pam.ok Yn)
def Pch.b0 (s : List T9 × T20) : Option ((List T9 × T20) ⊕ T8 ⊕ Int) :=
 bif decide (s.2.2.2 < (s.1.length : Int)) then (inb? s.1.length s.2.2.2).bind fun j1 => (s.1[j1]?).bind fun y2 => bif !decide (y2.1 = s.2.1) then some (.inr (.inr (-1))) else (inb? s.1.length s.2.2.2).bind fun j3 => (s.1[j3]?).bind fun y4 => bif !decide (y4.2.1 = Zr (s.2.1 + 1)) then some (.inr (.inr (-1))) else (inb? s.1.length s.2.2.2).bind fun j5 => (s.1[j5]?).bind fun y6 => bif !decide (y6.2.2.1 = Zr ((Zr (s.2.1 + 1)) + 1)) then some (.inr (.inr (-1))) else (inb? s.1.length s.2.2.2).bind fun j7 => (s.1[j7]?).bind fun y8 => bif !decide (y8.2.2.2.1 = Zr ((Zr ((Zr (s.2.1 + 1)) + 1)) + 1)) then some (.inr (.inr (-1))) else (inb? s.1.length s.2.2.2).bind fun j9 => (s.1[j9]?).bind fun y10 => bif !decide (y10.2.2.2.2.1 = Zr ((Zr ((Zr ((Zr (s.2.1 + 1)) + 1)) + 1)) + 1)) then some (.inr (.inr (-1))) else (inb? s.1.length s.2.2.2).bind fun j11 => (s.1[j11]?).bind fun y12 => (Pam.f k (Zr ((Zr ((Zr ((Zr ((Zr (s.2.1 + 1)) + 1)) + 1)) + 1)) + 1))).bind fun r13 => bif !decide (y12.2.2.2.2.2.1 = r13) then some (.inr (.inr (-1))) else (inb? s.1.length s.2.2.2).bind fun j14 => (s.1[j14]?).bind fun y15 => bif !decide (y15.2.2.2.2.2.2.1 = Zr ((Zr ((Zr ((Zr ((Zr ((Zr (s.2.1 + 1)) + 1)) + 1)) + 1)) + 1)) + 1)) then some (.inr (.inr (-1))) else (inb? s.1.length s.2.2.2).bind fun j16 => (s.1[j16]?).bind fun y17 => bif !decide (y17.2.2.2.2.2.2.2 = Zr ((Zr ((Zr ((Zr ((Zr ((Zr ((Zr (s.2.1 + 1)) + 1)) + 1)) + 1)) + 1)) + 1)) + 1)) then some (.inr (.inr (-1))) else some (.inl (s.1, Zr ((Zr ((Zr ((Zr ((Zr ((Zr ((Zr ((Zr (s.2.1 + 1)) + 1)) + 1)) + 1)) + 1)) + 1)) + 1)) + 1), s.2.2.1, Zr (s.2.2.2 + 1))) else some (.inr (.inl (s.2.1, s.2.2.1)))
def Pch.d0 (k : Nat) (y : T8) : Option Int :=
 some y.1
def Pch.f (a0 : List T9) (a1 : Int) : Option Int :=
 (iter (X := T8 ⊕ Int) (Pch.b0 k) k (a0, a1, 0, 0)).bind fun | .inl y => Pch.d0 k y | .inr o => some o
theorem Pch.ok : Yg 131 ⟨⟨[.v K33, .v K0], [.f K0]⟩, Z2 Pch.f⟩ := Yq 92 Yv (.n (.seq (.n (.lp [.s 0 K33, .s 1 K0, .s 4 K0, .s 5 K0] 6 (.seq (.n (.cond .l .l)) (.seq (.blk (.seq .c (.n (.seq .c (.n (.seq .c (.n (.seq .c (.n (.seq .c (.n (.seq .c (.n (.seq .c (.n (.seq .c .l)))))))))))))))) .l)))) (.n .l))) Tryz.func131 (Yc Pam.ok Yn)
def Pka.f (a0 : T2) (a1 : Int) : Option Int :=
 (Pci.f k a0.1 a1).bind fun r1 => bif decide (r1 < 0) then some (-1) else (Pcq.f k a0.2.1 r1).bind fun r2 => bif decide (r2 < 0) then some (-1) else (Pch.f k a0.2.2 r2).bind fun r3 => bif decide (r3 < 0) then some (-1) else some r3
theorem Pka.ok : Yg 58 ⟨⟨[.w K3, .v K0], [.f K0]⟩, Z2 Pka.f⟩ := Yq 24 Yv (.n (.n (.seq .c (.n (.seq .c (.n (.seq .c (.n .l)))))))) Tryz.func58 (Yc Pci.ok (Yc Pcq.ok (Yc Pch.ok Yn)))
def Pcy.b0 (s : List T15 × T20) : Option ((List T15 × T20) ⊕ T8 ⊕ Int) :=
 bif decide (s.2.2.2 < (s.1.length : Int)) then (inb? s.1.length s.2.2.2).bind fun j1 => (s.1[j1]?).bind fun y2 => bif !decide (y2.1 = s.2.1) then some (.inr (.inr (-1))) else (inb? s.1.length s.2.2.2).bind fun j3 => (s.1[j3]?).bind fun y4 => (Pam.f k (Zr (s.2.1 + 1))).bind fun r5 => bif !decide (y4.2.1 = r5) then some (.inr (.inr (-1))) else (inb? s.1.length s.2.2.2).bind fun j6 => (s.1[j6]?).bind fun y7 => bif !decide (y7.2.2 = Zr ((Zr (s.2.1 + 1)) + 1)) then some (.inr (.inr (-1))) else some (.inl (s.1, Zr ((Zr ((Zr (s.2.1 + 1)) + 1)) + 1), s.2.2.1, Zr (s.2.2.2 + 1))) else some (.inr (.inl (s.2.1, s.2.2.1)))
def Pcy.d0 (k : Nat) (y : T8) : Option Int :=
 some y.1
def Pcy.f (a0 : List T15) (a1 : Int) : Option Int :=
 (iter (X := T8 ⊕ Int) (Pcy.b0 k) k (a0, a1, 0, 0)).bind fun | .inl y => Pcy.d0 k y | .inr o => some o
theorem Pcy.ok : Yg 132 ⟨⟨[.v K24, .v K0], [.f K0]⟩, Z2 Pcy.f⟩ := Yq 41 Yv (.n (.seq (.n (.lp [.s 0 K24, .s 1 K0, .s 4 K0, .s 5 K0] 6 (.seq (.n (.cond .l .l)) (.seq (.blk (.seq .c (.n (.seq .c (.n (.seq .c .l)))))) .l)))) (.n .l))) Tryz.func132 (Yc Pam.ok Yn)
def Pdm.b0 (s : List T4 × T20) : Option ((List T4 × T20) ⊕ T8 ⊕ Int) :=
 bif decide (s.2.2.2 < (s.1.length : Int)) then (inb? s.1.length s.2.2.2).bind fun j1 => (s.1[j1]?).bind fun y2 => (Pam.f k s.2.1).bind fun r3 => bif !decide (y2.1 = r3) then some (.inr (.inr (-1))) else (inb? s.1.length s.2.2.2).bind fun j4 => (s.1[j4]?).bind fun y5 => bif !decide (y5.2 = Zr (s.2.1 + 1)) then some (.inr (.inr (-1))) else some (.inl (s.1, Zr ((Zr (s.2.1 + 1)) + 1), s.2.2.1, Zr (s.2.2.2 + 1))) else some (.inr (.inl (s.2.1, s.2.2.1)))
def Pdm.d0 (k : Nat) (y : T8) : Option Int :=
 some y.1
def Pdm.f (a0 : List T4) (a1 : Int) : Option Int :=
 (iter (X := T8 ⊕ Int) (Pdm.b0 k) k (a0, a1, 0, 0)).bind fun | .inl y => Pdm.d0 k y | .inr o => some o
theorem Pdm.ok : Yg 133 ⟨⟨[.v K12, .v K0], [.f K0]⟩, Z2 Pdm.f⟩ := Yq 32 Yv (.n (.seq (.n (.lp [.s 0 K12, .s 1 K0, .s 4 K0, .s 5 K0] 6 (.seq (.n (.cond .l .l)) (.seq (.blk (.seq .c (.n (.seq .c .l)))) .l)))) (.n .l))) Tryz.func133 (Yc Pam.ok Yn)
def Pdn.b0 (s : List T16 × T20) : Option ((List T16 × T20) ⊕ T8 ⊕ Int) :=
 bif decide (s.2.2.2 < (s.1.length : Int)) then (inb? s.1.length s.2.2.2).bind fun j1 => (s.1[j1]?).bind fun y2 => bif !decide (y2.1 = s.2.1) then some (.inr (.inr (-1))) else (inb? s.1.length s.2.2.2).bind fun j3 => (s.1[j3]?).bind fun y4 => (Pam.f k (Zr (s.2.1 + 1))).bind fun r5 => bif !decide (y4.2.1 = r5) then some (.inr (.inr (-1))) else (inb? s.1.length s.2.2.2).bind fun j6 => (s.1[j6]?).bind fun y7 => (Pam.f k (Zr ((Zr (s.2.1 + 1)) + 1))).bind fun r8 => bif !decide (y7.2.2.1 = r8) then some (.inr (.inr (-1))) else (inb? s.1.length s.2.2.2).bind fun j9 => (s.1[j9]?).bind fun y10 => bif !decide (y10.2.2.2 = Zr ((Zr ((Zr (s.2.1 + 1)) + 1)) + 1)) then some (.inr (.inr (-1))) else some (.inl (s.1, Zr ((Zr ((Zr ((Zr (s.2.1 + 1)) + 1)) + 1)) + 1), s.2.2.1, Zr (s.2.2.2 + 1))) else some (.inr (.inl (s.2.1, s.2.2.1)))
def Pdn.d0 (k : Nat) (y : T8) : Option Int :=
 some y.1
def Pdn.f (a0 : List T16) (a1 : Int) : Option Int :=
 (iter (X := T8 ⊕ Int) (Pdn.b0 k) k (a0, a1, 0, 0)).bind fun | .inl y => Pdn.d0 k y | .inr o => some o
theorem Pdn.ok : Yg 134 ⟨⟨[.v K31, .v K0], [.f K0]⟩, Z2 Pdn.f⟩ := Yq 51 Yv (.n (.seq (.n (.lp [.s 0 K31, .s 1 K0, .s 4 K0, .s 5 K0] 6 (.seq (.n (.cond .l .l)) (.seq (.blk (.seq .c (.n (.seq .c (.n (.seq .c (.n (.seq .c .l)))))))) .l)))) (.n .l))) Tryz.func134 (Yc Pam.ok Yn)
def Pis.f (a0 : T1) (a1 : Int) : Option Int :=
 (Pcy.f k a0.2.2.1 a1).bind fun r1 => bif decide (r1 < 0) then some (-1) else (Pdm.f k a0.2.2.2.1 r1).bind fun r2 => bif decide (r2 < 0) then some (-1) else (Pdn.f k a0.2.2.2.2 r2).bind fun r3 => bif decide (r3 < 0) then some (-1) else some r3
theorem Pis.ok : Yg 59 ⟨⟨[.w K2, .v K0], [.f K0]⟩, Z2 Pis.f⟩ := Yq 24 Yv (.n (.n (.seq .c (.n (.seq .c (.n (.seq .c (.n .l)))))))) Tryz.func59 (Yc Pcy.ok (Yc Pdm.ok (Yc Pdn.ok Yn)))
def Phg.f (a0 : T0) (a1 : Int) : Option Int :=
 (Pir.f k a0.2.2.2.1 a1).bind fun r1 => bif decide (r1 < 0) then some (-1) else (Pka.f k a0.2.2.2.2.1 r1).bind fun r2 => bif decide (r2 < 0) then some (-1) else (Pis.f k a0.2.2.2.2.2.2.1 r2).bind fun r3 => bif decide (r3 < 0) then some (-1) else some r3
theorem Phg.ok : Yg 16 ⟨⟨[.w K1, .v K0], [.f K0]⟩, Z2 Phg.f⟩ := Yq 24 Yv (.n (.n (.seq .c (.n (.seq .c (.n (.seq .c (.n .l)))))))) Tryz.func16 (Yc Pir.ok (Yc Pka.ok (Yc Pis.ok Yn)))
def Pfm.f (a0 : T0) : Option Bool :=
 (Pjm.f k a0 1048576).bind fun r1 => bif decide (r1 < 0) then some true else (Pgl.f k a0).bind fun r2 => (Pjd.f k r2).bind fun r3 => (Pgl.f k a0).bind fun r4 => (Phe.f k r4).bind fun r5 => (Pgi.f k r5.1 r3.1).bind fun r6 => bif !r6 then some false else bif !decide (r5.2 = r3.2) then some false else (Pgl.f k a0).bind fun r7 => (Pgi.f k r4 r7).bind fun r8 => bif !r8 then some false else (Phh.f k r4 1).bind fun r9 => bif decide (r9.1 < 0) then some false else (Pgi.f k r5.1 r3.1).bind fun r10 => bif !r10 then some false else bif !decide (r5.2 = r3.2) then some false else (Phh.f k r5.1 1).bind fun r11 => (Phg.f k (r5.1.1, r5.1.2.1, r5.1.2.2.1, (r5.1.2.2.2.1.1, r5.1.2.2.2.1.2.1, r5.1.2.2.2.1.2.2.1, r5.1.2.2.2.1.2.2.2.1, r5.1.2.2.2.1.2.2.2.2.1, r5.1.2.2.2.1.2.2.2.2.2.1, r5.1.2.2.2.1.2.2.2.2.2.2.1, r5.1.2.2.2.1.2.2.2.2.2.2.2.1, r11.2.2.2.2.1.2.2.2.2.2.2.2.2.1, r5.1.2.2.2.1.2.2.2.2.2.2.2.2.2.1, r11.2.2.2.2.1.2.2.2.2.2.2.2.2.2.2), r11.2.2.2.2.2.1, r5.1.2.2.2.2.2.1, (r5.1.2.2.2.2.2.2.1.1, r5.1.2.2.2.2.2.2.1.2.1, r11.2.2.2.2.2.2.2.1.2.2), r5.1.2.2.2.2.2.2.2) 1).bind fun r12 => bif decide (r12 < 0) then some false else bif !decide (r12 = r11.1) then some false else (Pgl.f k a0).bind fun r13 => (Phe.f k r13).bind fun r14 => (Pgi.f k r14.1 r3.1).bind fun r15 => bif !r15 then some false else bif !decide (r14.2 = r3.2) then some false else (Phg.f k (r5.1.1, r5.1.2.1, r5.1.2.2.1, (r5.1.2.2.2.1.1, r5.1.2.2.2.1.2.1, r5.1.2.2.2.1.2.2.1, r5.1.2.2.2.1.2.2.2.1, r5.1.2.2.2.1.2.2.2.2.1, r5.1.2.2.2.1.2.2.2.2.2.1, r5.1.2.2.2.1.2.2.2.2.2.2.1, r5.1.2.2.2.1.2.2.2.2.2.2.2.1, r11.2.2.2.2.1.2.2.2.2.2.2.2.2.1, r5.1.2.2.2.1.2.2.2.2.2.2.2.2.2.1, r11.2.2.2.2.1.2.2.2.2.2.2.2.2.2.2), r11.2.2.2.2.2.1, r5.1.2.2.2.2.2.1, (r5.1.2.2.2.2.2.2.1.1, r5.1.2.2.2.2.2.2.1.2.1, r11.2.2.2.2.2.2.2.1.2.2), r5.1.2.2.2.2.2.2.2) 1).bind fun r16 => bif decide (r16 < 0) then some false else bif !decide (r16 = r11.1) then some false else some true
theorem Pfm.ok : Yg 6 ⟨⟨[.w K10], [.f .bool]⟩, Pfm.f⟩ := Yq 96 Yv (.m 3 (.seq .c (.m 3 (.seq .c (.seq .c (.n (.n (.seq .c (.m 4 (.seq .c (.seq .c (.n (.seq .c (.n (.n (.seq .c (.seq .c (.n .l)))))))))))))))))) Tryz.func6 (Yc Pjm.ok (Yc Pgl.ok (Yc Pjd.ok (Yc Phe.ok (Yc Pgi.ok (Yc Phh.ok (Yc Phg.ok Yn)))))))
end Go.Proofs.YtbkcbfkehncocaaGreatDoor.Rx
