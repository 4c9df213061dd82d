/- Functions of the program as typed functions, each with its contract, shown by the evaluator's soundness. No condition. -/
import Derived.Test.YtbkcbfkehncocaaGreatDoorRxC
import Derived.Test.YtbkcbfkehncocaaGreatDoorProg
import Derived.KernelRfl
set_option linter.unusedVariables false
set_option linter.unusedSimpArgs false
namespace Go.Proofs.YtbkcbfkehncocaaGreatDoor.Rx
open Go.Proofs
abbrev K0 : CK := .int .i64
abbrev K1 : CK := .pair (.sl 124 (.pair .str (.pair .str K0))) (.pair (.sl 3 K0) (.sl 135 (.pair K0 (.pair K0 (.pair K0 (.pair K0 (.pair K0 (.pair .str (.pair K0 K0)))))))))
abbrev K2 : CK := .pair K0 (.pair K0 (.pair (.sl 110 (.pair K0 (.pair .str K0))) (.pair (.sl 114 (.pair .str K0)) (.sl 117 (.pair K0 (.pair .str (.pair .str K0)))))))
abbrev K3 : CK := .pair K0 (.pair K0 (.pair K0 (.pair K0 (.pair K0 (.pair K0 (.pair K0 (.pair K0 (.pair (.sl 145 (.pair K0 .str)) (.pair K0 (.pair (.sl 3 K0) (.pair (.sl 3 K0) (.sl 3 K0))))))))))))
abbrev K4 : CK := .pair K0 (.pair K0 (.pair K0 (.pair K0 (.sl 145 (.pair K0 .str)))))
abbrev K5 : CK := .pair .str K0
abbrev K6 : CK := .pair K0 (.pair K0 (.pair K0 (.pair .str (.pair K0 K0))))
abbrev K7 : CK := .pair K0 (.pair K0 (.pair .bool (.pair K3 (.pair K1 (.pair (.pair K0 (.pair K0 .str)) (.pair K2 (.pair K0 (.pair K0 K0))))))))
abbrev K8 : CK := .pair K0 .str
abbrev K9 : CK := .pair K0 (.pair K0 (.pair .bool (.pair (.pair K0 (.pair K0 (.pair K0 (.pair K0 (.pair K0 (.pair K0 (.pair K0 (.pair K0 (.pair (.sl 189 K8) (.pair K0 (.pair (.sl 3 K0) (.pair (.sl 3 K0) (.sl 3 K0))))))))))))) (.pair (.pair (.sl 191 (.pair .str K5)) (.pair (.sl 3 K0) (.sl 195 (.pair K0 (.pair K0 K6))))) (.pair (.pair K0 K8) (.pair (.pair K0 (.pair K0 (.pair (.sl 197 (.pair K0 K5)) (.pair (.sl 199 K5) (.sl 201 (.pair K0 (.pair .str K5))))))) (.pair K0 (.pair K0 K0))))))))
abbrev K10 : CK := .pair .str K5
abbrev K11 : CK := .sl 114 K5
abbrev K12 : CK := .sl 215 (.int .u32)
abbrev K13 : CK := .pair K0 (.pair K0 K6)
abbrev K14 : CK := .pair K0 K8
abbrev K15 : CK := .pair K0 K10
abbrev K16 : CK := .sl 208 (.pair K0 K0)
abbrev K17 : CK := .pair K4 (.pair K14 .bool)
abbrev K18 : CK := .sl 3 K0
abbrev K19 : CK := .pair K0 K5
abbrev K20 : CK := .pair K0 (.pair K0 K14)
abbrev K21 : CK := .sl 9 .str
abbrev K22 : CK := .sl 145 K8
abbrev K23 : CK := .pair K0 (.pair K0 (.pair K0 (.pair K0 (.pair K0 (.pair K0 (.pair K0 (.pair K0 (.pair (.sl 189 K8) (.pair K0 (.pair K18 (.pair K18 K18)))))))))))
abbrev K24 : CK := .pair .str .bool
abbrev K25 : CK := .arr .u32 8
abbrev K26 : CK := .sl 124 K10
abbrev K27 : CK := .int .u8
abbrev K28 : CK := .sl 110 K19
abbrev K29 : CK := .sl 117 K15
abbrev K30 : CK := .sl 135 K13
abbrev K31 : CK := .pair K0 (.pair K0 (.pair (.sl 197 K19) (.pair (.sl 199 K5) (.sl 201 K15))))
abbrev K32 : CK := .int .u32
abbrev K33 : CK := .sl 191 K10
abbrev K34 : CK := .sl 195 K13
abbrev T0 := List (Zb × Zb × Int) × List Int × List (Int × Int × Int × Int × Int × Zb × Int × Int)
abbrev T1 := Int × Int × List (Int × Zb × Int) × List (Zb × Int) × List (Int × Zb × Zb × Int)
abbrev T2 := Int × Int × Int × Int × List (Int × Zb)
abbrev T3 := Int × Int × Int × Int × Int × Int × Int × Int × List (Int × Zb) × Int × List Int × List Int × List Int
abbrev T4 := Zb × Int
abbrev T5 := Int × Int × Zb
abbrev T6 := Int × Int
abbrev T7 := (T2) × (T5) × Bool
abbrev T8 := Int × Int × Int × Int × Int × Zb × T6
abbrev T9 := Zb × T4
abbrev T10 := List Int × List Int × List Int
abbrev T11 := Int × Zb
abbrev T12 := Int × Int × Bool × (T3) × (T0) × (T5) × (T1) × Int × T6
abbrev T13 := Zb × Bool
abbrev T14 := Zb × Zb
abbrev T15 := Zb × List Int
abbrev T16 := List Zb × Int
abbrev T17 := Zb × Int × T6
abbrev T18 := List Zb × Bool
abbrev T19 := Zb × Bool × (T0) × (T13) × T0
abbrev T20 := (T7) × Int
abbrev T21 := Zb × Zb × T0
abbrev T22 := Int × T4
abbrev T23 := (T0) × Bool
abbrev T24 := Int × Bool × (T1) × (T7) × (T2) × T5
abbrev T25 := List Zb × Bool × List Zb
abbrev T26 := Int × T9
abbrev T27 := Int × Int × Int × Zb × T6
abbrev T28 := Int × List (T11) × (T7) × (T2) × (T5) × T7
abbrev T29 := List Int × Int
abbrev T30 := Int × Bool
abbrev T31 := (List (T4) × List (T4) × List (T4) × Bool × T22) ⊕ (List (T4) × List (T4) × Bool × T4) ⊕ (List (T4))
abbrev T32 := Zb × Bool × Int × (T0) × T0
abbrev T33 := Zb × Int × Int × T6
abbrev T34 := List (T6) × Bool
abbrev T35 := List (T4) × List (T4)
abbrev T36 := Int × Bool × Int
abbrev T37 := Int × (T7) × (T2) × T7
abbrev T38 := Int × Bool × Int × (T2) × T2
abbrev T39 := (Bool × List Int × List (T4) × Int × Int × T1) ⊕ (Bool × List Int × T1) ⊕ Bool
abbrev T40 := (Bool × Int × T0) ⊕ (Bool × T0) ⊕ Bool
abbrev T41 := (List Zb × Bool × List Zb × Int × List (T6)) ⊕ (T25) ⊕ (T18)
abbrev T42 := List Zb × Int × T16
abbrev T43 := (Zb × Bool × Int × Int × (T0) × (T13) × T0) ⊕ (T19) ⊕ (T23)
abbrev T44 := List Int × List Int × List Int × T29
abbrev T45 := Zb × List Int × List Int × T4
abbrev T46 := List Zb × Bool × List Zb × Int × Zb × List (T6)
abbrev T47 := (Zb × Bool × Int × Int × (T0) × T0) ⊕ (T32) ⊕ (T23)
abbrev T48 := Zb × Zb × Int × T0
def Yv : TypeId → Option CK := fun _ => none
def Yk (e : TypeId) (c : CK) (r : TypeId → Option CK) : TypeId → Option CK := fun t => bif Nat.beq t e then some c else r t
abbrev Yg (g : FuncId) (f : Fn) : Prop := ∀ k, FnOk Tryz.prog k g f
abbrev Yl (l : List (FuncId × Fn)) : Prop := ∀ k g f, look l g = some f → FnOk Tryz.prog k g f
theorem Yn : Yl [] := fun _ => Qrj
theorem Yc {g : FuncId} {f : Fn} {l : List (FuncId × Fn)} (hf : Yg g f) (hl : Yl l) : Yl ((g, f) :: l) := fun k => Qra (hf k) (hl k)
theorem Ym : Tryz.prog.follows .mixedOrders = true := by kernel_rfl
theorem Yq {g : FuncId} {f : Fn} {l : List (FuncId × Fn)} (N : Nat) (kinds : TypeId → Option CK) (ann : Ann) {fn : Func} (hfn : Tryz.prog.funcs[g]? = some fn) (hl : Yl l) (hq : okQ fn N f.sig = true := by kernel_rfl) (hrun : ∀ k x, runFn (envQ Tryz.prog N kinds l k f.sig) fn f.sig ann x = f.sem k x := by intro k x; kernel_rfl) : Yg g f :=
 fun k => fnOk_q N kinds ann hfn (hl k) Ym hq (hrun k)
def Ann.l : Ann := .leaf
def Ann.c : Ann := .n (.cond (.n .leaf) .leaf)
def Item.s (t : Nat) (c : CK) : Item := .slot t false c false
def Item.o (t : Nat) (c : CK) : Item := .slot t false c true
def Item.b (b : Nat) (t : TypeId) (c : CK) : Item := .box b t c false false
def Ann.m : Nat → Ann → Ann
 | 0, a => a
 | n + 1, a => .n (Ann.m n a)
def Item.pick : List Item → Nat → List Item
 | [], _ => []
 | x :: l, m => bif Nat.beq (m % 2) 1 then x :: Item.pick l (m / 2) else Item.pick l (m / 2)
def Ann.lp (v : List Item) (m : Nat) (a : Ann) : Ann := .loop v (Item.pick v m) a
def PK.v (c : CK) : PK := .val false c
def PK.w (c : CK) : PK := .val true c
def RK.f (c : CK) : RK := ⟨false, c, true⟩
def RK.t (c : CK) : RK := ⟨true, c, true⟩
abbrev Zl0 : ByteArray := ⟨#[108, 111, 103, 46, 110, 101, 119]⟩
abbrev Zl1 : ByteArray := ⟨#[98, 112, 101]⟩
abbrev Zl2 : ByteArray := ⟨#[115, 110, 97, 112, 46, 110, 101, 119]⟩
variable (k : Nat)
def Pht.f (k : Nat) (a0 : T11) (a1 : Int) : Option Int :=
 bif decide (Zr (a1 - (a0.2.size : Int)) < 0) then some (-1) else some (Zr (a1 - (a0.2.size : Int)))
theorem Pht.ok : Yg 155 ⟨⟨[.w K8, .v K0], [.f K0]⟩, fun k (x : T11 × Int) => Pht.f k x.1 x.2⟩ := Yq 13 Yv (.n (.n (.seq .c (.n .l)))) Tryz.func155 Yn
def Pgr.f (a0 : List T11) (a1 : Int) : Option Int := szL (Pht.f k) k a0 a1
theorem Pgr.ok : Yg 67 ⟨⟨[.v (.sl 189 K8), .v K0], [.f K0]⟩, fun k (x : List T11 × Int) => Pgr.f k x.1 x.2⟩ := Yq 27 Yv (.n (.n (.seq .c (.seq (.n (.lp [.s 0 (.sl 189 K8), .s 1 K0, .s 4 K0, .s 5 K0] 6 (.seq (.n (.cond .l .l)) (.seq (.blk (.n .c)) .l)))) (.n .l))))) Tryz.func67 (Yc Pht.ok Yn)
def Per.f (k : Nat) (a0 : List Int) (a1 : Int) : Option Int :=
 bif decide (Zr (a1 - (a0.length : Int)) < 0) then some (-1) else some (Zr (a1 - (a0.length : Int)))
theorem Per.ok : Yg 68 ⟨⟨[.v K18, .v K0], [.f K0]⟩, fun k (x : T29) => Per.f k x.1 x.2⟩ := Yq 12 Yv (.n (.n (.seq .c (.n .l)))) Tryz.func68 Yn
def Pil.f (a0 : T3) (a1 : Int) : Option Int :=
 (Pgr.f k a0.2.2.2.2.2.2.2.2.1 a1).bind fun r1 => bif decide (r1 < 0) then some (-1) else (Per.f k a0.2.2.2.2.2.2.2.2.2.2.1 r1).bind fun r2 => bif decide (r2 < 0) then some (-1) else (Per.f k a0.2.2.2.2.2.2.2.2.2.2.2.1 r2).bind fun r3 => bif decide (r3 < 0) then some (-1) else (Per.f k a0.2.2.2.2.2.2.2.2.2.2.2.2 r3).bind fun r4 => bif decide (r4 < 0) then some (-1) else some r4
theorem Pil.ok : Yg 23 ⟨⟨[.w K23, .v K0], [.f K0]⟩, fun k (x : T3 × Int) => Pil.f k x.1 x.2⟩ := Yq 30 Yv (.n (.n (.seq .c (.n (.seq .c (.n (.seq .c (.n (.seq .c (.n .l)))))))))) Tryz.func23 (Yc Pgr.ok (Yc Per.ok Yn))
def Pfq.f (k : Nat) (a0 : T9) (a1 : Int) : Option Int :=
 bif decide (Zr (a1 - (a0.1.size : Int)) < 0) then some (-1) else bif decide (Zr ((Zr (a1 - (a0.1.size : Int))) - (a0.2.1.size : Int)) < 0) then some (-1) else some (Zr ((Zr (a1 - (a0.1.size : Int))) - (a0.2.1.size : Int)))
theorem Pfq.ok : Yg 156 ⟨⟨[.w K10, .v K0], [.f K0]⟩, fun k (x : T9 × Int) => Pfq.f k x.1 x.2⟩ := Yq 20 Yv (.n (.n (.seq .c (.n (.seq .c (.n .l)))))) Tryz.func156 Yn
def Pex.f (a0 : List T9) (a1 : Int) : Option Int := szL (Pfq.f k) k a0 a1
theorem Pex.ok : Yg 69 ⟨⟨[.v K33, .v K0], [.f K0]⟩, fun k (x : List T9 × Int) => Pex.f k x.1 x.2⟩ := Yq 27 Yv (.n (.n (.seq .c (.seq (.n (.lp [.s 0 K33, .s 1 K0, .s 4 K0, .s 5 K0] 6 (.seq (.n (.cond .l .l)) (.seq (.blk (.n .c)) .l)))) (.n .l))))) Tryz.func69 (Yc Pfq.ok Yn)
def Pgq.f (k : Nat) (a0 : T27) (a1 : Int) : Option Int :=
 bif decide (Zr (a1 - (a0.2.2.2.1.size : Int)) < 0) then some (-1) else some (Zr (a1 - (a0.2.2.2.1.size : Int)))
theorem Pgq.ok : Yg 239 ⟨⟨[.w K6, .v K0], [.f K0]⟩, fun k (x : T27 × Int) => Pgq.f k x.1 x.2⟩ := Yq 13 Yv (.n (.n (.seq .c (.n .l)))) Tryz.func239 Yn
def Pfp.f (a0 : T8) (a1 : Int) : Option Int :=
 (Pgq.f k a0.2.2 a1).bind fun r1 => bif decide (r1 < 0) then some (-1) else some r1
theorem Pfp.ok : Yg 157 ⟨⟨[.w K13, .v K0], [.f K0]⟩, fun k (x : T8 × Int) => Pfp.f k x.1 x.2⟩ := Yq 12 Yv (.n (.n (.seq .c (.n .l)))) Tryz.func157 (Yc Pgq.ok Yn)
def Pew.f (a0 : List T8) (a1 : Int) : Option Int := szL (Pfp.f k) k a0 a1
theorem Pew.ok : Yg 70 ⟨⟨[.v K34, .v K0], [.f K0]⟩, fun k (x : List T8 × Int) => Pew.f k x.1 x.2⟩ := Yq 27 Yv (.n (.n (.seq .c (.seq (.n (.lp [.s 0 K34, .s 1 K0, .s 4 K0, .s 5 K0] 6 (.seq (.n (.cond .l .l)) (.seq (.blk (.n .c)) .l)))) (.n .l))))) Tryz.func70 (Yc Pfp.ok Yn)
def Pjn.f (a0 : T0) (a1 : Int) : Option Int :=
 (Pex.f k a0.1 a1).bind fun r1 => bif decide (r1 < 0) then some (-1) else (Per.f k a0.2.1 r1).bind fun r2 => bif decide (r2 < 0) then some (-1) else (Pew.f k a0.2.2 r2).bind fun r3 => bif decide (r3 < 0) then some (-1) else some r3
theorem Pjn.ok : Yg 24 ⟨⟨[.w (.pair K33 (.pair K18 K34)), .v K0], [.f K0]⟩, fun k (x : T0 × Int) => Pjn.f k x.1 x.2⟩ := Yq 24 Yv (.n (.n (.seq .c (.n (.seq .c (.n (.seq .c (.n .l)))))))) Tryz.func24 (Yc Pex.ok (Yc Per.ok (Yc Pew.ok Yn)))
def Pip.f (k : Nat) (a0 : T5) (a1 : Int) : Option Int :=
 bif decide (Zr (a1 - (a0.2.2.size : Int)) < 0) then some (-1) else some (Zr (a1 - (a0.2.2.size : Int)))
theorem Pip.ok : Yg 25 ⟨⟨[.w K14, .v K0], [.f K0]⟩, fun k (x : T5 × Int) => Pip.f k x.1 x.2⟩ := Yq 13 Yv (.n (.n (.seq .c (.n .l)))) Tryz.func25 Yn
def Phu.f (k : Nat) (a0 : T22) (a1 : Int) : Option Int :=
 bif decide (Zr (a1 - (a0.2.1.size : Int)) < 0) then some (-1) else some (Zr (a1 - (a0.2.1.size : Int)))
theorem Phu.ok : Yg 158 ⟨⟨[.w K19, .v K0], [.f K0]⟩, fun k (x : T22 × Int) => Phu.f k x.1 x.2⟩ := Yq 13 Yv (.n (.n (.seq .c (.n .l)))) Tryz.func158 Yn
def Pgs.f (a0 : List T22) (a1 : Int) : Option Int := szL (Phu.f k) k a0 a1
theorem Pgs.ok : Yg 71 ⟨⟨[.v (.sl 197 K19), .v K0], [.f K0]⟩, fun k (x : List T22 × Int) => Pgs.f k x.1 x.2⟩ := Yq 27 Yv (.n (.n (.seq .c (.seq (.n (.lp [.slot 0 false (.sl 197 K19) false, .s 1 K0, .s 4 K0, .s 5 K0] 6 (.seq (.n (.cond .l .l)) (.seq (.blk (.n .c)) .l)))) (.n .l))))) Tryz.func71 (Yc Phu.ok Yn)
def Pin.f (k : Nat) (a0 : T4) (a1 : Int) : Option Int :=
 bif decide (Zr (a1 - (a0.1.size : Int)) < 0) then some (-1) else some (Zr (a1 - (a0.1.size : Int)))
theorem Pin.ok : Yg 159 ⟨⟨[.w K5, .v K0], [.f K0]⟩, fun k (x : T4 × Int) => Pin.f k x.1 x.2⟩ := Yq 13 Yv (.n (.n (.seq .c (.n .l)))) Tryz.func159 Yn
def Phv.f (a0 : List T4) (a1 : Int) : Option Int := szL (Pin.f k) k a0 a1
theorem Phv.ok : Yg 72 ⟨⟨[.v (.sl 199 K5), .v K0], [.f K0]⟩, fun k (x : List T4 × Int) => Phv.f k x.1 x.2⟩ := Yq 27 Yv (.n (.n (.seq .c (.seq (.n (.lp [.s 0 (.sl 199 K5), .s 1 K0, .s 4 K0, .s 5 K0] 6 (.seq (.n (.cond .l .l)) (.seq (.blk (.n .c)) .l)))) (.n .l))))) Tryz.func72 (Yc Pin.ok Yn)
def Pio.f (k : Nat) (a0 : T26) (a1 : Int) : Option Int :=
 bif decide (Zr (a1 - (a0.2.1.size : Int)) < 0) then some (-1) else bif decide (Zr ((Zr (a1 - (a0.2.1.size : Int))) - (a0.2.2.1.size : Int)) < 0) then some (-1) else some (Zr ((Zr (a1 - (a0.2.1.size : Int))) - (a0.2.2.1.size : Int)))
theorem Pio.ok : Yg 160 ⟨⟨[.w K15, .v K0], [.f K0]⟩, fun k (x : T26 × Int) => Pio.f k x.1 x.2⟩ := Yq 20 Yv (.n (.n (.seq .c (.n (.seq .c (.n .l)))))) Tryz.func160 Yn
def Phw.f (a0 : List T26) (a1 : Int) : Option Int := szL (Pio.f k) k a0 a1
theorem Phw.ok : Yg 73 ⟨⟨[.v (.sl 201 K15), .v K0], [.f K0]⟩, fun k (x : List T26 × Int) => Phw.f k x.1 x.2⟩ := Yq 27 Yv (.n (.n (.seq .c (.seq (.n (.lp [.slot 0 false (.sl 201 K15) false, .s 1 K0, .s 4 K0, .s 5 K0] 6 (.seq (.n (.cond .l .l)) (.seq (.blk (.n .c)) .l)))) (.n .l))))) Tryz.func73 (Yc Pio.ok Yn)
def Pim.f (a0 : T1) (a1 : Int) : Option Int :=
 (Pgs.f k a0.2.2.1 a1).bind fun r1 => bif decide (r1 < 0) then some (-1) else (Phv.f k a0.2.2.2.1 r1).bind fun r2 => bif decide (r2 < 0) then some (-1) else (Phw.f k a0.2.2.2.2 r2).bind fun r3 => bif decide (r3 < 0) then some (-1) else some r3
theorem Pim.ok : Yg 26 ⟨⟨[.w K31, .v K0], [.f K0]⟩, fun k (x : T1 × Int) => Pim.f k x.1 x.2⟩ := Yq 24 Yv (.n (.n (.seq .c (.n (.seq .c (.n (.seq .c (.n .l)))))))) Tryz.func26 (Yc Pgs.ok (Yc Phv.ok (Yc Phw.ok Yn)))
def Phf.f (a0 : T12) (a1 : Int) : Option Int :=
 (Pil.f k a0.2.2.2.1 a1).bind fun r1 => bif decide (r1 < 0) then some (-1) else (Pjn.f k a0.2.2.2.2.1 r1).bind fun r2 => bif decide (r2 < 0) then some (-1) else (Pip.f k a0.2.2.2.2.2.1 r2).bind fun r3 => bif decide (r3 < 0) then some (-1) else (Pim.f k a0.2.2.2.2.2.2.1 r3).bind fun r4 => bif decide (r4 < 0) then some (-1) else some r4
theorem Phf.ok : Yg 8 ⟨⟨[.w K9, .v K0], [.f K0]⟩, fun k (x : T12 × Int) => Phf.f k x.1 x.2⟩ := Yq 30 Yv (.n (.n (.seq .c (.n (.seq .c (.n (.seq .c (.n (.seq .c (.n .l)))))))))) Tryz.func8 (Yc Pil.ok (Yc Pjn.ok (Yc Pip.ok (Yc Pim.ok Yn))))
def Phx.f (k : Nat) (a0 : T11) : Option T11 :=
 some a0
theorem Phx.ok : Yg 183 ⟨⟨[.w K8], [.t K8]⟩, fun k (x : T11) => Phx.f k x⟩ := Yq 11 Yv (.m 5 .l) Tryz.func183 Yn
def Pgu.f (a0 : List T11) : Option (List T11) := toL (Phx.f k) (limOf 24) ((0 : Int), Ze) k a0
theorem Pgu.ok : Yg 93 ⟨⟨[.v (.sl 189 K8)], [.f K22]⟩, fun k (x : List T11) => Pgu.f k x⟩ := Yq 23 (Yk 145 K8 Yv) (.n (.n (.seq (.n (.lp [.s 0 (.sl 189 K8), .o 2 K22, .o 3 K22, .s 4 K0] 6 (.seq (.n (.cond .l .l)) (.seq (.blk .l) .l)))) (.n .l)))) Tryz.func93 (Yc Phx.ok Yn)
def Pes.f (a0 : List Int) : Option (List Int) := toL some (limOf 8) (0 : Int) k a0
theorem Pes.ok : Yg 94 ⟨⟨[.v K18], [.f K18]⟩, fun k (x : List Int) => Pes.f k x⟩ := Yq 22 (Yk 3 K0 Yv) (.n (.n (.seq (.n (.lp [.s 0 K18, .o 2 K18, .o 3 K18, .s 4 K0] 6 (.seq (.n (.cond .l .l)) (.seq (.blk .l) .l)))) (.n .l)))) Tryz.func94 Yn
def Piq.f (a0 : T3) : Option T3 :=
 (Pgu.f k a0.2.2.2.2.2.2.2.2.1).bind fun r1 => (Pes.f k a0.2.2.2.2.2.2.2.2.2.2.1).bind fun r2 => (Pes.f k a0.2.2.2.2.2.2.2.2.2.2.2.1).bind fun r3 => (Pes.f k a0.2.2.2.2.2.2.2.2.2.2.2.2).bind fun r4 => some (a0.1, a0.2.1, a0.2.2.1, a0.2.2.2.1, a0.2.2.2.2.1, a0.2.2.2.2.2.1, a0.2.2.2.2.2.2.1, a0.2.2.2.2.2.2.2.1, r1, a0.2.2.2.2.2.2.2.2.2.1, r2, r3, r4)
theorem Piq.ok : Yg 37 ⟨⟨[.w K23], [.t K3]⟩, fun k (x : T3) => Piq.f k x⟩ := Yq 48 Yv (.m 16 .l) Tryz.func37 (Yc Pgu.ok (Yc Pes.ok Yn))
def Pfs.f (k : Nat) (a0 : T9) : Option T9 :=
 some a0
theorem Pfs.ok : Yg 184 ⟨⟨[.w K10], [.t K10]⟩, fun k (x : T9) => Pfs.f k x⟩ := Yq 14 Yv (.m 6 .l) Tryz.func184 Yn
def Pez.f (a0 : List T9) : Option (List T9) := toL (Pfs.f k) (limOf 40) (Ze, Ze, (0 : Int)) k a0
theorem Pez.ok : Yg 95 ⟨⟨[.v K33], [.f K26]⟩, fun k (x : List T9) => Pez.f k x⟩ := Yq 23 (Yk 124 K10 Yv) (.n (.n (.seq (.n (.lp [.s 0 K33, .slot 2 false K26 true, .slot 3 false K26 true, .s 4 K0] 6 (.seq (.n (.cond .l .l)) (.seq (.blk .l) .l)))) (.n .l)))) Tryz.func95 (Yc Pfs.ok Yn)
def Pgt.f (k : Nat) (a0 : T27) : Option T27 :=
 some a0
theorem Pgt.ok : Yg 247 ⟨⟨[.w K6], [.t K6]⟩, fun k (x : T27) => Pgt.f k x⟩ := Yq 23 Yv (.m 9 .l) Tryz.func247 Yn
def Pfr.f (a0 : T8) : Option T8 :=
 (Pgt.f k a0.2.2).bind fun r1 => some (a0.1, a0.2.1, r1)
theorem Pfr.ok : Yg 185 ⟨⟨[.w K13], [.t K13]⟩, fun k (x : T8) => Pfr.f k x⟩ := Yq 15 Yv (.m 6 .l) Tryz.func185 (Yc Pgt.ok Yn)
def Pey.f (a0 : List T8) : Option (List T8) := toL (Pfr.f k) (limOf 72) ((0 : Int), (0 : Int), (0 : Int), (0 : Int), (0 : Int), Ze, (0 : Int), (0 : Int)) k a0
theorem Pey.ok : Yg 96 ⟨⟨[.v K34], [.f K30]⟩, fun k (x : List T8) => Pey.f k x⟩ := Yq 23 (Yk 135 K13 Yv) (.n (.n (.seq (.n (.lp [.s 0 K34, .slot 2 false K30 true, .slot 3 false K30 true, .s 4 K0] 6 (.seq (.n (.cond .l .l)) (.seq (.blk .l) .l)))) (.n .l)))) Tryz.func96 (Yc Pfr.ok Yn)
def Pjo.f (a0 : T0) : Option T0 :=
 (Pez.f k a0.1).bind fun r1 => (Pes.f k a0.2.1).bind fun r2 => (Pey.f k a0.2.2).bind fun r3 => some (r1, r2, r3)
theorem Pjo.ok : Yg 38 ⟨⟨[.w (.pair K33 (.pair K18 K34))], [.t K1]⟩, fun k (x : T0) => Pjo.f k x⟩ := Yq 17 Yv (.m 6 .l) Tryz.func38 (Yc Pez.ok (Yc Pes.ok (Yc Pey.ok Yn)))
def Piu.f (k : Nat) (a0 : T5) : Option T5 :=
 some a0
theorem Piu.ok : Yg 39 ⟨⟨[.w K14], [.t K14]⟩, fun k (x : T5) => Piu.f k x⟩ := Yq 14 Yv (.m 6 .l) Tryz.func39 Yn
def Phy.f (k : Nat) (a0 : T22) : Option T22 :=
 some a0
theorem Phy.ok : Yg 186 ⟨⟨[.w K19], [.t K19]⟩, fun k (x : T22) => Phy.f k x⟩ := Yq 14 Yv (.m 6 .l) Tryz.func186 Yn
def Pgv.f (a0 : List T22) : Option (List T22) := toL (Phy.f k) (limOf 32) ((0 : Int), Ze, (0 : Int)) k a0
theorem Pgv.ok : Yg 97 ⟨⟨[.v (.sl 197 K19)], [.f K28]⟩, fun k (x : List T22) => Pgv.f k x⟩ := Yq 23 (Yk 110 K19 Yv) (.n (.n (.seq (.n (.lp [.slot 0 false (.sl 197 K19) false, .slot 2 false K28 true, .slot 3 false K28 true, .s 4 K0] 6 (.seq (.n (.cond .l .l)) (.seq (.blk .l) .l)))) (.n .l)))) Tryz.func97 (Yc Phy.ok Yn)
def Pis.f (k : Nat) (a0 : T4) : Option T4 :=
 some a0
theorem Pis.ok : Yg 187 ⟨⟨[.w K5], [.t K5]⟩, fun k (x : T4) => Pis.f k x⟩ := Yq 11 Yv (.m 5 .l) Tryz.func187 Yn
def Phz.f (a0 : List T4) : Option (List T4) := toL (Pis.f k) (limOf 24) (Ze, (0 : Int)) k a0
theorem Phz.ok : Yg 98 ⟨⟨[.v (.sl 199 K5)], [.f K11]⟩, fun k (x : List T4) => Phz.f k x⟩ := Yq 23 (Yk 114 K5 Yv) (.n (.n (.seq (.n (.lp [.s 0 (.sl 199 K5), .o 2 K11, .o 3 K11, .s 4 K0] 6 (.seq (.n (.cond .l .l)) (.seq (.blk .l) .l)))) (.n .l)))) Tryz.func98 (Yc Pis.ok Yn)
def Pit.f (k : Nat) (a0 : T26) : Option T26 :=
 some a0
theorem Pit.ok : Yg 188 ⟨⟨[.w K15], [.t K15]⟩, fun k (x : T26) => Pit.f k x⟩ := Yq 17 Yv (.m 7 .l) Tryz.func188 Yn
def Pia.f (a0 : List T26) : Option (List T26) := toL (Pit.f k) (limOf 48) ((0 : Int), Ze, Ze, (0 : Int)) k a0
theorem Pia.ok : Yg 99 ⟨⟨[.v (.sl 201 K15)], [.f K29]⟩, fun k (x : List T26) => Pia.f k x⟩ := Yq 23 (Yk 117 K15 Yv) (.n (.n (.seq (.n (.lp [.slot 0 false (.sl 201 K15) false, .slot 2 false K29 true, .slot 3 false K29 true, .s 4 K0] 6 (.seq (.n (.cond .l .l)) (.seq (.blk .l) .l)))) (.n .l)))) Tryz.func99 (Yc Pit.ok Yn)
def Pir.f (a0 : T1) : Option T1 :=
 (Pgv.f k a0.2.2.1).bind fun r1 => (Phz.f k a0.2.2.2.1).bind fun r2 => (Pia.f k a0.2.2.2.2).bind fun r3 => some (a0.1, a0.2.1, r1, r2, r3)
theorem Pir.ok : Yg 40 ⟨⟨[.w K31], [.t K2]⟩, fun k (x : T1) => Pir.f k x⟩ := Yq 23 Yv (.m 8 .l) Tryz.func40 (Yc Pgv.ok (Yc Phz.ok (Yc Pia.ok Yn)))
def Pfk.f (a0 : T12) : Option T12 :=
 (Piq.f k a0.2.2.2.1).bind fun r1 => (Pjo.f k a0.2.2.2.2.1).bind fun r2 => (Piu.f k a0.2.2.2.2.2.1).bind fun r3 => (Pir.f k a0.2.2.2.2.2.2.1).bind fun r4 => some (a0.1, a0.2.1, a0.2.2.1, r1, r2, r3, r4, a0.2.2.2.2.2.2.2)
theorem Pfk.ok : Yg 10 ⟨⟨[.w K9], [.t K7]⟩, fun k (x : T12) => Pfk.f k x⟩ := Yq 39 Yv (.m 13 .l) Tryz.func10 (Yc Piq.ok (Yc Pjo.ok (Yc Piu.ok (Yc Pir.ok Yn))))
def Paj.f (k : Nat) (a0 : Int) (a1 : Int) (a2 : Int) : Option Bool :=
 bif decide (a1 ≤ a0) then some (decide (a0 ≤ a2)) else some false
theorem Paj.ok : Yg 27 ⟨⟨[.v K0, .v K0, .v K0], [.f .bool]⟩, fun k (x : Int × T6) => Paj.f k x.1 x.2.1 x.2.2⟩ := Yq 15 Yv (.n (.n .l)) Tryz.func27 Yn
def Pde.b0 (k : Nat) (s : Int × Int × Int × T1) : Option ((Int × Int × Int × T1) ⊕ T6 ⊕ Int) :=
 bif decide (s.2.2.1 < (s.2.2.2.2.2.1.length : Int)) then (inb? s.2.2.2.2.2.1.length s.2.2.1).bind fun j1 => (s.2.2.2.2.2.1[j1]?).bind fun y2 => some (.inl (s.1, Zr (s.2.1 + (y2.2.1.size : Int)), Zr (s.2.2.1 + 1), s.2.2.2)) else some (.inr (.inl (s.1, s.2.1)))
def Pde.d0 (k : Nat) (y : T6) : Option Int :=
 some y.2
def Pde.f (a0 : T1) : Option Int :=
 (iter (X := T6 ⊕ Int) (Pde.b0 k) k (0, 0, 0, a0)).bind fun r => match r with | .inl y => Pde.d0 k y | .inr o => some o
theorem Pde.ok : Yg 74 ⟨⟨[.w K2], [.f K0]⟩, fun k (x : T1) => Pde.f k x⟩ := Yq 22 Yv (.n (.n (.seq (.n (.lp [.ptr 1 1000, .s 2 K0, .s 3 K0, .s 4 K0, .box 1000 53 K2 false false] 6 (.seq (.n (.cond .l .l)) (.seq (.blk .l) .l)))) (.n .l)))) Tryz.func74 Yn
def Pbw.b0 (k : Nat) (s : List T4 × T36) : Option ((List T4 × T36) ⊕ Bool ⊕ Bool) :=
 bif decide (s.2.2.2 < (s.1.length : Int)) then (inb? s.1.length s.2.2.2).bind fun j1 => (s.1[j1]?).bind fun y2 => bif decide (y2.2 = s.2.1) then some (.inr (.inr true)) else some (.inl (s.1, s.2.1, s.2.2.1, Zr (s.2.2.2 + 1))) else some (.inr (.inl s.2.2.1))
def Pbw.d0 (k : Nat) (y : Bool) : Option Bool :=
 some false
def Pbw.f (a0 : List T4) (a1 : Int) : Option Bool :=
 (iter (X := Bool ⊕ Bool) (Pbw.b0 k) k (a0, a1, false, 0)).bind fun r => match r with | .inl y => Pbw.d0 k y | .inr o => some o
theorem Pbw.ok : Yg 75 ⟨⟨[.v K11, .v K0], [.f .bool]⟩, fun k (x : List T4 × Int) => Pbw.f k x.1 x.2⟩ := Yq 19 Yv (.n (.seq (.n (.lp [.s 0 K11, .s 1 K0, .s 4 .bool, .s 5 K0] 4 (.seq (.n (.cond .l .l)) (.seq (.blk .c) .l)))) (.n .l))) Tryz.func75 Yn
def Pdc.b0 (k : Nat) (s : List T26 × T36) : Option ((List T26 × T36) ⊕ Bool ⊕ Bool) :=
 bif decide (s.2.2.2 < (s.1.length : Int)) then (inb? s.1.length s.2.2.2).bind fun j1 => (s.1[j1]?).bind fun y2 => bif decide (y2.1 = 1) then (inb? s.1.length s.2.2.2).bind fun j3 => (s.1[j3]?).bind fun y4 => bif decide (y4.2.2.2 = s.2.1) then some (.inr (.inr true)) else some (.inl (s.1, s.2.1, s.2.2.1, Zr (s.2.2.2 + 1))) else some (.inl (s.1, s.2.1, s.2.2.1, Zr (s.2.2.2 + 1))) else some (.inr (.inl s.2.2.1))
def Pdc.d0 (k : Nat) (y : Bool) : Option Bool :=
 some false
def Pdc.f (a0 : List T26) (a1 : Int) : Option Bool :=
 (iter (X := Bool ⊕ Bool) (Pdc.b0 k) k (a0, a1, false, 0)).bind fun r => match r with | .inl y => Pdc.d0 k y | .inr o => some o
theorem Pdc.ok : Yg 76 ⟨⟨[.v K29, .v K0], [.f .bool]⟩, fun k (x : List T26 × Int) => Pdc.f k x.1 x.2⟩ := Yq 27 Yv (.n (.seq (.n (.lp [.s 0 K29, .s 1 K0, .s 4 .bool, .s 5 K0] 4 (.seq (.n (.cond .l .l)) (.seq (.blk .c) .l)))) (.n .l))) Tryz.func76 Yn
def Pco.b0 (k : Nat) (s : Zb × Bool × Int) : Option ((Zb × Bool × Int) ⊕ Bool ⊕ Bool) :=
 bif decide (s.2.2 < (s.1.size : Int)) then (inb? s.1.size s.2.2).bind fun j1 => bif decide (97 ≤ Qmy s.1 j1) then bif decide (Qmy s.1 j1 ≤ 122) then some (.inl (s.1, s.2.1, Zr (s.2.2 + 1))) else bif decide (48 ≤ Qmy s.1 j1) then bif decide (Qmy s.1 j1 ≤ 57) then some (.inl (s.1, s.2.1, Zr (s.2.2 + 1))) else bif !(decide (Qmy s.1 j1 = 46)) then some (.inr (.inr false)) else some (.inl (s.1, s.2.1, Zr (s.2.2 + 1))) else bif !(decide (Qmy s.1 j1 = 46)) then some (.inr (.inr false)) else some (.inl (s.1, s.2.1, Zr (s.2.2 + 1))) else bif decide (48 ≤ Qmy s.1 j1) then bif decide (Qmy s.1 j1 ≤ 57) then some (.inl (s.1, s.2.1, Zr (s.2.2 + 1))) else bif !(decide (Qmy s.1 j1 = 46)) then some (.inr (.inr false)) else some (.inl (s.1, s.2.1, Zr (s.2.2 + 1))) else bif !(decide (Qmy s.1 j1 = 46)) then some (.inr (.inr false)) else some (.inl (s.1, s.2.1, Zr (s.2.2 + 1))) else some (.inr (.inl s.2.1))
def Pco.d0 (k : Nat) (y : Bool) : Option Bool :=
 some true
def Pco.f (a0 : Zb) : Option Bool :=
 (Paj.f k (a0.size : Int) 1 12).bind fun r1 => bif !r1 then some false else (iter (X := Bool ⊕ Bool) (Pco.b0 k) k (a0, false, 0)).bind fun r => match r with | .inl y => Pco.d0 k y | .inr o => some o
theorem Pco.ok : Yg 77 ⟨⟨[.v .str], [.f .bool]⟩, fun k (x : Zb) => Pco.f k x⟩ := Yq 37 Yv (.n (.seq .c (.seq (.n (.lp [.s 0 .str, .s 2 .bool, .s 3 K0] 2 (.seq (.n (.cond .l .l)) (.seq (.blk (.n .c)) .l)))) (.n .l)))) Tryz.func77 (Yc Paj.ok Yn)
def Pcf.b0 (k : Nat) (s : Int × Int × Int × T1) : Option ((Int × Int × Int × T1) ⊕ Int ⊕ Int) :=
 bif decide (s.2.2.1 < (s.2.2.2.2.2.1.length : Int)) then (inb? s.2.2.2.2.2.1.length s.2.2.1).bind fun j1 => (s.2.2.2.2.2.1[j1]?).bind fun y2 => bif decide (y2.1 = s.1) then some (.inr (.inr s.2.2.1)) else some (.inl (s.1, s.2.1, Zr (s.2.2.1 + 1), s.2.2.2)) else some (.inr (.inl s.2.1))
def Pcf.d0 (k : Nat) (y : Int) : Option Int :=
 some (-1)
def Pcf.f (a0 : T1) (a1 : Int) : Option Int :=
 (iter (X := Int ⊕ Int) (Pcf.b0 k) k (a1, 0, 0, a0)).bind fun r => match r with | .inl y => Pcf.d0 k y | .inr o => some o
theorem Pcf.ok : Yg 78 ⟨⟨[.w K2, .v K0], [.f K0]⟩, fun k (x : T1 × Int) => Pcf.f k x.1 x.2⟩ := Yq 22 Yv (.n (.seq (.n (.lp [.s 1 K0, .ptr 2 1000, .s 4 K0, .s 5 K0, .box 1000 53 K2 false false] 4 (.seq (.n (.cond .l .l)) (.seq (.blk .c) .l)))) (.n .l))) Tryz.func78 Yn
def Pee.b0 (k : Nat) (s : List T4 × Zb × T6) : Option ((List T4 × Zb × T6) ⊕ Int ⊕ Int) :=
 bif decide (s.2.2.2 < (s.1.length : Int)) then (inb? s.1.length s.2.2.2).bind fun j1 => (s.1[j1]?).bind fun y2 => bif decide (y2.1 = s.2.1) then some (.inr (.inr s.2.2.2)) else some (.inl (s.1, s.2.1, s.2.2.1, Zr (s.2.2.2 + 1))) else some (.inr (.inl s.2.2.1))
def Pee.d0 (k : Nat) (y : Int) : Option Int :=
 some (-1)
def Pee.f (a0 : List T4) (a1 : Zb) : Option Int :=
 (iter (X := Int ⊕ Int) (Pee.b0 k) k (a0, a1, 0, 0)).bind fun r => match r with | .inl y => Pee.d0 k y | .inr o => some o
theorem Pee.ok : Yg 161 ⟨⟨[.v K11, .v .str], [.f K0]⟩, fun k (x : List T4 × Zb) => Pee.f k x.1 x.2⟩ := Yq 20 Yv (.n (.seq (.n (.lp [.s 0 K11, .s 1 .str, .s 4 K0, .s 5 K0] 4 (.seq (.n (.cond .l .l)) (.seq (.blk .c) .l)))) (.n .l))) Tryz.func161 Yn
def Pap.b0 (k : Nat) (s : List T4 × Zb × List T4 × List T4 × Int) : Option ((List T4 × Zb × List T4 × List T4 × Int) ⊕ T35 ⊕ (List T4)) :=
 bif decide (s.2.2.2.2 < (s.1.length : Int)) then (inb? s.1.length s.2.2.2.2).bind fun j1 => (s.1[j1]?).bind fun y2 => bif !decide (y2.1 = s.2.1) then (inb? s.1.length s.2.2.2.2).bind fun j3 => (s.1[j3]?).bind fun y4 => (app? (limOf 24) s.2.2.2.1 ([y4])).bind fun l5 => some (.inl (s.1, s.2.1, s.2.2.1, l5, Zr (s.2.2.2.2 + 1))) else some (.inl (s.1, s.2.1, s.2.2.1, s.2.2.2.1, Zr (s.2.2.2.2 + 1))) else some (.inr (.inl (s.2.2.1, s.2.2.2.1)))
def Pap.d0 (k : Nat) (y : T35) : Option (List T4) :=
 some y.2
def Pap.f (a0 : List T4) (a1 : Zb) : Option (List T4) :=
 (iter (X := T35 ⊕ (List T4)) (Pap.b0 k) k (a0, a1, [], [], 0)).bind fun r => match r with | .inl y => Pap.d0 k y | .inr o => some o
theorem Pap.ok : Yg 163 ⟨⟨[.v K11, .v .str], [.f K11]⟩, fun k (x : List T4 × Zb) => Pap.f k x.1 x.2⟩ := Yq 29 (Yk 114 K5 Yv) (.n (.n (.seq (.n (.lp [.s 0 K11, .s 1 .str, .o 4 K11, .o 5 K11, .s 6 K0] 12 (.seq (.n (.cond .l .l)) (.seq (.blk (.n (.cond .l .l))) .l)))) (.n .l)))) Tryz.func163 Yn
def Pca.c0 (k : Nat) (y : List T4 × List T4 × List T4 × Bool × T22) : Option T31 :=
 (inb? y.1.length y.2.2.2.2.1).bind fun j1 => (y.1[j1]?).bind fun y2 => (app? (limOf 24) y.2.2.1 ([y2])).bind fun l3 => some (.inl (y.1, y.2.1, l3, y.2.2.2.1, Zr (y.2.2.2.2.1 + 1), y.2.2.2.2.2))
def Pca.b0 (s : List T4 × List T4 × List T4 × Bool × T22) : Option T31 :=
 bif decide (s.2.2.2.2.1 < (s.1.length : Int)) then Option.bind (α := (List T4 × List T4 × List T4 × Bool × T22) ⊕ (List T4)) (bif !s.2.2.2.1 then (inb? s.1.length s.2.2.2.2.1).bind fun j1 => (s.1[j1]?).bind fun y2 => bif strLt s.2.2.2.2.2.1 y2.1 then (app? (limOf 24) s.2.2.1 ([s.2.2.2.2.2])).bind fun l3 => some (.inl (s.1, s.2.1, l3, true, s.2.2.2.2)) else some (.inl s) else some (.inl s)) fun r => match r with | .inl y => Pca.c0 k y | .inr o => some (.inr (.inr o)) else some (.inr (.inl (s.2.1, s.2.2.1, s.2.2.2.1, s.2.2.2.2.2)))
def Pca.d0 (k : Nat) (y : List T4 × List T4 × Bool × T4) : Option (List T4) :=
 bif !y.2.2.1 then (app? (limOf 24) y.2.1 ([y.2.2.2])).bind fun l1 => some l1 else some y.2.1
def Pca.f (a0 : List T4) (a1 : T4) : Option (List T4) :=
 (Pap.f k a0 a1.1).bind fun r1 => (iter (X := (List T4 × List T4 × Bool × T4) ⊕ (List T4)) (Pca.b0 k) k (r1, [], [], false, 0, a1)).bind fun r => match r with | .inl y => Pca.d0 k y | .inr o => some o
theorem Pca.ok : Yg 162 ⟨⟨[.v K11, .w K5], [.f K11]⟩, fun k (x : List T4 × T4) => Pca.f k x.1 x.2⟩ := Yq 49 (Yk 114 K5 Yv) (.m 4 (.seq (.n (.lp [.o 0 K11, .ptr 3 1000, .o 4 K11, .o 5 K11, .s 6 .bool, .s 7 K0, .box 1000 114 K5 false false] 94 (.seq (.n (.cond .l .l)) (.seq (.blk (.seq (.cut [.o 0 K11, .ptr 3 1000, .o 4 K11, .o 5 K11, .s 6 .bool, .s 7 K0, .box 1000 114 K5 false false] .c) .l)) .l)))) (.seq (.n (.cond .l .l)) (.n .l)))) Tryz.func162 (Yc Pap.ok Yn)
def Pfh.f (a0 : List T4) (a1 : T26) : Option (List T4 × Bool) :=
 (Pee.f k a0 a1.2.1).bind fun r1 => (Pco.f k a1.2.1).bind fun r2 => bif !r2 then some (a0, false) else bif decide (a1.1 = 1) then bif decide (a1.2.2.1 = Ze) then bif decide (r1 < 0) then (Pca.f k a0 (a1.2.1, a1.2.2.2)).bind fun r3 => some (r3, true) else bif decide (a1.1 = 2) then bif decide (a1.2.2.2 = 0) then bif decide (0 ≤ r1) then (Pco.f k a1.2.2.1).bind fun r4 => bif r4 then bif !decide (a1.2.2.1 = a1.2.1) then (Pap.f k a0 a1.2.1).bind fun r5 => (inb? a0.length r1).bind fun j6 => (a0[j6]?).bind fun y7 => (Pca.f k r5 (a1.2.2.1, y7.2)).bind fun r8 => some (r8, true) else bif decide (a1.1 = 3) then bif decide (a1.2.2.2 = 0) then bif decide (a1.2.2.1 = Ze) then bif decide (0 ≤ r1) then (Pap.f k a0 a1.2.1).bind fun r9 => some (r9, true) else some (a0, false) else some (a0, false) else some (a0, false) else some (a0, false) else bif decide (a1.1 = 3) then bif decide (a1.2.2.2 = 0) then bif decide (a1.2.2.1 = Ze) then bif decide (0 ≤ r1) then (Pap.f k a0 a1.2.1).bind fun r10 => some (r10, true) else some (a0, false) else some (a0, false) else some (a0, false) else some (a0, false) else bif decide (a1.1 = 3) then bif decide (a1.2.2.2 = 0) then bif decide (a1.2.2.1 = Ze) then bif decide (0 ≤ r1) then (Pap.f k a0 a1.2.1).bind fun r11 => some (r11, true) else some (a0, false) else some (a0, false) else some (a0, false) else some (a0, false) else bif decide (a1.1 = 3) then bif decide (a1.2.2.2 = 0) then bif decide (a1.2.2.1 = Ze) then bif decide (0 ≤ r1) then (Pap.f k a0 a1.2.1).bind fun r12 => some (r12, true) else some (a0, false) else some (a0, false) else some (a0, false) else some (a0, false) else bif decide (a1.1 = 3) then bif decide (a1.2.2.2 = 0) then bif decide (a1.2.2.1 = Ze) then bif decide (0 ≤ r1) then (Pap.f k a0 a1.2.1).bind fun r13 => some (r13, true) else some (a0, false) else some (a0, false) else some (a0, false) else some (a0, false) else bif decide (a1.1 = 2) then bif decide (a1.2.2.2 = 0) then bif decide (0 ≤ r1) then (Pco.f k a1.2.2.1).bind fun r14 => bif r14 then bif !decide (a1.2.2.1 = a1.2.1) then (Pap.f k a0 a1.2.1).bind fun r15 => (inb? a0.length r1).bind fun j16 => (a0[j16]?).bind fun y17 => (Pca.f k r15 (a1.2.2.1, y17.2)).bind fun r18 => some (r18, true) else bif decide (a1.1 = 3) then bif decide (a1.2.2.2 = 0) then bif decide (a1.2.2.1 = Ze) then bif decide (0 ≤ r1) then (Pap.f k a0 a1.2.1).bind fun r19 => some (r19, true) else some (a0, false) else some (a0, false) else some (a0, false) else some (a0, false) else bif decide (a1.1 = 3) then bif decide (a1.2.2.2 = 0) then bif decide (a1.2.2.1 = Ze) then bif decide (0 ≤ r1) then (Pap.f k a0 a1.2.1).bind fun r20 => some (r20, true) else some (a0, false) else some (a0, false) else some (a0, false) else some (a0, false) else bif decide (a1.1 = 3) then bif decide (a1.2.2.2 = 0) then bif decide (a1.2.2.1 = Ze) then bif decide (0 ≤ r1) then (Pap.f k a0 a1.2.1).bind fun r21 => some (r21, true) else some (a0, false) else some (a0, false) else some (a0, false) else some (a0, false) else bif decide (a1.1 = 3) then bif decide (a1.2.2.2 = 0) then bif decide (a1.2.2.1 = Ze) then bif decide (0 ≤ r1) then (Pap.f k a0 a1.2.1).bind fun r22 => some (r22, true) else some (a0, false) else some (a0, false) else some (a0, false) else some (a0, false) else bif decide (a1.1 = 3) then bif decide (a1.2.2.2 = 0) then bif decide (a1.2.2.1 = Ze) then bif decide (0 ≤ r1) then (Pap.f k a0 a1.2.1).bind fun r23 => some (r23, true) else some (a0, false) else some (a0, false) else some (a0, false) else some (a0, false) else bif decide (a1.1 = 2) then bif decide (a1.2.2.2 = 0) then bif decide (0 ≤ r1) then (Pco.f k a1.2.2.1).bind fun r24 => bif r24 then bif !decide (a1.2.2.1 = a1.2.1) then (Pap.f k a0 a1.2.1).bind fun r25 => (inb? a0.length r1).bind fun j26 => (a0[j26]?).bind fun y27 => (Pca.f k r25 (a1.2.2.1, y27.2)).bind fun r28 => some (r28, true) else bif decide (a1.1 = 3) then bif decide (a1.2.2.2 = 0) then bif decide (a1.2.2.1 = Ze) then bif decide (0 ≤ r1) then (Pap.f k a0 a1.2.1).bind fun r29 => some (r29, true) else some (a0, false) else some (a0, false) else some (a0, false) else some (a0, false) else bif decide (a1.1 = 3) then bif decide (a1.2.2.2 = 0) then bif decide (a1.2.2.1 = Ze) then bif decide (0 ≤ r1) then (Pap.f k a0 a1.2.1).bind fun r30 => some (r30, true) else some (a0, false) else some (a0, false) else some (a0, false) else some (a0, false) else bif decide (a1.1 = 3) then bif decide (a1.2.2.2 = 0) then bif decide (a1.2.2.1 = Ze) then bif decide (0 ≤ r1) then (Pap.f k a0 a1.2.1).bind fun r31 => some (r31, true) else some (a0, false) else some (a0, false) else some (a0, false) else some (a0, false) else bif decide (a1.1 = 3) then bif decide (a1.2.2.2 = 0) then bif decide (a1.2.2.1 = Ze) then bif decide (0 ≤ r1) then (Pap.f k a0 a1.2.1).bind fun r32 => some (r32, true) else some (a0, false) else some (a0, false) else some (a0, false) else some (a0, false) else bif decide (a1.1 = 3) then bif decide (a1.2.2.2 = 0) then bif decide (a1.2.2.1 = Ze) then bif decide (0 ≤ r1) then (Pap.f k a0 a1.2.1).bind fun r33 => some (r33, true) else some (a0, false) else some (a0, false) else some (a0, false) else some (a0, false)
theorem Pfh.ok : Yg 79 ⟨⟨[.give false K11, .w K15], [.f K11, .f .bool]⟩, fun k (x : List T4 × T26) => Pfh.f k x.1 x.2⟩ := Yq 98 Yv (.n (.n (.seq (.blk (.n (.cond (.n .l) (.n (.cond (.n .l) (.n (.cond (.n .l) .c))))))) (.n .l)))) Tryz.func79 (Yc Pee.ok (Yc Pco.ok (Yc Pca.ok (Yc Pap.ok Yn))))
def Pas.b0 (s : Bool × Int × T1) : Option ((Bool × Int × T1) ⊕ (Bool × T1) ⊕ Bool) :=
 bif decide (s.2.1 < (s.2.2.2.2.1.length : Int)) then (inb? s.2.2.2.2.1.length s.2.1).bind fun j1 => (s.2.2.2.2.1[j1]?).bind fun y2 => (Paj.f k y2.1 1 (Zr (s.2.2.2.1 - 1))).bind fun r3 => bif !r3 then some (.inr (.inr false)) else (Paj.f k y2.2.2 0 (y2.2.1.size : Int)).bind fun r4 => bif !r4 then some (.inr (.inr false)) else bif decide (0 < s.2.1) then (inb? s.2.2.2.2.1.length (Zr (s.2.1 - 1))).bind fun j5 => (s.2.2.2.2.1[j5]?).bind fun y6 => bif decide (y2.1 ≤ y6.1) then some (.inr (.inr false)) else (Pbw.f k s.2.2.2.2.2.1 y2.1).bind fun r7 => bif !r7 then (Pdc.f k s.2.2.2.2.2.2 y2.1).bind fun r8 => bif !r8 then some (.inr (.inr false)) else some (.inl (s.1, Zr (s.2.1 + 1), s.2.2)) else some (.inl (s.1, Zr (s.2.1 + 1), s.2.2)) else (Pbw.f k s.2.2.2.2.2.1 y2.1).bind fun r9 => bif !r9 then (Pdc.f k s.2.2.2.2.2.2 y2.1).bind fun r10 => bif !r10 then some (.inr (.inr false)) else some (.inl (s.1, Zr (s.2.1 + 1), s.2.2)) else some (.inl (s.1, Zr (s.2.1 + 1), s.2.2)) else some (.inr (.inl (s.1, s.2.2)))
def Pas.b1 (s : Bool × Int × T1) : Option ((Bool × Int × T1) ⊕ (Bool × T1) ⊕ Bool) :=
 bif decide (s.2.1 < (s.2.2.2.2.2.1.length : Int)) then (inb? s.2.2.2.2.2.1.length s.2.1).bind fun j1 => (s.2.2.2.2.2.1[j1]?).bind fun y2 => (Pco.f k y2.1).bind fun r3 => bif !r3 then some (.inr (.inr false)) else bif decide (0 < s.2.1) then (inb? s.2.2.2.2.2.1.length (Zr (s.2.1 - 1))).bind fun j4 => (s.2.2.2.2.2.1[j4]?).bind fun y5 => bif !strLt y5.1 y2.1 then some (.inr (.inr false)) else (Pcf.f k s.2.2 y2.2).bind fun r6 => bif decide (r6 < 0) then some (.inr (.inr false)) else (cut? s.2.2.2.2.2.1.length 0 s.2.1).bind fun p7 => (Pbw.f k ((s.2.2.2.2.2.1.take p7.2).drop p7.1) y2.2).bind fun r8 => bif r8 then some (.inr (.inr false)) else some (.inl (s.1, Zr (s.2.1 + 1), s.2.2)) else (Pcf.f k s.2.2 y2.2).bind fun r9 => bif decide (r9 < 0) then some (.inr (.inr false)) else (cut? s.2.2.2.2.2.1.length 0 s.2.1).bind fun p10 => (Pbw.f k ((s.2.2.2.2.2.1.take p10.2).drop p10.1) y2.2).bind fun r11 => bif r11 then some (.inr (.inr false)) else some (.inl (s.1, Zr (s.2.1 + 1), s.2.2)) else some (.inr (.inl (s.1, s.2.2)))
def Pas.c0 (y : Bool × List T4 × Int × T1 × T26) : Option ((Bool × List T4 × Int × T1) ⊕ Bool ⊕ Bool) :=
 (Pfh.f k y.2.1 y.2.2.2.2).bind fun r1 => bif !r1.2 then some (.inr (.inr false)) else some (.inl (y.1, r1.1, Zr (y.2.2.1 + 1), y.2.2.2.1))
def Pas.b2 (s : Bool × List T4 × Int × T1) : Option ((Bool × List T4 × Int × T1) ⊕ Bool ⊕ Bool) :=
 bif decide (s.2.2.1 < (s.2.2.2.2.2.2.2.length : Int)) then (inb? s.2.2.2.2.2.2.2.length s.2.2.1).bind fun j1 => (s.2.2.2.2.2.2.2[j1]?).bind fun y2 => Option.bind (α := (Bool × List T4 × Int × T1 × T26) ⊕ Bool) (bif decide (y2.1 = 1) then (Pcf.f k s.2.2.2 y2.2.2.2).bind fun r3 => bif decide (r3 < 0) then some (.inr false) else (Pbw.f k s.2.2.2.2.2.2.1 y2.2.2.2).bind fun r4 => bif r4 then some (.inr false) else (cut? s.2.2.2.2.2.2.2.length 0 s.2.2.1).bind fun p5 => (Pdc.f k ((s.2.2.2.2.2.2.2.take p5.2).drop p5.1) y2.2.2.2).bind fun r6 => bif r6 then some (.inr false) else some (.inl (s.1, s.2.1, s.2.2.1, s.2.2.2, y2)) else some (.inl (s.1, s.2.1, s.2.2.1, s.2.2.2, y2))) fun r => match r with | .inl y => Pas.c0 k y | .inr o => some (.inr (.inr o)) else some (.inr (.inl s.1))
def Pas.d2 (k : Nat) (y : Bool) : Option Bool :=
 some true
def Pas.d1 (y : Bool × T1) : Option Bool :=
 (app? (limOf 24) ([]) y.2.2.2.2.1).bind fun l1 => (iter (X := Bool ⊕ Bool) (Pas.b2 k) k (y.1, l1, 0, y.2)).bind fun r => match r with | .inl y => Pas.d2 k y | .inr o => some o
def Pas.d0 (y : Bool × T1) : Option Bool :=
 (iter (X := (Bool × T1) ⊕ Bool) (Pas.b1 k) k (y.1, 0, y.2)).bind fun r => match r with | .inl y => Pas.d1 k y | .inr o => some o
def Pas.f (a0 : T1) : Option Bool :=
 (Paj.f k a0.1 0 1048576).bind fun r1 => bif !r1 then some false else (Paj.f k a0.2.1 1 1000000).bind fun r2 => bif !r2 then some false else bif decide (10 < (a0.2.2.1.length : Int)) then some false else bif decide (20 < (a0.2.2.2.2.length : Int)) then some false else bif decide (10 < (a0.2.2.2.1.length : Int)) then some false else (Pde.f k a0).bind fun r3 => bif decide (a0.1 < r3) then some false else (iter (X := (Bool × T1) ⊕ Bool) (Pas.b0 k) k (false, 0, a0)).bind fun r => match r with | .inl y => Pas.d0 k y | .inr o => some o
theorem Pas.ok : Yg 28 ⟨⟨[.w K2], [.f .bool]⟩, fun k (x : T1) => Pas.f k x⟩ := Yq 204 (Yk 114 K5 Yv) (.n (.seq .c (.seq .c (.seq (.n (.lp [.ptr 1 1000, .s 2 .bool, .s 3 K0, .box 1000 53 K2 false false] 11 (.seq (.n (.cond .l .l)) (.seq (.blk (.n .c)) .l)))) (.seq (.n (.lp [.ptr 1 1000, .s 2 .bool, .s 5 K0, .box 1000 53 K2 false false] 11 (.seq (.n (.cond .l .l)) (.seq (.blk (.n .c)) .l)))) (.n (.seq (.n (.lp [.ptr 1 1000, .s 2 .bool, .o 7 K11, .s 8 K0, .box 1000 53 K2 false false] 2 (.seq (.n (.cond .l .l)) (.seq (.blk (.n (.seq (.cut [.ptr 1 1000, .s 2 .bool, .o 7 K11, .s 8 K0, .ptr 9 22005, .box 1000 53 K2 false false, .box 22005 117 K15 false false] .c) (.n (.seq .c .l))))) .l)))) (.n .l)))))))) Tryz.func28 (Yc Paj.ok (Yc Pde.ok (Yc Pbw.ok (Yc Pdc.ok (Yc Pco.ok (Yc Pcf.ok (Yc Pfh.ok Yn)))))))
def Pic.f (k : Nat) (a0 : T12) : Option Bool :=
 bif decide (a0.2.2.2.1.1 = 0) then bif decide (a0.2.2.2.1.2.1 = 0) then bif decide (a0.2.2.2.1.2.2.1 = 0) then bif decide (a0.2.2.2.1.2.2.2.1 = 0) then bif decide (a0.2.2.2.1.2.2.2.2.1 = 0) then bif decide (a0.2.2.2.1.2.2.2.2.2.1 = 0) then bif decide (a0.2.2.2.1.2.2.2.2.2.2.1 = 0) then bif decide (a0.2.2.2.1.2.2.2.2.2.2.2.1 = 0) then bif decide ((a0.2.2.2.1.2.2.2.2.2.2.2.2.1.length : Int) = 0) then bif decide (a0.2.2.2.1.2.2.2.2.2.2.2.2.2.1 = 0) then bif decide ((a0.2.2.2.1.2.2.2.2.2.2.2.2.2.2.1.length : Int) = 0) then bif decide ((a0.2.2.2.1.2.2.2.2.2.2.2.2.2.2.2.1.length : Int) = 0) then bif decide ((a0.2.2.2.1.2.2.2.2.2.2.2.2.2.2.2.2.length : Int) = 0) then bif decide ((a0.2.2.2.2.1.1.length : Int) = 0) then bif decide ((a0.2.2.2.2.1.2.1.length : Int) = 0) then bif decide ((a0.2.2.2.2.1.2.2.length : Int) = 0) then some (decide (a0.2.2.2.2.2.1.1 = 0) && (decide (a0.2.2.2.2.2.1.2.1 = 0) && (decide (a0.2.2.2.2.2.1.2.2 = Ze) && true))) else some false else some false else some false else some false else some false else some false else some false else some false else some false else some false else some false else some false else some false else some false else some false else some false
theorem Pic.ok : Yg 29 ⟨⟨[.w K7], [.f .bool]⟩, fun k (x : T12) => Pic.f k x⟩ := Yq 100 Yv (.m 3 .l) Tryz.func29 Yn
def Pfl.f (k : Nat) (a0 : T3) : Option T2 :=
 (app? (limOf 24) ([]) a0.2.2.2.2.2.2.2.2.1).bind fun l1 => some (a0.2.2.1, a0.2.2.2.1, a0.2.2.2.2.2.2.1, a0.2.2.2.2.2.2.2.1, l1)
theorem Pfl.ok : Yg 36 ⟨⟨[.w K3], [.t K4]⟩, fun k (x : T3) => Pfl.f k x⟩ := Yq 16 (Yk 145 K8 Yv) (.n (.n .l)) Tryz.func36 Yn
def Peo.f (a0 : Int) (a1 : Int) : Option Bool :=
 bif decide (a0 = 0) then some (decide (a1 = 0)) else (Paj.f k a0 1 100000).bind fun r1 => bif r1 then (Paj.f k a1 1 100000).bind fun r2 => some r2 else some false
theorem Peo.ok : Yg 164 ⟨⟨[.v K0, .v K0], [.f .bool]⟩, fun k (x : T6) => Peo.f k x.1 x.2⟩ := Yq 15 Yv (.n (.seq .c (.n .l))) Tryz.func164 (Yc Paj.ok Yn)
def Pdr.b0 (k : Nat) (s : Bool × Int × Int × T2) : Option ((Bool × Int × Int × T2) ⊕ Bool ⊕ Bool) :=
 bif decide (s.2.2.1 < (s.2.2.2.2.2.2.2.length : Int)) then (inb? s.2.2.2.2.2.2.2.length s.2.2.1).bind fun j1 => (s.2.2.2.2.2.2.2[j1]?).bind fun y2 => bif decide (y2.1 < 1) then some (.inr (.inr false)) else bif decide (y2.1 < s.2.1) then some (.inr (.inr false)) else bif decide (s.2.2.2.1 < y2.1) then some (.inr (.inr false)) else bif decide (900 < (y2.2.size : Int)) then some (.inr (.inr false)) else some (.inl (s.1, y2.1, Zr (s.2.2.1 + 1), s.2.2.2)) else some (.inr (.inl s.1))
def Pdr.d0 (k : Nat) (y : Bool) : Option Bool :=
 some true
def Pdr.f (a0 : T2) : Option Bool :=
 (Paj.f k a0.1 0 100000).bind fun r1 => bif !r1 then some false else (Paj.f k a0.2.1 (-1) 4).bind fun r2 => bif !r2 then some false else (Peo.f k a0.2.2.1 a0.2.2.2.1).bind fun r3 => bif !r3 then some false else bif decide (a0.1 < a0.2.2.2.1) then some false else bif decide (60 < (a0.2.2.2.2.length : Int)) then some false else bif decide (100000 < Zr (a0.2.2.1 + (a0.2.2.2.2.length : Int))) then some false else (iter (X := Bool ⊕ Bool) (Pdr.b0 k) k (false, a0.2.2.2.1, 0, a0)).bind fun r => match r with | .inl y => Pdr.d0 k y | .inr o => some o
theorem Pdr.ok : Yg 80 ⟨⟨[.w K4], [.f .bool]⟩, fun k (x : T2) => Pdr.f k x⟩ := Yq 84 Yv (.n (.seq .c (.n (.seq (.n (.lp [.ptr 1 1000, .s 2 .bool, .s 3 K0, .s 4 K0, .box 1000 77 K4 false false] 2 (.seq (.n (.cond .l .l)) (.seq (.blk (.n (.seq .c .l))) .l)))) (.n .l))))) Tryz.func80 (Yc Paj.ok (Yc Peo.ok Yn))
def Pfg.f (k : Nat) (a0 : T3) : Option Int :=
 some (Zr (a0.2.2.2.2.2.2.1 + (a0.2.2.2.2.2.2.2.2.1.length : Int)))
theorem Pfg.ok : Yg 81 ⟨⟨[.w K3], [.f K0]⟩, fun k (x : T3) => Pfg.f k x⟩ := Yq 9 Yv (.n (.n .l)) Tryz.func81 Yn
def Pec.b0 (k : Nat) (s : List Int × T36) : Option ((List Int × T36) ⊕ Bool ⊕ Bool) :=
 bif decide (s.2.2.2 < (s.1.length : Int)) then (inb? s.1.length s.2.2.2).bind fun j1 => (s.1[j1]?).bind fun y2 => bif decide (y2 = s.2.1) then some (.inr (.inr true)) else some (.inl (s.1, s.2.1, s.2.2.1, Zr (s.2.2.2 + 1))) else some (.inr (.inl s.2.2.1))
def Pec.d0 (k : Nat) (y : Bool) : Option Bool :=
 some false
def Pec.f (a0 : List Int) (a1 : Int) : Option Bool :=
 (iter (X := Bool ⊕ Bool) (Pec.b0 k) k (a0, a1, false, 0)).bind fun r => match r with | .inl y => Pec.d0 k y | .inr o => some o
theorem Pec.ok : Yg 82 ⟨⟨[.v K18, .v K0], [.f .bool]⟩, fun k (x : T29) => Pec.f k x.1 x.2⟩ := Yq 18 Yv (.n (.seq (.n (.lp [.s 0 K18, .s 1 K0, .s 4 .bool, .s 5 K0] 4 (.seq (.n (.cond .l .l)) (.seq (.blk .c) .l)))) (.n .l))) Tryz.func82 Yn
def Pby.b0 (s : Bool × Int × T3) : Option ((Bool × Int × T3) ⊕ (Bool × T3) ⊕ Bool) :=
 bif decide (s.2.1 < (s.2.2.2.2.2.2.2.2.2.2.2.2.1.length : Int)) then (inb? s.2.2.2.2.2.2.2.2.2.2.2.2.1.length s.2.1).bind fun j1 => (s.2.2.2.2.2.2.2.2.2.2.2.2.1[j1]?).bind fun y2 => (Paj.f k y2 0 (Zr (s.2.2.2.1 - 1))).bind fun r3 => bif !r3 then some (.inr (.inr false)) else bif decide (0 < s.2.1) then (inb? s.2.2.2.2.2.2.2.2.2.2.2.2.1.length (Zr (s.2.1 - 1))).bind fun j4 => (s.2.2.2.2.2.2.2.2.2.2.2.2.1[j4]?).bind fun y5 => (inb? s.2.2.2.2.2.2.2.2.2.2.2.2.1.length s.2.1).bind fun j6 => (s.2.2.2.2.2.2.2.2.2.2.2.2.1[j6]?).bind fun y7 => bif decide (y7 ≤ y5) then some (.inr (.inr false)) else some (.inl (s.1, Zr (s.2.1 + 1), s.2.2)) else some (.inl (s.1, Zr (s.2.1 + 1), s.2.2)) else some (.inr (.inl (s.1, s.2.2)))
def Pby.d0 (y : Bool × T3) : Option Bool :=
 bif decide (1 ≤ y.2.2.2.1) then bif decide (y.2.2.2.2.1 = y.2.1) then bif decide (y.2.2.2.2.2.2.1 = (-1)) then (Pec.f k y.2.2.2.2.2.2.2.2.2.2.2.1 y.2.1).bind fun r1 => bif r1 then bif decide (Zr (2 * (y.2.2.2.2.2.2.2.2.2.2.2.1.length : Int)) ≤ y.2.2.1) then bif decide ((y.2.2.2.2.2.2.2.2.2.2.2.2.1.length : Int) = 0) then some (decide ((y.2.2.2.2.2.2.2.2.2.2.2.2.2.length : Int) = 0)) else some false else some false else some false else some false else some false else some false
def Pby.b1 (s : Bool × Int × T3) : Option ((Bool × Int × T3) ⊕ Bool ⊕ Bool) :=
 bif decide (s.2.1 < s.2.2.2.1) then (inb? s.2.2.2.2.2.2.2.2.2.2.2.2.2.2.length s.2.1).bind fun j1 => (s.2.2.2.2.2.2.2.2.2.2.2.2.2.2[j1]?).bind fun y2 => bif decide (y2 < 0) then some (.inr (.inr false)) else (inb? s.2.2.2.2.2.2.2.2.2.2.2.2.2.1.length s.2.1).bind fun j3 => (s.2.2.2.2.2.2.2.2.2.2.2.2.2.1[j3]?).bind fun y4 => (inb? s.2.2.2.2.2.2.2.2.2.2.2.2.2.2.length s.2.1).bind fun j5 => (s.2.2.2.2.2.2.2.2.2.2.2.2.2.2[j5]?).bind fun y6 => bif decide (y4 ≤ y6) then some (.inr (.inr false)) else (inb? s.2.2.2.2.2.2.2.2.2.2.2.2.2.1.length s.2.1).bind fun j7 => (s.2.2.2.2.2.2.2.2.2.2.2.2.2.1[j7]?).bind fun y8 => (Pfg.f k s.2.2).bind fun r9 => bif decide (Zr (r9 + 1) < y8) then some (.inr (.inr false)) else some (.inl (s.1, Zr (s.2.1 + 1), s.2.2)) else some (.inr (.inl s.1))
def Pby.d1 (k : Nat) (y : Bool) : Option Bool :=
 some true
def Pby.f (a0 : T3) : Option Bool :=
 (Paj.f k a0.2.1 1 5).bind fun r1 => bif !r1 then some false else (Paj.f k a0.1 0 (Zr (a0.2.1 - 1))).bind fun r2 => bif !r2 then some false else (Pfl.f k a0).bind fun r3 => (Pdr.f k r3).bind fun r4 => bif !r4 then some false else bif decide (a0.2.1 ≤ a0.2.2.2.1) then some false else (Pfg.f k a0).bind fun r5 => (Paj.f k a0.2.2.2.2.2.2.2.2.2.1 a0.2.2.2.2.2.2.1 r5).bind fun r6 => bif !r6 then some false else bif decide (a0.2.2.2.2.1 = 1) then (Paj.f k a0.2.2.2.2.2.1 (-1) (Zr (a0.2.1 - 1))).bind fun r7 => bif r7 then bif !decide (a0.2.2.2.2.2.1 = a0.1) then bif decide ((a0.2.2.2.2.2.2.2.2.2.2.1.length : Int) = 0) then bif decide ((a0.2.2.2.2.2.2.2.2.2.2.2.1.length : Int) = 0) then some (decide ((a0.2.2.2.2.2.2.2.2.2.2.2.2.length : Int) = 0)) else some false else some false else some false else some false else bif decide (a0.2.2.2.2.1 = 2) then (iter (X := (Bool × T3) ⊕ Bool) (Pby.b0 k) k (false, 0, a0)).bind fun r => match r with | .inl y => Pby.d0 k y | .inr o => some o else bif decide (a0.2.2.2.2.1 = 3) then bif decide (a0.2.2.1 < 1) then some false else bif !decide (a0.2.2.2.1 = a0.1) then some false else bif !decide (a0.2.2.2.2.2.1 = a0.1) then some false else bif decide (0 < (a0.2.2.2.2.2.2.2.2.2.2.1.length : Int)) then some false else bif !decide ((a0.2.2.2.2.2.2.2.2.2.2.2.1.length : Int) = a0.2.1) then some false else bif !decide ((a0.2.2.2.2.2.2.2.2.2.2.2.2.length : Int) = a0.2.1) then some false else (inb? a0.2.2.2.2.2.2.2.2.2.2.2.2.length a0.1).bind fun j8 => (a0.2.2.2.2.2.2.2.2.2.2.2.2[j8]?).bind fun y9 => (Pfg.f k a0).bind fun r10 => bif !decide (y9 = r10) then some false else (iter (X := Bool ⊕ Bool) (Pby.b1 k) k (false, 0, a0)).bind fun r => match r with | .inl y => Pby.d1 k y | .inr o => some o else some false
theorem Pby.ok : Yg 30 ⟨⟨[.w K3], [.f .bool]⟩, fun k (x : T3) => Pby.f k x⟩ := Yq 244 Yv (.n (.seq .c (.seq (.n (.blk (.n (.cond (.n .l) (.n (.cond (.seq (.n (.lp [.ptr 1 1000, .s 2 .bool, .s 3 K0, .box 1000 43 K3 false false] 11 (.seq (.n (.cond .l .l)) (.seq (.blk .c) .l)))) (.n .l)) (.n (.cond (.seq .c (.seq (.n (.lp [.ptr 1 1000, .s 2 .bool, .s 4 K0, .box 1000 43 K3 false false] 2 (.seq (.n (.cond .l .l)) (.seq (.blk .c) .l)))) (.n .l))) .l)))))))) (.n .l)))) Tryz.func30 (Yc Paj.ok (Yc Pfl.ok (Yc Pdr.ok (Yc Pfg.ok (Yc Pec.ok Yn)))))
def Par.b0 (k : Nat) (s : Int × T15) : Option ((Int × T15) ⊕ (Int × T15) ⊕ Zb) :=
 bif decide (128 ≤ s.1) then (app? (limOf 1) s.2.2 ([IntKind.wrap .u8 (Zr (128 + (Int.tmod s.1 128)))])).bind fun l1 => some (.inl (Zr (Int.tdiv s.1 128), s.2.1, l1)) else some (.inr (.inl s))
def Par.d0 (k : Nat) (y : Int × T15) : Option Zb :=
 (app? (limOf 1) y.2.2 ([IntKind.wrap .u8 (y.1)])).bind fun l1 => some (strOfNums l1)
def Par.f (a0 : Int) : Option Zb :=
 (Paj.f k a0 0 562949953421311).bind fun r1 => bif !r1 then some Ze else (iter (X := (Int × T15) ⊕ Zb) (Par.b0 k) k (a0, Ze, [])).bind fun r => match r with | .inl y => Par.d0 k y | .inr o => some o
theorem Par.ok : Yg 174 ⟨⟨[.v K0], [.f .str]⟩, fun k (x : Int) => Par.f k x⟩ := Yq 25 (Yk 5 K27 Yv) (.n (.seq .c (.n (.seq (.lp [.s 0 K0, .s 2 .str, .o 3 (.sl 5 K27)] 7 (.seq (.n (.cond .l .l)) (.blk (.n .l)))) (.n .l))))) Tryz.func174 (Yc Paj.ok Yn)
def Paq.b1 (k : Nat) (s : Zb × Int × Int × Int × T6) : Option ((Zb × Int × Int × Int × T6) ⊕ T33 ⊕ T6) :=
 bif decide (0 ≤ s.2.2.2.2.2) then (inb? s.1.size s.2.2.2.2.2).bind fun j1 => some (.inl (s.1, s.2.1, s.2.2.1, s.2.2.2.1, Zr ((Zr (s.2.2.2.2.1 * 128)) + (Int.tmod (Zr (Qmy s.1 j1)) 128)), Zr (s.2.2.2.2.2 - 1))) else some (.inr (.inl (s.1, s.2.1, s.2.2.1, s.2.2.2.1, s.2.2.2.2.1)))
def Paq.d0 (y : T33) : Option (T17 ⊕ T6 ⊕ T6) :=
 (Par.f k y.2.2.2.2).bind fun r1 => (cut? y.1.size 0 y.2.2.2.1).bind fun p2 => bif decide (r1 = y.1.extract p2.1 p2.2) then some (.inr (.inr (y.2.2.2.2, y.2.2.2.1))) else some (.inl (y.1, y.2.1, y.2.2.1, Zr (y.2.2.2.1 + 1)))
def Paq.b0 (s : T17) : Option (T17 ⊕ T6 ⊕ T6) :=
 bif decide (s.2.2.2 ≤ 7) then bif decide (s.2.2.2 ≤ (s.1.size : Int)) then (iter (X := T33 ⊕ T6) (Paq.b1 k) k (s.1, s.2.1, s.2.2.1, s.2.2.2, 0, Zr (s.2.2.2 - 1))).bind fun r => match r with | .inl y => Paq.d0 k y | .inr o => some (.inr (.inr o)) else some (.inr (.inl (s.2.1, s.2.2.1))) else some (.inr (.inl (s.2.1, s.2.2.1)))
def Paq.d1 (k : Nat) (y : T6) : Option T6 :=
 some (0, 0)
def Paq.f (a0 : Zb) : Option T6 :=
 (iter (X := T6 ⊕ T6) (Paq.b0 k) k (a0, 0, 0, 1)).bind fun r => match r with | .inl y => Paq.d1 k y | .inr o => some o
theorem Paq.ok : Yg 165 ⟨⟨[.v .str], [.f K0, .f K0]⟩, fun k (x : Zb) => Paq.f k x⟩ := Yq 39 Yv (.n (.seq (.n (.lp [.s 0 .str, .s 2 K0, .s 3 K0, .s 4 K0] 6 (.seq (.n (.cond .l .l)) (.seq (.blk (.n (.seq (.n (.lp [.s 0 .str, .s 2 K0, .s 3 K0, .s 4 K0, .s 5 K0, .s 6 K0] 31 (.seq (.n (.cond .l .l)) (.seq (.blk .l) .l)))) .c))) .l)))) (.n .l))) Tryz.func165 (Yc Par.ok Yn)
def Pgi.f (k : Nat) (a0 : List Zb) (a1 : Int) : Option Zb :=
 bif decide (a1 < 256) then some (strOfNums ([IntKind.wrap .u8 (a1)])) else (inb? a0.length (Zr (a1 - 256))).bind fun j1 => (a0[j1]?).bind fun y2 => some y2
theorem Pgi.ok : Yg 306 ⟨⟨[.v K21, .v K0], [.f .str]⟩, fun k (x : T16) => Pgi.f k x.1 x.2⟩ := Yq 16 (Yk 5 K27 Yv) (.n (.seq .c (.n .l))) Tryz.func306 Yn
def Pbj.b1 (k : Nat) (s : List Zb × Bool × List Zb × Int × Zb × Int × List T6) : Option ((List Zb × Bool × List Zb × Int × Zb × Int × List T6) ⊕ T46 ⊕ T18) :=
 bif decide (s.2.2.2.2.2.1 < s.2.2.2.1) then (inb? s.2.2.1.length s.2.2.2.2.2.1).bind fun j1 => (s.2.2.1[j1]?).bind fun y2 => bif decide (y2 = s.2.2.2.2.1) then some (.inr (.inr (s.2.2.1, false))) else some (.inl (s.1, s.2.1, s.2.2.1, s.2.2.2.1, s.2.2.2.2.1, Zr (s.2.2.2.2.2.1 + 1), s.2.2.2.2.2.2)) else some (.inr (.inl (s.1, s.2.1, s.2.2.1, s.2.2.2.1, s.2.2.2.2.1, s.2.2.2.2.2.2)))
def Pbj.d0 (k : Nat) (y : T46) : Option T41 :=
 (app? (limOf 16) y.2.2.1 ([y.2.2.2.2.1])).bind fun l1 => some (.inl (y.1, y.2.1, l1, Zr (y.2.2.2.1 + 1), y.2.2.2.2.2))
def Pbj.b0 (s : List Zb × Bool × List Zb × Int × List T6) : Option T41 :=
 bif decide (s.2.2.2.1 < (s.2.2.2.2.length : Int)) then (inb? s.2.2.2.2.length s.2.2.2.1).bind fun j1 => (s.2.2.2.2[j1]?).bind fun y2 => (Paj.f k y2.1 0 (Zr (255 + s.2.2.2.1))).bind fun r3 => bif !r3 then some (.inr (.inr (s.2.2.1, false))) else (Paj.f k y2.2 0 (Zr (255 + s.2.2.2.1))).bind fun r4 => bif !r4 then some (.inr (.inr (s.2.2.1, false))) else (Pgi.f k s.2.2.1 y2.1).bind fun r5 => (Pgi.f k s.2.2.1 y2.2).bind fun r6 => (cat? r5 r6).bind fun s7 => bif decide (24 < (s7.size : Int)) then some (.inr (.inr (s.2.2.1, false))) else (iter (X := T46 ⊕ T18) (Pbj.b1 k) k (s.1, s.2.1, s.2.2.1, s.2.2.2.1, s7, 0, s.2.2.2.2)).bind fun r => match r with | .inl y => Pbj.d0 k y | .inr o => some (.inr (.inr o)) else some (.inr (.inl (s.1, s.2.1, s.2.2.1)))
def Pbj.d1 (k : Nat) (y : T25) : Option T18 :=
 some (y.2.2, true)
def Pbj.f (a0 : List T6) : Option T18 :=
 bif decide (60 < (a0.length : Int)) then some ([], false) else (iter (X := T25 ⊕ T18) (Pbj.b0 k) k ([], false, [], 0, a0)).bind fun r => match r with | .inl y => Pbj.d1 k y | .inr o => some o
theorem Pbj.ok : Yg 293 ⟨⟨[.w K16], [.f K21, .f .bool]⟩, fun k (x : List T6) => Pbj.f k x⟩ := Yq 72 (Yk 9 .str Yv) (.n (.n (.seq .c (.seq (.n (.lp [.ptr 1 1000, .o 2 K21, .s 3 .bool, .o 4 K21, .s 5 K0, .box 1000 127 K16 false false] 14 (.seq (.n (.cond .l .l)) (.seq (.blk (.n (.seq .c (.n (.seq .c (.seq (.n (.lp [.ptr 1 1000, .o 2 K21, .s 3 .bool, .o 4 K21, .s 5 K0, .s 7 .str, .s 8 K0, .box 1000 127 K16 false false] 191 (.seq (.n (.cond .l .l)) (.seq (.blk .c) .l)))) .l)))))) .l)))) (.n .l))))) Tryz.func293 (Yc Paj.ok (Yc Pgi.ok Yn))
def Pib.f (a0 : List T6) : Option Bool :=
 (Pbj.f k a0).bind fun r1 => some r1.2
theorem Pib.ok : Yg 240 ⟨⟨[.w K16], [.f .bool]⟩, fun k (x : List T6) => Pib.f k x⟩ := Yq 11 Yv (.m 3 .l) Tryz.func240 (Yc Pbj.ok Yn)
def Pdw.b0 (s : Zb × Zb × Int × List T6) : Option ((Zb × Zb × Int × List T6) ⊕ T14 ⊕ Zb) :=
 bif decide (s.2.2.1 < (s.2.2.2.length : Int)) then (inb? s.2.2.2.length s.2.2.1).bind fun j1 => (s.2.2.2[j1]?).bind fun y2 => (Par.f k y2.1).bind fun r3 => (cat? s.2.1 r3).bind fun s4 => (inb? s.2.2.2.length s.2.2.1).bind fun j5 => (s.2.2.2[j5]?).bind fun y6 => (Par.f k y6.2).bind fun r7 => (cat? s4 r7).bind fun s8 => some (.inl (s.1, s8, Zr (s.2.2.1 + 1), s.2.2.2)) else some (.inr (.inl (s.1, s.2.1)))
def Pdw.d0 (k : Nat) (y : T14) : Option Zb :=
 some y.2
def Pdw.f (a0 : List T6) : Option Zb :=
 (Pib.f k a0).bind fun r1 => bif !r1 then some Ze else (Par.f k (a0.length : Int)).bind fun r2 => (cat? Zl1 r2).bind fun s3 => (iter (X := T14 ⊕ Zb) (Pdw.b0 k) k (Ze, s3, 0, a0)).bind fun r => match r with | .inl y => Pdw.d0 k y | .inr o => some o
theorem Pdw.ok : Yg 166 ⟨⟨[.w K16], [.f .str]⟩, fun k (x : List T6) => Pdw.f k x⟩ := Yq 38 Yv (.n (.seq .c (.n (.seq (.n (.lp [.ptr 1 1000, .s 2 .str, .s 3 .str, .s 4 K0, .box 1000 127 K16 false false] 6 (.seq (.n (.cond .l .l)) (.seq (.blk .l) .l)))) (.n .l))))) Tryz.func166 (Yc Pib.ok (Yc Par.ok Yn))
def Pbf.b0 (s : Zb × Bool × Int × List T6 × List T6) : Option ((Zb × Bool × Int × List T6 × List T6) ⊕ (Zb × Bool × List T6 × List T6) ⊕ T34) :=
 bif decide (s.2.2.1 < (s.1.size : Int)) then (cut? s.1.size s.2.2.1 s.1.size).bind fun p1 => (Paq.f k (s.1.extract p1.1 p1.2)).bind fun r2 => (cut? s.1.size (Zr (s.2.2.1 + r2.2)) s.1.size).bind fun p3 => (Paq.f k (s.1.extract p3.1 p3.2)).bind fun r4 => bif decide (r2.2 = 0) then some (.inr (.inr ([], false))) else bif decide (r4.2 = 0) then some (.inr (.inr ([], false))) else (app? (limOf 16) s.2.2.2.2 ([(r2.1, r4.1)])).bind fun l5 => some (.inl (s.1, s.2.1, Zr ((Zr (s.2.2.1 + r2.2)) + r4.2), s.2.2.2.1, l5)) else some (.inr (.inl (s.1, s.2.1, s.2.2.2)))
def Pbf.d0 (y : Zb × Bool × List T6 × List T6) : Option T34 :=
 (Pdw.f k y.2.2.2).bind fun r1 => bif !decide (r1 = y.1) then some ([], false) else some (y.2.2.2, true)
def Pbf.f (a0 : Zb) : Option T34 :=
 bif decide ((a0.size : Int) < 4) then some ([], false) else bif decide (250 < (a0.size : Int)) then some ([], false) else (iter (X := (Zb × Bool × List T6 × List T6) ⊕ T34) (Pbf.b0 k) k (a0, false, 4, [], [])).bind fun r => match r with | .inl y => Pbf.d0 k y | .inr o => some o
theorem Pbf.ok : Yg 83 ⟨⟨[.v .str], [.t K16, .f .bool]⟩, fun k (x : Zb) => Pbf.f k x⟩ := Yq 66 (Yk 208 (.pair K0 K0) Yv) (.n (.seq .c (.n (.n (.seq (.lp [.s 0 .str, .ptr 2 1000, .s 3 .bool, .ptr 4 4001, .s 5 K0, .box 1000 127 K16 true false, .box 4001 127 K16 true false] 111 (.seq (.n (.cond .l .l)) (.blk (.n (.n (.seq .c (.n .l))))))) (.seq .c (.n .l))))))) Tryz.func83 (Yc Paq.ok (Yc Pdw.ok Yn))
def Pdd.b0 (k : Nat) (s : List T9 × Zb × T6) : Option ((List T9 × Zb × T6) ⊕ Int ⊕ Int) :=
 bif decide (s.2.2.2 < (s.1.length : Int)) then (inb? s.1.length s.2.2.2).bind fun j1 => (s.1[j1]?).bind fun y2 => bif decide (y2.1 = s.2.1) then some (.inr (.inr (Zr (s.2.2.2 + 1)))) else some (.inl (s.1, s.2.1, s.2.2.1, Zr (s.2.2.2 + 1))) else some (.inr (.inl s.2.2.1))
def Pdd.d0 (k : Nat) (y : Int) : Option Int :=
 some 0
def Pdd.f (a0 : List T9) (a1 : Zb) : Option Int :=
 (iter (X := Int ⊕ Int) (Pdd.b0 k) k (a0, a1, 0, 0)).bind fun r => match r with | .inl y => Pdd.d0 k y | .inr o => some o
theorem Pdd.ok : Yg 84 ⟨⟨[.v K26, .v .str], [.f K0]⟩, fun k (x : List T9 × Zb) => Pdd.f k x.1 x.2⟩ := Yq 21 Yv (.n (.seq (.n (.lp [.s 0 K26, .s 1 .str, .s 4 K0, .s 5 K0] 4 (.seq (.n (.cond .l .l)) (.seq (.blk .c) .l)))) (.n .l))) Tryz.func84 Yn
def Pjd.f (k : Nat) : Option (List Int) :=
 some ([1779033703, 3144134277, 1013904242, 2773480762, 1359893119, 2600822924, 528734635, 1541459225])
theorem Pjd.ok : Yg 167 ⟨⟨[], [.f K12]⟩, fun k (x : Unit) => Pjd.f k⟩ := Yq 2 (Yk 215 K32 Yv) (.n (.n .l)) Tryz.func167 Yn
def Pje.f (k : Nat) : Option (List Int) :=
 some ([1116352408, 1899447441, 3049323471, 3921009573, 961987163, 1508970993, 2453635748, 2870763221, 3624381080, 310598401, 607225278, 1426881987, 1925078388, 2162078206, 2614888103, 3248222580, 3835390401, 4022224774, 264347078, 604807628, 770255983, 1249150122, 1555081692, 1996064986, 2554220882, 2821834349, 2952996808, 3210313671, 3336571891, 3584528711, 113926993, 338241895, 666307205, 773529912, 1294757372, 1396182291, 1695183700, 1986661051, 2177026350, 2456956037, 2730485921, 2820302411, 3259730800, 3345764771, 3516065817, 3600352804, 4094571909, 275423344, 430227734, 506948616, 659060556, 883997877, 958139571, 1322822218, 1537002063, 1747873779, 1955562222, 2024104815, 2227730452, 2361852424, 2428436474, 2756734187, 3204031479, 3329325298])
theorem Pje.ok : Yg 168 ⟨⟨[], [.f K12]⟩, fun k (x : Unit) => Pje.f k⟩ := Yq 2 (Yk 215 K32 Yv) (.n (.n .l)) Tryz.func168 Yn
def Pbi.b0 (k : Nat) (s : Int × T26) : Option ((Int × T26) ⊕ (Int × T14) ⊕ Zb) :=
 bif decide (s.2.2.2.2 < s.2.1) then (cat? (strOfNums ([IntKind.wrap .u8 (Int.tmod s.1 256)])) s.2.2.2.1).bind fun s1 => some (.inl (Zr (Int.tdiv s.1 256), s.2.1, s.2.2.1, s1, Zr (s.2.2.2.2 + 1))) else some (.inr (.inl (s.1, s.2.2.1, s.2.2.2.1)))
def Pbi.d0 (k : Nat) (y : Int × T14) : Option Zb :=
 bif decide (0 < y.1) then some Ze else some y.2.2
def Pbi.f (a0 : Int) (a1 : Int) : Option Zb :=
 (Paj.f k a1 1 7).bind fun r1 => bif !r1 then some Ze else bif decide (a0 < 0) then some Ze else (iter (X := (Int × T14) ⊕ Zb) (Pbi.b0 k) k (a0, a1, Ze, Ze, 0)).bind fun r => match r with | .inl y => Pbi.d0 k y | .inr o => some o
theorem Pbi.ok : Yg 169 ⟨⟨[.v K0, .v K0], [.f .str]⟩, fun k (x : T6) => Pbi.f k x.1 x.2⟩ := Yq 31 (Yk 5 K27 Yv) (.n (.seq .c (.n (.seq (.n (.lp [.s 0 K0, .s 1 K0, .s 4 .str, .s 5 .str, .s 6 K0] 13 (.seq (.n (.cond .l .l)) (.seq (.blk (.n .l)) .l)))) (.seq .c (.n .l)))))) Tryz.func169 (Yc Paj.ok Yn)
def Paz.f (k : Nat) (a0 : Int) (a1 : Int) : Option Int :=
 if IntKind.wrap .u64 (a1) < 0 then none else if IntKind.wrap .u64 (Zr (32 - a1)) < 0 then none else some (bits .or .u32 (Int.fdiv a0 (2 ^ (min (IntKind.wrap .u64 (a1)).toNat (IntKind.bits .u32)))) (IntKind.wrap .u32 (a0 * 2 ^ (min (IntKind.wrap .u64 (Zr (32 - a1))).toNat (IntKind.bits .u32)))))
theorem Paz.ok : Yg 241 ⟨⟨[.v K32, .v K0], [.f K32]⟩, fun k (x : T6) => Paz.f k x.1 x.2⟩ := Yq 15 Yv (.n (.n .l)) Tryz.func241 Yn
def Pal.b0 (k : Nat) (s : List Int × List Int × Zb × List Int × T29) : Option ((List Int × List Int × Zb × List Int × T29) ⊕ (List Int × T10) ⊕ (List Int)) :=
 bif decide (s.2.2.2.2.2 < 16) then (inb? s.2.2.1.size (Zr (4 * s.2.2.2.2.2))).bind fun j1 => (inb? s.2.2.1.size (Zr ((Zr (4 * s.2.2.2.2.2)) + 1))).bind fun j2 => (inb? s.2.2.1.size (Zr ((Zr (4 * s.2.2.2.2.2)) + 2))).bind fun j3 => (inb? s.2.2.1.size (Zr ((Zr (4 * s.2.2.2.2.2)) + 3))).bind fun j4 => (app? (limOf 4) s.2.2.2.2.1 ([bits .or .u32 (bits .or .u32 (bits .or .u32 (IntKind.wrap .u32 ((IntKind.wrap .u32 (Qmy s.2.2.1 j1)) * 2 ^ (min (24 : Int).toNat (IntKind.bits .u32)))) (IntKind.wrap .u32 ((IntKind.wrap .u32 (Qmy s.2.2.1 j2)) * 2 ^ (min (16 : Int).toNat (IntKind.bits .u32))))) (IntKind.wrap .u32 ((IntKind.wrap .u32 (Qmy s.2.2.1 j3)) * 2 ^ (min (8 : Int).toNat (IntKind.bits .u32))))) (IntKind.wrap .u32 (Qmy s.2.2.1 j4))])).bind fun l5 => some (.inl (s.1, s.2.1, s.2.2.1, s.2.2.2.1, l5, Zr (s.2.2.2.2.2 + 1))) else some (.inr (.inl (s.1, s.2.1, s.2.2.2.1, s.2.2.2.2.1)))
def Pal.b1 (s : T44) : Option (T44 ⊕ (List Int × T10) ⊕ (List Int)) :=
 bif decide (s.2.2.2.2 < 64) then (inb? s.2.2.2.1.length (Zr (s.2.2.2.2 - 15))).bind fun j1 => (s.2.2.2.1[j1]?).bind fun y2 => (Paz.f k y2 7).bind fun r3 => (inb? s.2.2.2.1.length (Zr (s.2.2.2.2 - 15))).bind fun j4 => (s.2.2.2.1[j4]?).bind fun y5 => (Paz.f k y5 18).bind fun r6 => (inb? s.2.2.2.1.length (Zr (s.2.2.2.2 - 15))).bind fun j7 => (s.2.2.2.1[j7]?).bind fun y8 => (inb? s.2.2.2.1.length (Zr (s.2.2.2.2 - 2))).bind fun j9 => (s.2.2.2.1[j9]?).bind fun y10 => (Paz.f k y10 17).bind fun r11 => (inb? s.2.2.2.1.length (Zr (s.2.2.2.2 - 2))).bind fun j12 => (s.2.2.2.1[j12]?).bind fun y13 => (Paz.f k y13 19).bind fun r14 => (inb? s.2.2.2.1.length (Zr (s.2.2.2.2 - 2))).bind fun j15 => (s.2.2.2.1[j15]?).bind fun y16 => (inb? s.2.2.2.1.length (Zr (s.2.2.2.2 - 16))).bind fun j17 => (s.2.2.2.1[j17]?).bind fun y18 => (inb? s.2.2.2.1.length (Zr (s.2.2.2.2 - 7))).bind fun j19 => (s.2.2.2.1[j19]?).bind fun y20 => (app? (limOf 4) s.2.2.2.1 ([IntKind.wrap .u32 ((IntKind.wrap .u32 ((IntKind.wrap .u32 (y18 + (bits .xor .u32 (bits .xor .u32 r3 r6) (Int.fdiv y8 (2 ^ (min (3 : Int).toNat (IntKind.bits .u32))))))) + y20)) + (bits .xor .u32 (bits .xor .u32 r11 r14) (Int.fdiv y16 (2 ^ (min (10 : Int).toNat (IntKind.bits .u32))))))])).bind fun l21 => some (.inl (s.1, s.2.1, s.2.2.1, l21, Zr (s.2.2.2.2 + 1))) else some (.inr (.inl (s.1, s.2.1, s.2.2.1, s.2.2.2.1)))
def Pal.b2 (s : List Int × T44) : Option ((List Int × T44) ⊕ T10 ⊕ (List Int)) :=
 bif decide (s.2.2.2.2.2 < 64) then (inb? s.2.2.2.2.1.length 4).bind fun j1 => (s.2.2.2.2.1[j1]?).bind fun y2 => (Paz.f k y2 6).bind fun r3 => (inb? s.2.2.2.2.1.length 4).bind fun j4 => (s.2.2.2.2.1[j4]?).bind fun y5 => (Paz.f k y5 11).bind fun r6 => (inb? s.2.2.2.2.1.length 4).bind fun j7 => (s.2.2.2.2.1[j7]?).bind fun y8 => (Paz.f k y8 25).bind fun r9 => (inb? s.2.2.2.2.1.length 7).bind fun j10 => (s.2.2.2.2.1[j10]?).bind fun y11 => (inb? s.2.2.2.2.1.length 4).bind fun j12 => (s.2.2.2.2.1[j12]?).bind fun y13 => (inb? s.2.2.2.2.1.length 5).bind fun j14 => (s.2.2.2.2.1[j14]?).bind fun y15 => (inb? s.2.2.2.2.1.length 4).bind fun j16 => (s.2.2.2.2.1[j16]?).bind fun y17 => (inb? s.2.2.2.2.1.length 6).bind fun j18 => (s.2.2.2.2.1[j18]?).bind fun y19 => (inb? s.2.1.length s.2.2.2.2.2).bind fun j20 => (s.2.1[j20]?).bind fun y21 => (inb? s.2.2.2.1.length s.2.2.2.2.2).bind fun j22 => (s.2.2.2.1[j22]?).bind fun y23 => (inb? s.2.2.2.2.1.length 0).bind fun j24 => (s.2.2.2.2.1[j24]?).bind fun y25 => (Paz.f k y25 2).bind fun r26 => (inb? s.2.2.2.2.1.length 0).bind fun j27 => (s.2.2.2.2.1[j27]?).bind fun y28 => (Paz.f k y28 13).bind fun r29 => (inb? s.2.2.2.2.1.length 0).bind fun j30 => (s.2.2.2.2.1[j30]?).bind fun y31 => (Paz.f k y31 22).bind fun r32 => (inb? s.2.2.2.2.1.length 0).bind fun j33 => (s.2.2.2.2.1[j33]?).bind fun y34 => (inb? s.2.2.2.2.1.length 1).bind fun j35 => (s.2.2.2.2.1[j35]?).bind fun y36 => (inb? s.2.2.2.2.1.length 0).bind fun j37 => (s.2.2.2.2.1[j37]?).bind fun y38 => (inb? s.2.2.2.2.1.length 2).bind fun j39 => (s.2.2.2.2.1[j39]?).bind fun y40 => (inb? s.2.2.2.2.1.length 1).bind fun j41 => (s.2.2.2.2.1[j41]?).bind fun y42 => (inb? s.2.2.2.2.1.length 2).bind fun j43 => (s.2.2.2.2.1[j43]?).bind fun y44 => (inb? s.2.2.2.2.1.length 0).bind fun j45 => (s.2.2.2.2.1[j45]?).bind fun y46 => (inb? s.2.2.2.2.1.length 1).bind fun j47 => (s.2.2.2.2.1[j47]?).bind fun y48 => (inb? s.2.2.2.2.1.length 2).bind fun j49 => (s.2.2.2.2.1[j49]?).bind fun y50 => (inb? s.2.2.2.2.1.length 3).bind fun j51 => (s.2.2.2.2.1[j51]?).bind fun y52 => (inb? s.2.2.2.2.1.length 4).bind fun j53 => (s.2.2.2.2.1[j53]?).bind fun y54 => (inb? s.2.2.2.2.1.length 5).bind fun j55 => (s.2.2.2.2.1[j55]?).bind fun y56 => (inb? s.2.2.2.2.1.length 6).bind fun j57 => (s.2.2.2.2.1[j57]?).bind fun y58 => some (.inl (s.1, s.2.1, s.2.2.1, s.2.2.2.1, [IntKind.wrap .u32 ((IntKind.wrap .u32 ((IntKind.wrap .u32 ((IntKind.wrap .u32 ((IntKind.wrap .u32 (y11 + (bits .xor .u32 (bits .xor .u32 r3 r6) r9))) + (bits .xor .u32 (bits .and .u32 y13 y15) (bits .and .u32 (bits .xor .u32 (if IntKind.signed .u32 then -1 else IntKind.max .u32) y17) y19)))) + y21)) + y23)) + (IntKind.wrap .u32 ((bits .xor .u32 (bits .xor .u32 r26 r29) r32) + (bits .xor .u32 (bits .xor .u32 (bits .and .u32 y34 y36) (bits .and .u32 y38 y40)) (bits .and .u32 y42 y44))))), y46, y48, y50, IntKind.wrap .u32 (y52 + (IntKind.wrap .u32 ((IntKind.wrap .u32 ((IntKind.wrap .u32 ((IntKind.wrap .u32 (y11 + (bits .xor .u32 (bits .xor .u32 r3 r6) r9))) + (bits .xor .u32 (bits .and .u32 y13 y15) (bits .and .u32 (bits .xor .u32 (if IntKind.signed .u32 then -1 else IntKind.max .u32) y17) y19)))) + y21)) + y23))), y54, y56, y58], Zr (s.2.2.2.2.2 + 1))) else some (.inr (.inl (s.1, s.2.2.1, s.2.2.2.2.1)))
def Pal.b3 (k : Nat) (s : T44) : Option (T44 ⊕ (List Int × List Int) ⊕ (List Int)) :=
 bif decide (s.2.2.2.2 < 8) then (inb? s.1.length s.2.2.2.2).bind fun j1 => (s.1[j1]?).bind fun y2 => (inb? s.2.2.1.length s.2.2.2.2).bind fun j3 => (s.2.2.1[j3]?).bind fun y4 => (app? (limOf 4) s.2.2.2.1 ([IntKind.wrap .u32 (y2 + y4)])).bind fun l5 => some (.inl (s.1, s.2.1, s.2.2.1, l5, Zr (s.2.2.2.2 + 1))) else some (.inr (.inl (s.2.1, s.2.2.2.1)))
def Pal.d3 (k : Nat) (y : List Int × List Int) : Option (List Int) :=
 some y.2
def Pal.d2 (y : T10) : Option (List Int) :=
 (iter (X := (List Int × List Int) ⊕ (List Int)) (Pal.b3 k) k (y.1, y.2.1, y.2.2, [], 0)).bind fun r => match r with | .inl y => Pal.d3 k y | .inr o => some o
def Pal.d1 (y : List Int × T10) : Option (List Int) :=
 (app? (limOf 4) ([]) y.1).bind fun l1 => (iter (X := T10 ⊕ (List Int)) (Pal.b2 k) k (y.1, y.2.1, y.2.2.1, y.2.2.2, l1, 0)).bind fun r => match r with | .inl y => Pal.d2 k y | .inr o => some o
def Pal.d0 (y : List Int × T10) : Option (List Int) :=
 (iter (X := (List Int × T10) ⊕ (List Int)) (Pal.b1 k) k (y.1, y.2.1, y.2.2.1, y.2.2.2, 16)).bind fun r => match r with | .inl y => Pal.d1 k y | .inr o => some o
def Pal.f (a0 : List Int) (a1 : List Int) (a2 : Zb) : Option (List Int) :=
 (iter (X := (List Int × T10) ⊕ (List Int)) (Pal.b0 k) k (a0, a1, a2, [], [], 0)).bind fun r => match r with | .inl y => Pal.d0 k y | .inr o => some o
theorem Pal.ok : Yg 170 ⟨⟨[.v K12, .v K12, .v .str], [.f K12]⟩, fun k (x : List Int × List Int × Zb) => Pal.f k x.1 x.2.1 x.2.2⟩ := Yq 256 (Yk 215 K32 Yv) (.n (.n (.seq (.n (.lp [.s 0 K12, .s 1 K12, .s 2 .str, .o 6 K12, .o 7 K12, .s 8 K0] 27 (.seq (.n (.cond .l .l)) (.seq (.blk .l) .l)))) (.seq (.n (.lp [.s 0 K12, .s 1 K12, .o 6 K12, .o 7 K12, .s 9 K0] 15 (.seq (.n (.cond .l .l)) (.seq (.blk (.n (.n .l))) .l)))) (.n (.seq (.n (.lp [.s 0 K12, .s 1 K12, .o 6 K12, .o 7 K12, .o 12 K12, .s 13 K0] 21 (.seq (.n (.cond .l .l)) (.seq (.blk (.m 4 .l)) .l)))) (.n (.seq (.n (.lp [.s 0 K12, .o 6 K12, .o 12 K12, .o 18 K12, .s 19 K0] 10 (.seq (.n (.cond .l .l)) (.seq (.blk .l) .l)))) (.n .l))))))))) Tryz.func170 (Yc Paz.ok Yn)
def Pbd.b0 (k : Nat) (s : Zb × Zb × T10) : Option ((Zb × Zb × T10) ⊕ (Zb × Zb × T10) ⊕ Zb) :=
 bif !decide (Int.tmod (Zr ((s.1.size : Int) + (s.2.2.2.2.length : Int))) 64 = 56) then (app? (limOf 1) s.2.2.2.2 ([0])).bind fun l1 => some (.inl (s.1, s.2.1, s.2.2.1, s.2.2.2.1, l1)) else some (.inr (.inl s))
def Pbd.b1 (s : Zb × Zb × List Int × List Int × Zb × T6) : Option ((Zb × Zb × List Int × List Int × Zb × T6) ⊕ (Zb × T45) ⊕ Zb) :=
 bif decide (s.2.2.2.2.2.2 < s.2.2.2.2.2.1) then (cut? s.1.size s.2.2.2.2.2.2 (Zr (s.2.2.2.2.2.2 + 64))).bind fun p1 => (Pal.f k s.2.2.1 s.2.2.2.1 (s.1.extract p1.1 p1.2)).bind fun r2 => some (.inl (s.1, s.2.1, r2, s.2.2.2.1, s.2.2.2.2.1, s.2.2.2.2.2.1, Zr (s.2.2.2.2.2.2 + 64))) else some (.inr (.inl (s.1, s.2.1, s.2.2.1, s.2.2.2.1, s.2.2.2.2.1, s.2.2.2.2.2.1)))
def Pbd.b2 (s : T45) : Option (T45 ⊕ T15 ⊕ Zb) :=
 bif decide (Zr (s.2.2.2.2 + 64) ≤ (s.2.2.2.1.size : Int)) then (cut? s.2.2.2.1.size s.2.2.2.2 (Zr (s.2.2.2.2 + 64))).bind fun p1 => (Pal.f k s.2.1 s.2.2.1 (s.2.2.2.1.extract p1.1 p1.2)).bind fun r2 => some (.inl (s.1, r2, s.2.2.1, s.2.2.2.1, Zr (s.2.2.2.2 + 64))) else some (.inr (.inl (s.1, s.2.1)))
def Pbd.b3 (s : Zb × List Int × T4) : Option ((Zb × List Int × T4) ⊕ T14 ⊕ Zb) :=
 bif decide (s.2.2.2 < 8) then (inb? s.2.1.length s.2.2.2).bind fun j1 => (s.2.1[j1]?).bind fun y2 => (Pbi.f k (Zr (y2)) 4).bind fun r3 => (cat? s.2.2.1 r3).bind fun s4 => some (.inl (s.1, s.2.1, s4, Zr (s.2.2.2 + 1))) else some (.inr (.inl (s.1, s.2.2.1)))
def Pbd.d3 (k : Nat) (y : T14) : Option Zb :=
 some y.2
def Pbd.d2 (y : T15) : Option Zb :=
 (iter (X := T14 ⊕ Zb) (Pbd.b3 k) k (y.1, y.2, Ze, 0)).bind fun r => match r with | .inl y => Pbd.d3 k y | .inr o => some o
def Pbd.d1 (y : Zb × T45) : Option Zb :=
 (cut? y.1.size y.2.2.2.2.2 y.1.size).bind fun p1 => (cat? (y.1.extract p1.1 p1.2) y.2.2.2.2.1).bind fun s2 => (iter (X := T15 ⊕ Zb) (Pbd.b2 k) k (y.2.1, y.2.2.1, y.2.2.2.1, s2, 0)).bind fun r => match r with | .inl y => Pbd.d2 k y | .inr o => some o
def Pbd.d0 (y : Zb × Zb × T10) : Option Zb :=
 (cat? (strOfNums y.2.2.2.2) (strOfNums ([0]))).bind fun s1 => (Pbi.f k (Zr (8 * (y.1.size : Int))) 7).bind fun r2 => (cat? s1 r2).bind fun s3 => (iter (X := (Zb × T45) ⊕ Zb) (Pbd.b1 k) k (y.1, y.2.1, y.2.2.1, y.2.2.2.1, s3, Zr ((Zr (Int.tdiv (y.1.size : Int) 64)) * 64), 0)).bind fun r => match r with | .inl y => Pbd.d1 k y | .inr o => some o
def Pbd.f (a0 : Zb) : Option Zb :=
 (Pjd.f k).bind fun r1 => (Pje.f k).bind fun r2 => (iter (X := (Zb × Zb × T10) ⊕ Zb) (Pbd.b0 k) k (a0, Ze, r1, r2, [128])).bind fun r => match r with | .inl y => Pbd.d0 k y | .inr o => some o
theorem Pbd.ok : Yg 85 ⟨⟨[.v .str], [.f .str]⟩, fun k (x : Zb) => Pbd.f k x⟩ := Yq 86 (Yk 5 K27 Yv) (.m 4 (.seq (.lp [.s 0 .str, .s 2 .str, .o 3 K12, .o 4 K12, .o 5 (.sl 5 K27)] 31 (.seq (.n (.cond .l .l)) (.blk .l))) (.n (.n (.seq (.n (.lp [.s 0 .str, .s 2 .str, .o 3 K12, .o 4 K12, .s 6 .str, .s 7 K0, .s 8 K0] 63 (.seq (.n (.cond .l .l)) (.seq (.blk .l) .l)))) (.n (.seq (.n (.lp [.s 2 .str, .o 3 K12, .o 4 K12, .s 9 .str, .s 10 K0] 3 (.seq (.n (.cond .l .l)) (.seq (.blk .l) .l)))) (.n (.seq (.n (.lp [.s 2 .str, .o 3 K12, .s 11 .str, .s 12 K0] 5 (.seq (.n (.cond .l .l)) (.seq (.blk .l) .l)))) (.n .l)))))))))) Tryz.func85 (Yc Pjd.ok (Yc Pje.ok (Yc Pbi.ok (Yc Pal.ok Yn))))
def Pcz.f (a0 : T27) : Option Bool :=
 (Paj.f k a0.1 0 5).bind fun r1 => bif r1 then (Paj.f k a0.2.1 0 6).bind fun r2 => bif r2 then (Paj.f k a0.2.2.1 0 4).bind fun r3 => bif r3 then bif decide ((a0.2.2.2.1.size : Int) = 0) then (Paj.f k a0.2.2.2.2.1 0 250).bind fun r4 => bif r4 then (Paj.f k a0.2.2.2.2.2 0 100000).bind fun r5 => some r5 else some false else bif decide ((a0.2.2.2.1.size : Int) = 32) then (Paj.f k a0.2.2.2.2.1 0 250).bind fun r6 => bif r6 then (Paj.f k a0.2.2.2.2.2 0 100000).bind fun r7 => some r7 else some false else some false else some false else some false else some false
theorem Pcz.ok : Yg 86 ⟨⟨[.w K6], [.f .bool]⟩, fun k (x : T27) => Pcz.f k x⟩ := Yq 38 Yv (.n (.n .l)) Tryz.func86 (Yc Paj.ok Yn)
def Pau.b1 (k : Nat) (s : Bool × Int × Int × Int × T0 × T9) : Option ((Bool × Int × Int × Int × T0 × T9) ⊕ (Bool × Int × Int × T0 × T9) ⊕ Bool) :=
 bif decide (s.2.2.2.1 < (s.2.2.2.2.1.2.1.length : Int)) then (inb? s.2.2.2.2.1.2.1.length s.2.2.2.1).bind fun j1 => (s.2.2.2.2.1.2.1[j1]?).bind fun y2 => bif decide (y2 = Zr (s.2.1 + 1)) then some (.inl (s.1, s.2.1, Zr (s.2.2.1 + 1), Zr (s.2.2.2.1 + 1), s.2.2.2.2)) else some (.inl (s.1, s.2.1, s.2.2.1, Zr (s.2.2.2.1 + 1), s.2.2.2.2)) else some (.inr (.inl (s.1, s.2.1, s.2.2.1, s.2.2.2.2)))
def Pau.d0 (k : Nat) (y : Bool × Int × Int × T0 × T9) : Option T40 :=
 bif decide (y.2.2.2.2.2.2 = 2) then bif !decide (y.2.2.1 = 1) then some (.inr (.inr false)) else bif !decide (y.2.2.2.2.2.2 = 2) then bif !decide (y.2.2.1 = 0) then some (.inr (.inr false)) else some (.inl (y.1, Zr (y.2.1 + 1), y.2.2.2.1)) else some (.inl (y.1, Zr (y.2.1 + 1), y.2.2.2.1)) else bif !decide (y.2.2.2.2.2.2 = 2) then bif !decide (y.2.2.1 = 0) then some (.inr (.inr false)) else some (.inl (y.1, Zr (y.2.1 + 1), y.2.2.2.1)) else some (.inl (y.1, Zr (y.2.1 + 1), y.2.2.2.1))
def Pau.b0 (s : Bool × Int × T0) : Option T40 :=
 bif decide (s.2.1 < (s.2.2.1.length : Int)) then (inb? s.2.2.1.length s.2.1).bind fun j1 => (s.2.2.1[j1]?).bind fun y2 => (Pbf.f k y2.1).bind fun r3 => bif !r3.2 then some (.inr (.inr false)) else (cut? s.2.2.1.length 0 s.2.1).bind fun p4 => (Pdd.f k ((s.2.2.1.take p4.2).drop p4.1) y2.1).bind fun r5 => bif decide (0 < r5) then some (.inr (.inr false)) else (Pbd.f k y2.1).bind fun r6 => bif !decide (y2.2.1 = r6) then some (.inr (.inr false)) else (Paj.f k y2.2.2 1 4).bind fun r7 => bif !r7 then some (.inr (.inr false)) else (iter (X := (Bool × Int × Int × T0 × T9) ⊕ Bool) (Pau.b1 k) k (s.1, s.2.1, 0, 0, s.2.2, y2)).bind fun r => match r with | .inl y => Pau.d0 k y | .inr o => some (.inr (.inr o)) else some (.inr (.inl (s.1, s.2.2)))
def Pau.b2 (s : Bool × Int × T0) : Option T40 :=
 bif decide (s.2.1 < (s.2.2.2.1.length : Int)) then (inb? s.2.2.2.1.length s.2.1).bind fun j1 => (s.2.2.2.1[j1]?).bind fun y2 => (Paj.f k y2 0 (s.2.2.1.length : Int)).bind fun r3 => bif !r3 then some (.inr (.inr false)) else some (.inl (s.1, Zr (s.2.1 + 1), s.2.2)) else some (.inr (.inl (s.1, s.2.2)))
def Pau.b3 (s : Bool × Int × T0) : Option ((Bool × Int × T0) ⊕ Bool ⊕ Bool) :=
 bif decide (s.2.1 < (s.2.2.2.2.length : Int)) then (inb? s.2.2.2.2.length s.2.1).bind fun j1 => (s.2.2.2.2[j1]?).bind fun y2 => (Paj.f k y2.1 1 6).bind fun r3 => bif !r3 then some (.inr (.inr false)) else bif decide (0 < s.2.1) then (inb? s.2.2.2.2.length (Zr (s.2.1 - 1))).bind fun j4 => (s.2.2.2.2[j4]?).bind fun y5 => bif decide (y2.1 ≤ y5.1) then some (.inr (.inr false)) else (Paj.f k y2.2.1 1 1000000).bind fun r6 => bif !r6 then some (.inr (.inr false)) else (Pcz.f k y2.2.2).bind fun r7 => bif !r7 then some (.inr (.inr false)) else some (.inl (s.1, Zr (s.2.1 + 1), s.2.2)) else (Paj.f k y2.2.1 1 1000000).bind fun r8 => bif !r8 then some (.inr (.inr false)) else (Pcz.f k y2.2.2).bind fun r9 => bif !r9 then some (.inr (.inr false)) else some (.inl (s.1, Zr (s.2.1 + 1), s.2.2)) else some (.inr (.inl s.1))
def Pau.d3 (k : Nat) (y : Bool) : Option Bool :=
 some true
def Pau.d2 (y : Bool × T0) : Option Bool :=
 (iter (X := Bool ⊕ Bool) (Pau.b3 k) k (y.1, 0, y.2)).bind fun r => match r with | .inl y => Pau.d3 k y | .inr o => some o
def Pau.d1 (y : Bool × T0) : Option Bool :=
 (iter (X := (Bool × T0) ⊕ Bool) (Pau.b2 k) k (y.1, 0, y.2)).bind fun r => match r with | .inl y => Pau.d2 k y | .inr o => some o
def Pau.f (a0 : T0) : Option Bool :=
 bif decide (6 < (a0.1.length : Int)) then some false else bif !decide ((a0.2.1.length : Int) = 3) then some false else bif decide (6 < (a0.2.2.length : Int)) then some false else (iter (X := (Bool × T0) ⊕ Bool) (Pau.b0 k) k (false, 0, a0)).bind fun r => match r with | .inl y => Pau.d1 k y | .inr o => some o
theorem Pau.ok : Yg 31 ⟨⟨[.w K1], [.f .bool]⟩, fun k (x : T0) => Pau.f k x⟩ := Yq 166 Yv (.n (.seq .c (.seq (.n (.lp [.ptr 1 1000, .s 2 .bool, .s 3 K0, .box 1000 47 K1 false false] 11 (.seq (.n (.cond .l .l)) (.seq (.blk (.n (.n (.seq .c (.n (.seq (.n (.lp [.ptr 1 1000, .s 2 .bool, .s 3 K0, .ptr 4 7005, .s 7 K0, .s 8 K0, .box 1000 47 K1 false false, .box 7005 124 K10 false false] 223 (.seq (.n (.cond .l .l)) (.seq (.blk (.n (.cond .l .l))) .l)))) .c)))))) .l)))) (.seq (.n (.lp [.ptr 1 1000, .s 2 .bool, .s 9 K0, .box 1000 47 K1 false false] 11 (.seq (.n (.cond .l .l)) (.seq (.blk .c) .l)))) (.seq (.n (.lp [.ptr 1 1000, .s 2 .bool, .s 10 K0, .box 1000 47 K1 false false] 2 (.seq (.n (.cond .l .l)) (.seq (.blk (.n .c)) .l)))) (.n .l)))))) Tryz.func31 (Yc Pbf.ok (Yc Pdd.ok (Yc Pbd.ok (Yc Paj.ok (Yc Pcz.ok Yn)))))
def Pgh.f (a0 : T5) : Option Bool :=
 bif decide (a0.1 = 0) then bif decide (a0.2.1 = 0) then some (decide (a0.2.2 = Ze)) else some false else (Paj.f k a0.1 1 100000).bind fun r1 => bif r1 then (Paj.f k a0.2.1 1 100000).bind fun r2 => bif r2 then some (decide ((a0.2.2.size : Int) ≤ 8000)) else some false else some false
theorem Pgh.ok : Yg 32 ⟨⟨[.w K14], [.f .bool]⟩, fun k (x : T5) => Pgh.f k x⟩ := Yq 28 Yv (.n (.seq .c (.n .l))) Tryz.func32 (Yc Paj.ok Yn)
def Phh.f (k : Nat) : Option T0 :=
 (mk? (limOf 8) 3 (0 : Int)).bind fun l1 => some ([], l1, [])
theorem Phh.ok : Yg 144 ⟨⟨[], [.t K1]⟩, fun k (x : Unit) => Phh.f k⟩ := Yq 3 (Yk 3 K0 Yv) (.n (.n .l)) Tryz.func144 Yn
def Pbe.b0 (s : Zb × Int × Int × List Int × Int × T29) : Option ((Zb × Int × Int × List Int × Int × T29) ⊕ (Int × List Int × Int × List Int) ⊕ T29) :=
 bif decide (s.2.2.2.2.2.2 < s.2.2.1) then bif decide ((s.1.size : Int) < s.2.1) then some (.inr (.inr (s.2.2.2.2.2.1, (-1)))) else (cut? s.1.size s.2.1 s.1.size).bind fun p1 => (Paq.f k (s.1.extract p1.1 p1.2)).bind fun r2 => bif decide (r2.2 = 0) then some (.inr (.inr (s.2.2.2.2.2.1, (-1)))) else (app? (limOf 8) s.2.2.2.2.2.1 ([r2.1])).bind fun l3 => some (.inl (s.1, Zr (s.2.1 + r2.2), s.2.2.1, s.2.2.2.1, s.2.2.2.2.1, l3, Zr (s.2.2.2.2.2.2 + 1))) else some (.inr (.inl (s.2.1, s.2.2.2.1, s.2.2.2.2.1, s.2.2.2.2.2.1)))
def Pbe.d0 (k : Nat) (y : Int × List Int × Int × List Int) : Option T29 :=
 some (y.2.2.2, y.1)
def Pbe.f (a0 : Zb) (a1 : Int) (a2 : Int) : Option T29 :=
 (iter (X := (Int × List Int × Int × List Int) ⊕ T29) (Pbe.b0 k) k (a0, a1, a2, [], 0, [], 0)).bind fun r => match r with | .inl y => Pbe.d0 k y | .inr o => some o
theorem Pbe.ok : Yg 171 ⟨⟨[.v .str, .v K0, .v K0], [.f K18, .f K0]⟩, fun k (x : Zb × T6) => Pbe.f k x.1 x.2.1 x.2.2⟩ := Yq 42 (Yk 3 K0 Yv) (.n (.n (.seq (.n (.lp [.s 0 .str, .s 1 K0, .s 2 K0, .o 6 K18, .s 7 K0, .o 8 K18, .s 9 K0] 58 (.seq (.n (.cond .l .l)) (.seq (.blk (.seq .c (.n (.seq .c (.n .l))))) .l)))) (.n .l)))) Tryz.func171 (Yc Paq.ok Yn)
def Pdy.f (a0 : Zb) (a1 : Int) : Option T4 :=
 (Pbe.f k a0 a1 1).bind fun r1 => bif decide (r1.2 < 0) then some (Ze, (-1)) else (inb? r1.1.length 0).bind fun j2 => (r1.1[j2]?).bind fun y3 => bif decide (Zr ((a0.size : Int) - r1.2) < y3) then some (Ze, (-1)) else (inb? r1.1.length 0).bind fun j4 => (r1.1[j4]?).bind fun y5 => (cut? a0.size r1.2 (Zr (r1.2 + y5))).bind fun p6 => (inb? r1.1.length 0).bind fun j7 => (r1.1[j7]?).bind fun y8 => some (a0.extract p6.1 p6.2, Zr (r1.2 + y8))
theorem Pdy.ok : Yg 172 ⟨⟨[.v .str, .v K0], [.f .str, .f K0]⟩, fun k (x : T4) => Pdy.f k x.1 x.2⟩ := Yq 39 Yv (.n (.n (.seq .c (.n .l)))) Tryz.func172 (Yc Pbe.ok Yn)
def Pcj.f (a0 : T27) : Option Zb :=
 (Pcz.f k a0).bind fun r1 => bif !r1 then some Ze else (Par.f k a0.1).bind fun r2 => (Par.f k a0.2.1).bind fun r3 => (cat? r2 r3).bind fun s4 => (Par.f k a0.2.2.1).bind fun r5 => (cat? s4 r5).bind fun s6 => (Par.f k a0.2.2.2.2.1).bind fun r7 => (cat? s6 r7).bind fun s8 => (Par.f k a0.2.2.2.2.2).bind fun r9 => (cat? s8 r9).bind fun s10 => (cat? s10 a0.2.2.2.1).bind fun s11 => some s11
theorem Pcj.ok : Yg 175 ⟨⟨[.w K6], [.f .str]⟩, fun k (x : T27) => Pcj.f k x⟩ := Yq 28 Yv (.n (.seq .c (.n .l))) Tryz.func175 (Yc Pcz.ok (Yc Par.ok Yn))
def Pdn.f (a0 : Zb) : Option (T27 × Bool) :=
 (Pbe.f k a0 0 5).bind fun r1 => bif decide (r1.2 < 0) then some ((0, 0, 0, Ze, 0, 0), false) else (inb? r1.1.length 0).bind fun j2 => (r1.1[j2]?).bind fun y3 => (inb? r1.1.length 1).bind fun j4 => (r1.1[j4]?).bind fun y5 => (inb? r1.1.length 2).bind fun j6 => (r1.1[j6]?).bind fun y7 => (inb? r1.1.length 3).bind fun j8 => (r1.1[j8]?).bind fun y9 => (inb? r1.1.length 4).bind fun j10 => (r1.1[j10]?).bind fun y11 => (cut? a0.size r1.2 a0.size).bind fun p12 => (Pcj.f k (y3, y5, y7, a0.extract p12.1 p12.2, y9, y11)).bind fun r13 => bif !decide (r13 = a0) then some ((0, 0, 0, Ze, 0, 0), false) else some ((y3, y5, y7, a0.extract p12.1 p12.2, y9, y11), true)
theorem Pdn.ok : Yg 173 ⟨⟨[.v .str], [.t K6, .f .bool]⟩, fun k (x : Zb) => Pdn.f k x⟩ := Yq 40 Yv (.n (.n (.seq .c (.n (.seq .c (.n .l)))))) Tryz.func173 (Yc Pbe.ok (Yc Pcj.ok Yn))
def Pan.b0 (s : Zb × Bool × Int × Int × T0 × T0) : Option T47 :=
 bif decide (0 < s.2.2.2.1) then bif decide ((s.1.size : Int) ≤ s.2.2.1) then some (.inr (.inr (s.2.2.2.2.2, false))) else (Pdy.f k s.1 (Zr (s.2.2.1 + 1))).bind fun r1 => bif decide (r1.2 < 0) then some (.inr (.inr (s.2.2.2.2.2, false))) else (Pbd.f k r1.1).bind fun r2 => (inb? s.1.size s.2.2.1).bind fun j3 => (app? (limOf 40) s.2.2.2.2.2.1 ([(r1.1, r2, Zr (Qmy s.1 j3))])).bind fun l4 => some (.inl (s.1, s.2.1, r1.2, Zr (s.2.2.2.1 - 1), s.2.2.2.2.1, l4, s.2.2.2.2.2.2)) else some (.inr (.inl (s.1, s.2.1, s.2.2.1, s.2.2.2.2)))
def Pan.b1 (s : Zb × Bool × Int × Int × T0 × T0) : Option T47 :=
 bif decide (0 < s.2.2.2.1) then (Pbe.f k s.1 s.2.2.1 2).bind fun r1 => bif decide (r1.2 < 0) then some (.inr (.inr (s.2.2.2.2.2, false))) else (Pdy.f k s.1 r1.2).bind fun r2 => (Pdn.f k r2.1).bind fun r3 => bif decide (r2.2 < 0) then some (.inr (.inr (s.2.2.2.2.2, false))) else bif !r3.2 then some (.inr (.inr (s.2.2.2.2.2, false))) else (inb? r1.1.length 0).bind fun j4 => (r1.1[j4]?).bind fun y5 => (inb? r1.1.length 1).bind fun j6 => (r1.1[j6]?).bind fun y7 => (app? (limOf 72) s.2.2.2.2.2.2.2 ([(y5, y7, r3.1)])).bind fun l8 => some (.inl (s.1, s.2.1, r2.2, Zr (s.2.2.2.1 - 1), s.2.2.2.2.1, s.2.2.2.2.2.1, s.2.2.2.2.2.2.1, l8)) else some (.inr (.inl (s.1, s.2.1, s.2.2.1, s.2.2.2.2)))
def Pan.d1 (k : Nat) (y : T32) : Option T23 :=
 some (y.2.2.2.2, (decide (y.2.2.1 = (y.1.size : Int))))
def Pan.d0 (y : T32) : Option T23 :=
 (Pbe.f k y.1 y.2.2.1 4).bind fun r1 => bif decide (r1.2 < 0) then some (y.2.2.2.2, false) else (inb? r1.1.length 3).bind fun j2 => (r1.1[j2]?).bind fun y3 => bif decide (6 < y3) then some (y.2.2.2.2, false) else (cut? r1.1.length 0 3).bind fun p4 => (app? (limOf 8) ([]) ((r1.1.take p4.2).drop p4.1)).bind fun l5 => (inb? r1.1.length 3).bind fun j6 => (r1.1[j6]?).bind fun y7 => (iter (X := T32 ⊕ T23) (Pan.b1 k) k (y.1, y.2.1, r1.2, y7, y.2.2.2.1, y.2.2.2.2.1, l5, y.2.2.2.2.2.2)).bind fun r => match r with | .inl y => Pan.d1 k y | .inr o => some o
def Pan.f (a0 : Zb) : Option T23 :=
 (Phh.f k).bind fun r1 => (Pbe.f k a0 0 1).bind fun r2 => bif decide (r2.2 < 0) then some (r1, false) else (inb? r2.1.length 0).bind fun j3 => (r2.1[j3]?).bind fun y4 => bif decide (6 < y4) then some (r1, false) else (inb? r2.1.length 0).bind fun j5 => (r2.1[j5]?).bind fun y6 => (iter (X := T32 ⊕ T23) (Pan.b0 k) k (a0, false, r2.2, y6, ([], [], []), r1)).bind fun r => match r with | .inl y => Pan.d0 k y | .inr o => some o
theorem Pan.ok : Yg 87 ⟨⟨[.v .str], [.t K1, .f .bool]⟩, fun k (x : Zb) => Pan.f k x⟩ := Yq 141 (Yk 3 K0 (Yk 124 K10 (Yk 135 K13 Yv))) (.m 3 (.seq .c (.seq (.n (.lp [.s 0 .str, .ptr 2 1000, .s 3 .bool, .ptr 4 2001, .s 6 K0, .s 7 K0, .box 1000 47 K1 true false, .box 2001 47 K1 true false] 223 (.seq (.n (.cond .l .l)) (.seq (.blk (.seq .c (.n (.seq .c (.n .l))))) .l)))) (.n (.seq .c (.n (.seq (.n (.lp [.s 0 .str, .ptr 2 1000, .s 3 .bool, .ptr 4 2001, .s 6 K0, .s 10 K0, .box 1000 47 K1 true false, .box 2001 47 K1 true false] 223 (.seq (.n (.cond .l .l)) (.seq (.blk (.n (.seq .c (.n (.n (.seq .c (.n .l))))))) .l)))) (.n .l)))))))) Tryz.func87 (Yc Phh.ok (Yc Pbe.ok (Yc Pdy.ok (Yc Pbd.ok (Yc Pdn.ok Yn)))))
def Pay.b0 (s : T48) : Option (T48 ⊕ T21 ⊕ Zb) :=
 bif decide (s.2.2.1 < (s.2.2.2.1.length : Int)) then (inb? s.2.2.2.1.length s.2.2.1).bind fun j1 => (s.2.2.2.1[j1]?).bind fun y2 => (cat? s.2.1 (strOfNums ([IntKind.wrap .u8 (y2.2.2)]))).bind fun s3 => (inb? s.2.2.2.1.length s.2.2.1).bind fun j4 => (s.2.2.2.1[j4]?).bind fun y5 => (Par.f k (y5.1.size : Int)).bind fun r6 => (cat? s3 r6).bind fun s7 => (inb? s.2.2.2.1.length s.2.2.1).bind fun j8 => (s.2.2.2.1[j8]?).bind fun y9 => (cat? s7 y9.1).bind fun s10 => some (.inl (s.1, s10, Zr (s.2.2.1 + 1), s.2.2.2)) else some (.inr (.inl (s.1, s.2.1, s.2.2.2)))
def Pay.b1 (s : T48) : Option (T48 ⊕ T21 ⊕ Zb) :=
 bif decide (s.2.2.1 < (s.2.2.2.2.1.length : Int)) then (inb? s.2.2.2.2.1.length s.2.2.1).bind fun j1 => (s.2.2.2.2.1[j1]?).bind fun y2 => (Par.f k y2).bind fun r3 => (cat? s.2.1 r3).bind fun s4 => some (.inl (s.1, s4, Zr (s.2.2.1 + 1), s.2.2.2)) else some (.inr (.inl (s.1, s.2.1, s.2.2.2)))
def Pay.b2 (s : T48) : Option (T48 ⊕ T14 ⊕ Zb) :=
 bif decide (s.2.2.1 < (s.2.2.2.2.2.length : Int)) then (inb? s.2.2.2.2.2.length s.2.2.1).bind fun j1 => (s.2.2.2.2.2[j1]?).bind fun y2 => (Pcj.f k y2.2.2).bind fun r3 => (inb? s.2.2.2.2.2.length s.2.2.1).bind fun j4 => (s.2.2.2.2.2[j4]?).bind fun y5 => (Par.f k y5.1).bind fun r6 => (cat? s.2.1 r6).bind fun s7 => (inb? s.2.2.2.2.2.length s.2.2.1).bind fun j8 => (s.2.2.2.2.2[j8]?).bind fun y9 => (Par.f k y9.2.1).bind fun r10 => (cat? s7 r10).bind fun s11 => (Par.f k (r3.size : Int)).bind fun r12 => (cat? s11 r12).bind fun s13 => (cat? s13 r3).bind fun s14 => some (.inl (s.1, s14, Zr (s.2.2.1 + 1), s.2.2.2)) else some (.inr (.inl (s.1, s.2.1)))
def Pay.d2 (k : Nat) (y : T14) : Option Zb :=
 some y.2
def Pay.d1 (y : T21) : Option Zb :=
 (Par.f k (y.2.2.2.2.length : Int)).bind fun r1 => (cat? y.2.1 r1).bind fun s2 => (iter (X := T14 ⊕ Zb) (Pay.b2 k) k (y.1, s2, 0, y.2.2)).bind fun r => match r with | .inl y => Pay.d2 k y | .inr o => some o
def Pay.d0 (y : T21) : Option Zb :=
 (iter (X := T21 ⊕ Zb) (Pay.b1 k) k (y.1, y.2.1, 0, y.2.2)).bind fun r => match r with | .inl y => Pay.d1 k y | .inr o => some o
def Pay.f (a0 : T0) : Option Zb :=
 (Pau.f k a0).bind fun r1 => bif !r1 then some Ze else (Par.f k (a0.1.length : Int)).bind fun r2 => (iter (X := T21 ⊕ Zb) (Pay.b0 k) k (Ze, r2, 0, a0)).bind fun r => match r with | .inl y => Pay.d0 k y | .inr o => some o
theorem Pay.ok : Yg 88 ⟨⟨[.w K1], [.f .str]⟩, fun k (x : T0) => Pay.f k x⟩ := Yq 108 (Yk 5 K27 Yv) (.n (.seq .c (.n (.seq (.n (.lp [.ptr 1 1000, .s 2 .str, .s 3 .str, .s 4 K0, .box 1000 47 K1 false false] 23 (.seq (.n (.cond .l .l)) (.seq (.blk .l) .l)))) (.seq (.n (.lp [.ptr 1 1000, .s 2 .str, .s 3 .str, .s 5 K0, .box 1000 47 K1 false false] 23 (.seq (.n (.cond .l .l)) (.seq (.blk .l) .l)))) (.n (.seq (.n (.lp [.ptr 1 1000, .s 2 .str, .s 3 .str, .s 6 K0, .box 1000 47 K1 false false] 6 (.seq (.n (.cond .l .l)) (.seq (.blk (.n .l)) .l)))) (.n .l)))))))) Tryz.func88 (Yc Pau.ok (Yc Par.ok (Yc Pcj.ok Yn)))
def Pem.f (a0 : Zb) : Option T23 :=
 bif decide (8000 < (a0.size : Int)) then some (([], [], []), false) else (Pan.f k a0).bind fun r1 => bif !r1.2 then some (([], [], []), false) else (Pay.f k r1.1).bind fun r2 => bif !decide (r2 = a0) then some (([], [], []), false) else some (r1.1, true)
theorem Pem.ok : Yg 33 ⟨⟨[.v .str], [.t K1, .f .bool]⟩, fun k (x : Zb) => Pem.f k x⟩ := Yq 25 Yv (.n (.seq .c (.n (.seq .c (.n .l))))) Tryz.func33 (Yc Pan.ok (Yc Pay.ok Yn))
def Pcv.b0 (s : Int × List T4 × List T4 × Int × T1) : Option ((Int × List T4 × List T4 × Int × T1) ⊕ T35 ⊕ (List T4)) :=
 bif decide (s.2.2.2.1 < s.1) then bif decide (s.2.2.2.1 < (s.2.2.2.2.2.2.2.2.length : Int)) then (inb? s.2.2.2.2.2.2.2.2.length s.2.2.2.1).bind fun j1 => (s.2.2.2.2.2.2.2.2[j1]?).bind fun y2 => (Pfh.f k s.2.2.1 y2).bind fun r3 => some (.inl (s.1, s.2.1, r3.1, Zr (s.2.2.2.1 + 1), s.2.2.2.2)) else some (.inr (.inl (s.2.1, s.2.2.1))) else some (.inr (.inl (s.2.1, s.2.2.1)))
def Pcv.d0 (k : Nat) (y : T35) : Option (List T4) :=
 some y.2
def Pcv.f (a0 : T1) (a1 : Int) : Option (List T4) :=
 (app? (limOf 24) ([]) a0.2.2.2.1).bind fun l1 => (iter (X := T35 ⊕ (List T4)) (Pcv.b0 k) k (a1, [], l1, 0, a0)).bind fun r => match r with | .inl y => Pcv.d0 k y | .inr o => some o
theorem Pcv.ok : Yg 227 ⟨⟨[.w K2, .v K0], [.f K11]⟩, fun k (x : T1 × Int) => Pcv.f k x.1 x.2⟩ := Yq 34 (Yk 114 K5 Yv) (.n (.n (.seq (.n (.lp [.s 1 K0, .ptr 2 1000, .o 4 K11, .o 5 K11, .s 6 K0, .box 1000 53 K2 false false] 12 (.seq (.n (.cond .l .l)) (.seq (.blk .l) .l)))) (.n .l)))) Tryz.func227 (Yc Pfh.ok Yn)
def Piv.f (a0 : T1) (a1 : Zb) : Option Int :=
 (Pcv.f k a0 (a0.2.2.2.2.length : Int)).bind fun r1 => (Pee.f k r1 a1).bind fun r2 => bif decide (r2 < 0) then some (-1) else (inb? r1.length r2).bind fun j3 => (r1[j3]?).bind fun y4 => (Pcf.f k a0 y4.2).bind fun r5 => some r5
theorem Piv.ok : Yg 176 ⟨⟨[.w K2, .v .str], [.f K0]⟩, fun k (x : T1 × Zb) => Piv.f k x.1 x.2⟩ := Yq 24 Yv (.m 3 (.seq .c (.n .l))) Tryz.func176 (Yc Pcv.ok (Yc Pee.ok (Yc Pcf.ok Yn)))
def Pge.f (a0 : T1) (a1 : Zb) : Option T13 :=
 (Pas.f k a0).bind fun r1 => bif !r1 then some (Ze, false) else (Piv.f k a0 a1).bind fun r2 => bif decide (r2 < 0) then some (Ze, false) else (inb? a0.2.2.1.length r2).bind fun j3 => (a0.2.2.1[j3]?).bind fun y4 => some (y4.2.1, true)
theorem Pge.ok : Yg 89 ⟨⟨[.w K2, .v .str], [.f .str, .f .bool]⟩, fun k (x : T1 × Zb) => Pge.f k x.1 x.2⟩ := Yq 21 Yv (.n (.seq .c (.n (.seq .c (.n .l))))) Tryz.func89 (Yc Pas.ok (Yc Piv.ok Yn))
def Pbr.b0 (k : Nat) (s : Zb × Int × Int × Bool × T6) : Option ((Zb × Int × Int × Bool × T6) ⊕ T36 ⊕ T30) :=
 bif decide (s.2.2.2.2.2 < s.2.1) then (inb? s.1.size s.2.2.2.2.2).bind fun j1 => some (.inl (s.1, s.2.1, s.2.2.1, s.2.2.2.1, Zr ((Zr (s.2.2.2.2.1 * 256)) + (Zr (Qmy s.1 j1))), Zr (s.2.2.2.2.2 + 1))) else some (.inr (.inl (s.2.2.1, s.2.2.2.1, s.2.2.2.2.1)))
def Pbr.d0 (k : Nat) (y : T36) : Option T30 :=
 some (y.2.2, true)
def Pbr.f (a0 : Zb) (a1 : Int) : Option T30 :=
 (Paj.f k a1 1 7).bind fun r1 => bif !r1 then some (0, false) else bif decide ((a0.size : Int) < a1) then some (0, false) else (iter (X := T36 ⊕ T30) (Pbr.b0 k) k (a0, a1, 0, false, 0, 0)).bind fun r => match r with | .inl y => Pbr.d0 k y | .inr o => some o
theorem Pbr.ok : Yg 181 ⟨⟨[.v .str, .v K0], [.f K0, .f .bool]⟩, fun k (x : T4) => Pbr.f k x.1 x.2⟩ := Yq 30 Yv (.n (.seq .c (.n (.seq (.n (.lp [.s 0 .str, .s 1 K0, .s 4 K0, .s 5 .bool, .s 6 K0, .s 7 K0] 28 (.seq (.n (.cond .l .l)) (.seq (.blk .l) .l)))) (.n .l))))) Tryz.func181 (Yc Paj.ok Yn)
def Pcd.b1 (k : Nat) (s : T33) : Option (T33 ⊕ T17 ⊕ Int) :=
 bif decide (s.2.2.2.2 < 8) then bif decide (Int.tmod s.2.2.1 2 = 1) then some (.inl (s.1, s.2.1, bits .xor .i64 (Zr (Int.tdiv s.2.2.1 2)) 2197175160, s.2.2.2.1, Zr (s.2.2.2.2 + 1))) else some (.inl (s.1, s.2.1, Zr (Int.tdiv s.2.2.1 2), s.2.2.2.1, Zr (s.2.2.2.2 + 1))) else some (.inr (.inl (s.1, s.2.1, s.2.2.1, s.2.2.2.1)))
def Pcd.d0 (k : Nat) (y : T17) : Option (T17 ⊕ T6 ⊕ Int) :=
 some (.inl (y.1, y.2.1, y.2.2.1, Zr (y.2.2.2 + 1)))
def Pcd.b0 (s : T17) : Option (T17 ⊕ T6 ⊕ Int) :=
 bif decide (s.2.2.2 < (s.1.size : Int)) then (inb? s.1.size s.2.2.2).bind fun j1 => (iter (X := T17 ⊕ Int) (Pcd.b1 k) k (s.1, s.2.1, bits .xor .i64 s.2.2.1 (Zr (Qmy s.1 j1)), s.2.2.2, 0)).bind fun r => match r with | .inl y => Pcd.d0 k y | .inr o => some (.inr (.inr o)) else some (.inr (.inl (s.2.1, s.2.2.1)))
def Pcd.d1 (k : Nat) (y : T6) : Option Int :=
 some (Zr (4294967295 - y.2))
def Pcd.f (a0 : Zb) : Option Int :=
 (iter (X := T6 ⊕ Int) (Pcd.b0 k) k (a0, 0, 4294967295, 0)).bind fun r => match r with | .inl y => Pcd.d1 k y | .inr o => some o
theorem Pcd.ok : Yg 295 ⟨⟨[.v .str], [.f K0]⟩, fun k (x : Zb) => Pcd.f k x⟩ := Yq 33 Yv (.n (.n (.seq (.n (.lp [.s 0 .str, .s 2 K0, .s 3 K0, .s 4 K0] 6 (.seq (.n (.cond .l .l)) (.seq (.blk (.n (.n (.lp [.s 0 .str, .s 2 K0, .s 3 K0, .s 4 K0, .s 5 K0] 15 (.seq (.n (.cond .l .l)) (.seq (.blk (.m 3 (.cond .l .l))) .l)))))) .l)))) (.n .l)))) Tryz.func295 Yn
def Pfa.f (a0 : Zb) : Option Zb :=
 bif decide ((a0.size : Int) = 0) then some Ze else bif decide (2000 < (a0.size : Int)) then some Ze else (Pbi.f k (a0.size : Int) 4).bind fun r1 => (cat? r1 a0).bind fun s2 => (Pcd.f k s2).bind fun r3 => (Pbi.f k r3 4).bind fun r4 => (cat? r1 r4).bind fun s5 => (cat? s5 a0).bind fun s6 => some s6
theorem Pfa.ok : Yg 246 ⟨⟨[.v .str], [.f .str]⟩, fun k (x : Zb) => Pfa.f k x⟩ := Yq 24 Yv (.n (.seq .c (.n (.n .l)))) Tryz.func246 (Yc Pbi.ok (Yc Pcd.ok Yn))
def Pff.f (a0 : Zb) : Option (Zb × T6) :=
 (Pbr.f k a0 4).bind fun r1 => bif !r1.2 then some (Ze, 0, 1) else bif decide (r1.1 = 0) then some (Ze, 0, 2) else bif decide (2000 < r1.1) then some (Ze, 0, 2) else bif decide ((a0.size : Int) < Zr (8 + r1.1)) then some (Ze, 0, 1) else (cut? a0.size 8 (Zr (8 + r1.1))).bind fun p2 => (Pfa.f k (a0.extract p2.1 p2.2)).bind fun r3 => (cut? a0.size 0 (Zr (8 + r1.1))).bind fun p4 => bif !decide (r3 = a0.extract p4.1 p4.2) then some (Ze, 0, 2) else some (a0.extract p2.1 p2.2, Zr (8 + r1.1), 0)
theorem Pff.ok : Yg 180 ⟨⟨[.v .str], [.f .str, .f K0, .f K0]⟩, fun k (x : Zb) => Pff.f k x⟩ := Yq 40 Yv (.n (.n (.seq .c (.seq .c (.seq .c (.n (.seq .c (.n .l)))))))) Tryz.func180 (Yc Pbr.ok (Yc Pfa.ok Yn))
def Pda.b0 (s : Zb × T42) : Option ((Zb × T42) ⊕ T42 ⊕ T16) :=
 bif decide (s.2.2.2.2 < (s.1.size : Int)) then (cut? s.1.size s.2.2.2.2 s.1.size).bind fun p1 => (Pff.f k (s.1.extract p1.1 p1.2)).bind fun r2 => bif !decide (r2.2.2 = 0) then some (.inr (.inr s.2.2.2)) else (app? (limOf 16) s.2.2.2.1 ([r2.1])).bind fun l3 => some (.inl (s.1, s.2.1, s.2.2.1, l3, Zr (s.2.2.2.2 + r2.2.1))) else some (.inr (.inl s.2))
def Pda.d0 (k : Nat) (y : T42) : Option T16 :=
 some y.2.2
def Pda.f (a0 : Zb) : Option T16 :=
 (iter (X := T42 ⊕ T16) (Pda.b0 k) k (a0, [], 0, [], 0)).bind fun r => match r with | .inl y => Pda.d0 k y | .inr o => some o
theorem Pda.ok : Yg 177 ⟨⟨[.v .str], [.f K21, .f K0]⟩, fun k (x : Zb) => Pda.f k x⟩ := Yq 35 (Yk 9 .str Yv) (.m 3 (.seq (.lp [.s 0 .str, .o 2 K21, .s 3 K0, .o 4 K21, .s 5 K0] 30 (.seq (.n (.cond .l .l)) (.blk (.n (.seq .c (.n .l)))))) (.n .l))) Tryz.func177 (Yc Pff.ok Yn)
def Peb.f (a0 : Int × Int × T5) : Option Bool :=
 bif decide (a0.1 = 1) then (Paj.f k a0.2.1 0 100000).bind fun r1 => bif r1 then (Paj.f k a0.2.2.2.1 (-1) 4).bind fun r2 => bif r2 then bif decide (a0.2.2.1 = 0) then some (decide (a0.2.2.2.2 = Ze)) else some false else some false else some false else bif decide (a0.1 = 2) then (Paj.f k a0.2.1 1 100000).bind fun r3 => bif r3 then (Paj.f k a0.2.2.1 1 100000).bind fun r4 => bif r4 then bif decide (a0.2.2.2.1 = 0) then some (decide ((a0.2.2.2.2.size : Int) ≤ 900)) else some false else some false else some false else bif decide (a0.1 = 3) then bif decide (a0.2.1 = 0) then (Paj.f k a0.2.2.1 1 100000).bind fun r5 => bif r5 then bif decide (a0.2.2.2.1 = 0) then some (decide (a0.2.2.2.2 = Ze)) else some false else some false else some false else bif decide (a0.1 = 4) then (Peo.f k a0.2.2.1 a0.2.1).bind fun r6 => bif r6 then bif decide (a0.2.2.2.1 = 0) then some (decide (a0.2.2.2.2 = Ze)) else some false else some false else some false
theorem Peb.ok : Yg 244 ⟨⟨[.w K20], [.f .bool]⟩, fun k (x : Int × Int × T5) => Peb.f k x⟩ := Yq 83 Yv (.n (.seq (.n (.blk (.n (.cond (.n .l) (.n (.cond (.n .l) (.n (.cond (.n .l) .c)))))))) (.n .l))) Tryz.func244 (Yc Paj.ok (Yc Peo.ok Yn))
def Pgg.f (a0 : Int × Int × T5) : Option Zb :=
 (Peb.f k a0).bind fun r1 => bif !r1 then some Ze else (Par.f k a0.2.1).bind fun r2 => (cat? (strOfNums ([IntKind.wrap .u8 (a0.1)])) r2).bind fun s3 => (Par.f k a0.2.2.1).bind fun r4 => (cat? s3 r4).bind fun s5 => (Par.f k (Zr (a0.2.2.2.1 + 1))).bind fun r6 => (cat? s5 r6).bind fun s7 => (cat? s7 a0.2.2.2.2).bind fun s8 => some s8
theorem Pgg.ok : Yg 242 ⟨⟨[.w K20], [.f .str]⟩, fun k (x : Int × Int × T5) => Pgg.f k x⟩ := Yq 27 (Yk 5 K27 Yv) (.n (.seq .c (.n .l))) Tryz.func242 (Yc Peb.ok (Yc Par.ok Yn))
def Pgf.f (a0 : Zb) : Option ((Int × Int × T5) × Bool) :=
 bif decide ((a0.size : Int) = 0) then some ((0, 0, 0, 0, Ze), false) else bif decide (2000 < (a0.size : Int)) then some ((0, 0, 0, 0, Ze), false) else (inb? a0.size 0).bind fun j1 => (cut? a0.size 1 a0.size).bind fun p2 => (Paq.f k (a0.extract p2.1 p2.2)).bind fun r3 => (cut? a0.size (Zr (1 + r3.2)) a0.size).bind fun p4 => (Paq.f k (a0.extract p4.1 p4.2)).bind fun r5 => (cut? a0.size (Zr ((Zr (1 + r3.2)) + r5.2)) a0.size).bind fun p6 => (Paq.f k (a0.extract p6.1 p6.2)).bind fun r7 => (cut? a0.size (Zr ((Zr ((Zr (1 + r3.2)) + r5.2)) + r7.2)) a0.size).bind fun p8 => bif decide (r3.2 = 0) then some ((0, 0, 0, 0, Ze), false) else bif decide (r5.2 = 0) then some ((0, 0, 0, 0, Ze), false) else bif decide (r7.2 = 0) then some ((0, 0, 0, 0, Ze), false) else (Pgg.f k (Zr (Qmy a0 j1), r3.1, r5.1, Zr (r7.1 - 1), a0.extract p8.1 p8.2)).bind fun r9 => bif !decide (r9 = a0) then some ((0, 0, 0, 0, Ze), false) else some ((Zr (Qmy a0 j1), r3.1, r5.1, Zr (r7.1 - 1), a0.extract p8.1 p8.2), true)
theorem Pgf.ok : Yg 178 ⟨⟨[.v .str], [.t K20, .f .bool]⟩, fun k (x : Zb) => Pgf.f k x⟩ := Yq 84 Yv (.n (.seq .c (.m 12 (.seq .c (.n .l))))) Tryz.func178 (Yc Paq.ok (Yc Pgg.ok Yn))
def Piw.f (k : Nat) (a0 : T2) : Option T2 :=
 (app? (limOf 24) ([]) a0.2.2.2.2).bind fun l1 => some (a0.1, a0.2.1, a0.2.2.1, a0.2.2.2.1, l1)
theorem Piw.ok : Yg 243 ⟨⟨[.w K4], [.t K4]⟩, fun k (x : T2) => Piw.f k x⟩ := Yq 9 (Yk 145 K8 Yv) (.m 3 .l) Tryz.func243 Yn
def Pfc.f (k : Nat) (a0 : T2) : Option Int :=
 bif decide ((a0.2.2.2.2.length : Int) = 0) then some a0.2.2.2.1 else (inb? a0.2.2.2.2.length (Zr ((a0.2.2.2.2.length : Int) - 1))).bind fun j1 => (a0.2.2.2.2[j1]?).bind fun y2 => some y2.1
theorem Pfc.ok : Yg 294 ⟨⟨[.w K4], [.f K0]⟩, fun k (x : T2) => Pfc.f k x⟩ := Yq 18 Yv (.n (.seq .c (.n .l))) Tryz.func294 Yn
def Pix.f (a0 : T2) (a1 : Int × Int × T5) : Option Bool :=
 bif decide (a1.1 = 1) then bif decide (a0.1 < a1.2.1) then some true else bif decide (a1.2.1 = a0.1) then bif decide (a0.2.1 = (-1)) then some true else some (decide (a1.2.2.2.1 = a0.2.1)) else some false else bif decide (a1.1 = 2) then bif decide (a1.2.2.1 = Zr ((Zr (a0.2.2.1 + (a0.2.2.2.2.length : Int))) + 1)) then bif decide ((a0.2.2.2.2.length : Int) < 60) then (Pfc.f k a0).bind fun r1 => bif decide (r1 ≤ a1.2.1) then some (decide (a1.2.1 ≤ a0.1)) else some false else some false else some false else bif decide (a1.1 = 3) then bif decide (a0.2.2.1 < a1.2.2.1) then some (decide (a1.2.2.1 ≤ Zr (a0.2.2.1 + (a0.2.2.2.2.length : Int)))) else some false else some false
theorem Pix.ok : Yg 245 ⟨⟨[.w K4, .w K20], [.f .bool]⟩, fun k (x : T2 × Int × Int × T5) => Pix.f k x.1 x.2⟩ := Yq 80 Yv (.n (.n (.seq (.n (.blk (.n (.cond (.n .l) (.n (.cond (.n .l) .c)))))) (.n .l)))) Tryz.func245 (Yc Pfc.ok Yn)
def Pen.f (a0 : T2) (a1 : Int × Int × T5) : Option (T2 × Bool) :=
 (Pdr.f k a0).bind fun r1 => bif !r1 then some ((0, 0, 0, 0, []), false) else (Piw.f k a0).bind fun r2 => (Peb.f k a1).bind fun r3 => bif !r3 then some (r2, false) else (Pix.f k r2 a1).bind fun r4 => bif !r4 then some (r2, false) else bif decide (a1.1 = 1) then some ((a1.2.1, a1.2.2.2.1, r2.2.2), true) else bif decide (a1.1 = 2) then (app? (limOf 24) r2.2.2.2.2 ([(a1.2.1, a1.2.2.2.2)])).bind fun l5 => some ((r2.1, r2.2.1, r2.2.2.1, r2.2.2.2.1, l5), true) else (cut? r2.2.2.2.2.length 0 (Zr ((Zr (a1.2.2.1 - r2.2.2.1)) - 1))).bind fun p6 => some ((r2.1, r2.2.1, r2.2.2.1, r2.2.2.2.1, (r2.2.2.2.2.take p6.2).drop p6.1), true)
theorem Pen.ok : Yg 179 ⟨⟨[.w K4, .w K20], [.t K4, .f .bool]⟩, fun k (x : T2 × Int × Int × T5) => Pen.f k x.1 x.2⟩ := Yq 55 (Yk 145 K8 Yv) (.n (.seq .c (.n (.seq .c (.seq (.n (.blk (.n (.cond (.n .l) (.n (.cond .l .l)))))) (.n .l)))))) Tryz.func179 (Yc Pdr.ok (Yc Piw.ok (Yc Peb.ok (Yc Pix.ok Yn))))
def Pdb.b0 (s : Int × Bool × List Zb × Int × Int × T2 × (Int × Int × T5) × T2) : Option ((Int × Bool × List Zb × Int × Int × T2 × (Int × Int × T5) × T2) ⊕ T38 ⊕ (T2 × T30)) :=
 bif decide (s.2.2.2.2.1 < (s.2.2.1.length : Int)) then (inb? s.2.2.1.length s.2.2.2.2.1).bind fun j1 => (s.2.2.1[j1]?).bind fun y2 => (Pgf.f k y2).bind fun r3 => (Pen.f k s.2.2.2.2.2.2.2 r3.1).bind fun r4 => bif !r3.2 then some (.inr (.inr (s.2.2.2.2.2.2.2, s.2.2.2.1, true))) else bif !r4.2 then some (.inr (.inr (s.2.2.2.2.2.2.2, s.2.2.2.1, true))) else (inb? s.2.2.1.length s.2.2.2.2.1).bind fun j5 => (s.2.2.1[j5]?).bind fun y6 => some (.inl (s.1, s.2.1, s.2.2.1, Zr ((Zr (s.2.2.2.1 + 8)) + (y6.size : Int)), Zr (s.2.2.2.2.1 + 1), s.2.2.2.2.2.1, r3.1, r4.1)) else some (.inr (.inl (s.1, s.2.1, s.2.2.2.1, s.2.2.2.2.2.1, s.2.2.2.2.2.2.2)))
def Pdb.d0 (k : Nat) (y : T38) : Option (T2 × T30) :=
 some (y.2.2.2.2, y.2.2.1, true)
def Pdb.f (a0 : Zb) : Option (T2 × T30) :=
 (Pda.f k a0).bind fun r1 => bif decide ((r1.1.length : Int) = 0) then some ((0, 0, 0, 0, []), 0, false) else (inb? r1.1.length 0).bind fun j2 => (r1.1[j2]?).bind fun y3 => (Pgf.f k y3).bind fun r4 => bif !r4.2 then some ((0, 0, 0, 0, []), 0, false) else bif !decide (r4.1.1 = 4) then some ((0, 0, 0, 0, []), 0, false) else (inb? r1.1.length 0).bind fun j5 => (r1.1[j5]?).bind fun y6 => (iter (X := T38 ⊕ (T2 × T30)) (Pdb.b0 k) k (0, false, r1.1, Zr (8 + (y6.size : Int)), 1, (0, 0, 0, 0, []), r4.1, r4.1.2.1, (-1), r4.1.2.2.1, r4.1.2.1, [])).bind fun r => match r with | .inl y => Pdb.d0 k y | .inr o => some o
theorem Pdb.ok : Yg 90 ⟨⟨[.v .str], [.t K4, .f K0, .f .bool]⟩, fun k (x : Zb) => Pdb.f k x⟩ := Yq 89 Yv (.n (.n (.seq .c (.n (.seq .c (.n (.n (.seq (.n (.lp [.ptr 2 1000, .s 3 K0, .s 4 .bool, .o 5 K21, .ptr 7 5007, .ptr 9 8007, .s 10 K0, .s 11 K0, .box 1000 77 K4 true false, .box 5007 229 K20 false false, .box 8007 77 K4 true false] 1383 (.seq (.n (.cond .l .l)) (.seq (.blk (.n (.n (.seq .c (.n .l))))) .l)))) (.n .l))))))))) Tryz.func90 (Yc Pda.ok (Yc Pgf.ok (Yc Pen.ok Yn)))
def Pgy.f (a0 : T5) : Option Zb :=
 (Pgh.f k a0).bind fun r1 => bif !r1 then some Ze else bif decide (a0.1 = 0) then some Ze else (Pbi.f k a0.1 4).bind fun r2 => (Pbi.f k a0.2.1 4).bind fun r3 => (cat? r2 r3).bind fun s4 => (Pbi.f k (a0.2.2.size : Int) 4).bind fun r5 => (cat? s4 r5).bind fun s6 => (Pbd.f k a0.2.2).bind fun r7 => (cat? s6 r7).bind fun s8 => (Pfa.f k s8).bind fun r9 => (cat? r9 a0.2.2).bind fun s10 => some s10
theorem Pgy.ok : Yg 182 ⟨⟨[.w K14], [.f .str]⟩, fun k (x : T5) => Pgy.f k x⟩ := Yq 31 Yv (.n (.seq .c (.n .l))) Tryz.func182 (Yc Pgh.ok (Yc Pbi.ok (Yc Pbd.ok (Yc Pfa.ok Yn))))
def Pgx.f (a0 : Zb) : Option (T5 × Bool) :=
 (Pff.f k a0).bind fun r1 => (Pbr.f k r1.1 4).bind fun r2 => bif !decide ((r1.1.size : Int) = 44) then some ((0, 0, Ze), false) else bif decide (8000 < Zr ((a0.size : Int) - r1.2.1)) then some ((0, 0, Ze), false) else (cut? r1.1.size 4 r1.1.size).bind fun p3 => (Pbr.f k (r1.1.extract p3.1 p3.2) 4).bind fun r4 => (cut? a0.size r1.2.1 a0.size).bind fun p5 => (Pgy.f k (r2.1, r4.1, a0.extract p5.1 p5.2)).bind fun r6 => bif !decide (r6 = a0) then some ((0, 0, Ze), false) else some ((r2.1, r4.1, a0.extract p5.1 p5.2), true)
theorem Pgx.ok : Yg 91 ⟨⟨[.v .str], [.t K14, .f .bool]⟩, fun k (x : Zb) => Pgx.f k x⟩ := Yq 52 Yv (.m 3 (.seq .c (.n (.n (.seq .c (.n .l)))))) Tryz.func91 (Yc Pff.ok (Yc Pbr.ok (Yc Pgy.ok Yn)))
def Pbn.c2 (k : Nat) (y : T24) : Option (T24 ⊕ T20) :=
 bif decide (y.2.2.2.2.1.1 < y.2.2.2.2.2.2.1) then some (.inl (y.1, y.2.1, y.2.2.1, y.2.2.2.1, (y.2.2.2.2.2.2.1, (-1), y.2.2.2.2.2.1, y.2.2.2.2.2.2.1, y.2.2.2.2.1.2.2.2.2), y.2.2.2.2.2)) else some (.inl (y.1, y.2.1, y.2.2.1, y.2.2.2.1, (y.2.2.2.2.1.1, y.2.2.2.2.1.2.1, y.2.2.2.2.2.1, y.2.2.2.2.2.2.1, y.2.2.2.2.1.2.2.2.2), y.2.2.2.2.2))
def Pbn.c3 (y : T24) : Option T20 :=
 (Pge.f k y.2.2.1 Zl0).bind fun r1 => (Pge.f k y.2.2.1 Zl2).bind fun r2 => bif y.2.1 then some ((y.2.2.2.2.1, y.2.2.2.2.2, true), 0) else bif r1.2 then some ((y.2.2.2.2.1, y.2.2.2.2.2, true), 0) else some ((y.2.2.2.2.1, y.2.2.2.2.2, r2.2), 0)
def Pbn.c1 (y : Int × Zb × Int × T1 × T7 × T2 × T5) : Option T20 :=
 Option.bind (α := T24 ⊕ T20) (bif decide (y.2.2.2.2.2.1.2.2.1 < y.2.2.2.2.2.2.1) then Option.bind (α := T24 ⊕ T20) (bif decide (Zr (y.2.2.2.2.2.2.1 - y.2.2.2.2.2.1.2.2.1) ≤ (y.2.2.2.2.2.1.2.2.2.2.length : Int)) then (inb? y.2.2.2.2.2.1.2.2.2.2.length (Zr ((Zr (y.2.2.2.2.2.2.1 - y.2.2.2.2.2.1.2.2.1)) - 1))).bind fun j1 => (y.2.2.2.2.2.1.2.2.2.2[j1]?).bind fun y2 => bif decide (y2.1 = y.2.2.2.2.2.2.2.1) then (cut? y.2.2.2.2.2.1.2.2.2.2.length (Zr (y.2.2.2.2.2.2.1 - y.2.2.2.2.2.1.2.2.1)) y.2.2.2.2.2.1.2.2.2.2.length).bind fun p3 => some (.inl (y.1, true, y.2.2.2.1, y.2.2.2.2.1, (y.2.2.2.2.2.1.1, y.2.2.2.2.2.1.2.1, y.2.2.2.2.2.1.2.2.1, y.2.2.2.2.2.1.2.2.2.1, (y.2.2.2.2.2.1.2.2.2.2.take p3.2).drop p3.1), y.2.2.2.2.2.2)) else some (.inl (y.1, true, y.2.2.2.1, y.2.2.2.2.1, (y.2.2.2.2.2.1.1, y.2.2.2.2.2.1.2.1, y.2.2.2.2.2.1.2.2.1, y.2.2.2.2.2.1.2.2.2.1, []), y.2.2.2.2.2.2)) else some (.inl (y.1, true, y.2.2.2.1, y.2.2.2.2.1, (y.2.2.2.2.2.1.1, y.2.2.2.2.2.1.2.1, y.2.2.2.2.2.1.2.2.1, y.2.2.2.2.2.1.2.2.2.1, []), y.2.2.2.2.2.2))) fun r => match r with | .inl y => Pbn.c2 k y | .inr o => some (.inr o) else some (.inl (y.1, (decide (y.2.2.1 < (y.2.1.size : Int))), y.2.2.2))) fun r => match r with | .inl y => Pbn.c3 k y | .inr o => some o
def Pbn.c0 (y : Int × Zb × T24) : Option T20 :=
 Option.bind (α := (Int × Zb × Int × T1 × T7 × T2 × T5) ⊕ T20) (bif !y.2.2.2.1 then some (.inr (((0, 0, 0, 0, []), (0, 0, Ze), false), 2)) else bif decide (y.2.2.2.2.2.2.2.1 < y.2.2.2.2.2.2.1.2.2.1) then some (.inr (((0, 0, 0, 0, []), (0, 0, Ze), false), 2)) else bif decide (y.2.2.2.2.2.2.1.2.2.1 = y.2.2.2.2.2.2.2.1) then bif !decide (y.2.2.2.2.2.2.1.2.2.2.1 = y.2.2.2.2.2.2.2.2.1) then some (.inr (((0, 0, 0, 0, []), (0, 0, Ze), false), 2)) else some (.inl (y.1, y.2.1, y.2.2.1, y.2.2.2.2)) else some (.inl (y.1, y.2.1, y.2.2.1, y.2.2.2.2))) fun r => match r with | .inl y => Pbn.c1 k y | .inr o => some o
def Pbn.f (a0 : T1) : Option T20 :=
 (Pas.f k a0).bind fun r1 => bif !r1 then some (((0, 0, 0, 0, []), (0, 0, Ze), false), 2) else (Pge.f k a0 (⟨#[108, 111, 103]⟩ : Zb)).bind fun r2 => bif !r2.2 then some (((0, 0, 0, 0, []), (0, 0, Ze), false), 1) else (Pdb.f k r2.1).bind fun r3 => (Pge.f k a0 (⟨#[115, 110, 97, 112]⟩ : Zb)).bind fun r4 => Option.bind (α := (Int × Zb × T24) ⊕ T20) (bif r4.2 then (Pgx.f k r4.1).bind fun r5 => bif r3.2.2 then some (.inl (0, r2.1, r3.2.1, r5.2, a0, ((0, 0, 0, 0, []), (0, 0, Ze), false), r3.1, r5.1)) else some (.inl (0, r2.1, r3.2.1, false, a0, ((0, 0, 0, 0, []), (0, 0, Ze), false), r3.1, r5.1)) else some (.inl (0, r2.1, r3.2.1, r3.2.2, a0, ((0, 0, 0, 0, []), (0, 0, Ze), false), r3.1, 0, 0, Ze))) fun r => match r with | .inl y => Pbn.c0 k y | .inr o => some o
theorem Pbn.ok : Yg 34 ⟨⟨[.w K2], [.t K17, .f K0]⟩, fun k (x : T1) => Pbn.f k x⟩ := Yq 152 (Yk 145 K8 Yv) (.n (.seq .c (.n (.seq .c (.m 3 (.seq (.cut [.ptr 1 1000, .ptr 2 1001, .s 3 K0, .s 4 .str, .ptr 6 7006, .s 7 K0, .s 8 .bool, .ptr 9 8001, .box 1000 53 K2 false false, .box 1001 79 K17 true false, .box 7006 77 K4 true false, .box 8001 48 K14 false false] (.n (.cond (.n (.n .l)) .l))) (.seq (.cut [.ptr 1 1000, .ptr 2 1001, .s 3 K0, .s 4 .str, .ptr 6 7006, .s 7 K0, .ptr 9 8001, .box 1000 53 K2 false false, .box 1001 79 K17 true false, .box 7006 77 K4 true false, .box 8001 48 K14 false false] .c) (.n (.seq (.cut [.ptr 1 1000, .ptr 2 1001, .s 3 K0, .ptr 6 7006, .ptr 9 8001, .s 14 .bool, .box 1000 53 K2 false false, .box 1001 79 K17 true false, .box 7006 77 K4 true false, .box 8001 48 K14 false false] (.n (.cond (.n (.n (.seq (.cut [.ptr 1 1000, .ptr 2 1001, .s 3 K0, .ptr 6 7006, .ptr 9 8001, .s 14 .bool, .box 1000 53 K2 false false, .box 1001 79 K17 true false, .box 7006 77 K4 true false, .box 8001 48 K14 false false] (.n (.cond .l .l))) (.n (.n .c))))) .l))) (.m 3 .l)))))))))) Tryz.func34 (Yc Pas.ok (Yc Pge.ok (Yc Pdb.ok (Yc Pgx.ok Yn))))
def Pbg.b0 (k : Nat) (s : List T11 × List T11 × Bool × Int) : Option ((List T11 × List T11 × Bool × Int) ⊕ Bool ⊕ Bool) :=
 bif decide (s.2.2.2 < (s.1.length : Int)) then (inb? s.1.length s.2.2.2).bind fun j1 => (s.1[j1]?).bind fun y2 => (inb? s.2.1.length s.2.2.2).bind fun j3 => (s.2.1[j3]?).bind fun y4 => bif !(decide (y2.1 = y4.1) && (decide (y2.2 = y4.2) && true)) then some (.inr (.inr false)) else some (.inl (s.1, s.2.1, s.2.2.1, Zr (s.2.2.2 + 1))) else some (.inr (.inl s.2.2.1))
def Pbg.d0 (k : Nat) (y : Bool) : Option Bool :=
 some true
def Pbg.f (a0 : List T11) (a1 : List T11) : Option Bool :=
 bif !decide ((a0.length : Int) = (a1.length : Int)) then some false else (iter (X := Bool ⊕ Bool) (Pbg.b0 k) k (a0, a1, false, 0)).bind fun r => match r with | .inl y => Pbg.d0 k y | .inr o => some o
theorem Pbg.ok : Yg 92 ⟨⟨[.v K22, .v K22], [.f .bool]⟩, fun k (x : List T11 × List T11) => Pbg.f k x.1 x.2⟩ := Yq 26 Yv (.n (.seq .c (.seq (.n (.lp [.s 0 K22, .s 1 K22, .s 4 .bool, .s 5 K0] 4 (.seq (.n (.cond .l .l)) (.seq (.blk .c) .l)))) (.n .l)))) Tryz.func92 Yn
def Pfb.f (a0 : T2) (a1 : T2) : Option Bool :=
 bif decide (a0.1 = a1.1) then bif decide (a0.2.1 = a1.2.1) then bif decide (a0.2.2.1 = a1.2.2.1) then bif decide (a0.2.2.2.1 = a1.2.2.2.1) then (Pbg.f k a0.2.2.2.2 a1.2.2.2.2).bind fun r1 => some r1 else some false else some false else some false else some false
theorem Pfb.ok : Yg 35 ⟨⟨[.w K4, .w K4], [.f .bool]⟩, fun k (x : T2 × T2) => Pfb.f k x.1 x.2⟩ := Yq 38 Yv (.n (.n .l)) Tryz.func35 (Yc Pbg.ok Yn)
def Pcu.c1 (y : Bool × T12 × T3) : Option Bool :=
 (Pbn.f k y.2.1.2.2.2.2.2.2.1).bind fun r1 => bif decide (r1.2 = 0) then (Pfl.f k y.2.2).bind fun r2 => (Pfb.f k r1.1.1 r2).bind fun r3 => bif r3 then bif decide (r1.1.2.1.1 = y.2.1.2.2.2.2.2.1.1) && (decide (r1.1.2.1.2.1 = y.2.1.2.2.2.2.2.1.2.1) && (decide (r1.1.2.1.2.2 = y.2.1.2.2.2.2.2.1.2.2) && true)) then some (!r1.1.2.2) else some false else some false else some false
def Pcu.c0 (y : Bool × T12) : Option Bool :=
 bif !y.2.2.2.1 then (Pic.f k y.2).bind fun r1 => bif r1 then some (decide (y.2.2.2.2.2.2.2.2.1 = (-1))) else some false else (Pby.f k y.2.2.2.2.1).bind fun r2 => bif !r2 then some false else bif !decide (y.2.2.2.2.1.1 = y.2.1) then some false else bif !decide (y.2.2.2.2.1.2.1 = y.2.2.1) then some false else (Pau.f k y.2.2.2.2.2.1).bind fun r3 => bif !r3 then some false else (Pgh.f k y.2.2.2.2.2.2.1).bind fun r4 => bif !r4 then some false else bif !decide (y.2.2.2.2.2.2.1.1 = y.2.2.2.2.1.2.2.2.2.2.2.1) then some false else bif !decide (y.2.2.2.2.2.2.1.2.1 = y.2.2.2.2.1.2.2.2.2.2.2.2.1) then some false else Option.bind (α := (Bool × T12 × T3) ⊕ Bool) (bif decide (0 < y.2.2.2.2.2.2.1.1) then (Pem.f k y.2.2.2.2.2.2.1.2.2).bind fun r5 => bif !r5.2 then some (.inr false) else some (.inl (y.1, y.2, y.2.2.2.2.1)) else some (.inl (y.1, y.2, y.2.2.2.2.1))) fun r => match r with | .inl y => Pcu.c1 k y | .inr o => some o
def Pcu.f (a0 : T12) : Option Bool :=
 Option.bind (α := (Bool × T12) ⊕ Bool) ((Paj.f k a0.2.1 1 5).bind fun r1 => bif !r1 then some (.inr false) else (Paj.f k a0.1 0 (Zr (a0.2.1 - 1))).bind fun r2 => bif !r2 then some (.inr false) else (Pas.f k a0.2.2.2.2.2.2.1).bind fun r3 => bif !r3 then some (.inr false) else (Paj.f k a0.2.2.2.2.2.2.2.1 (-1) 100).bind fun r4 => bif !r4 then some (.inr false) else (Paj.f k a0.2.2.2.2.2.2.2.2.1 0 20).bind fun r5 => bif !r5 then some (.inr false) else (Paj.f k a0.2.2.2.2.2.2.2.2.2 0 1048576).bind fun r6 => bif !r6 then some (.inr false) else bif decide (a0.2.2.2.2.2.2.2.1 = (-1)) then bif !decide (a0.2.2.2.2.2.2.2.2.1 = 0) then some (.inr false) else bif !decide (a0.2.2.2.2.2.2.2.2.2 = 0) then some (.inr false) else some (.inl (false, a0)) else some (.inl (false, a0))) fun r => match r with | .inl y => Pcu.c0 k y | .inr o => some o
theorem Pcu.ok : Yg 9 ⟨⟨[.w K7], [.f .bool]⟩, fun k (x : T12) => Pcu.f k x⟩ := Yq 157 Yv (.n (.seq (.cut [.ptr 1 1000, .s 2 .bool, .box 1000 55 K7 false false] .c) (.seq .c (.n (.seq .c (.seq (.cut [.ptr 1 1000, .s 2 .bool, .ptr 3 6002, .box 1000 55 K7 false false, .box 6002 43 K3 false false] (.n (.cond (.n .c) .l))) (.n (.n .l)))))))) Tryz.func9 (Yc Paj.ok (Yc Pas.ok (Yc Pic.ok (Yc Pby.ok (Yc Pau.ok (Yc Pgh.ok (Yc Pem.ok (Yc Pbn.ok (Yc Pfl.ok (Yc Pfb.ok Yn))))))))))
def Paa.f (k : Nat) (a0 : Int) (a1 : Int) (a2 : Int) : Option Bool :=
 bif decide (a1 ≤ a0) then some (decide (a0 ≤ a2)) else some false
theorem Paa.ok : Yg 41 ⟨⟨[.v K0, .v K0, .v K0], [.f .bool]⟩, fun k (x : Int × T6) => Paa.f k x.1 x.2.1 x.2.2⟩ := Yq 15 Yv (.n (.n .l)) Tryz.func41 Yn
def Pcl.b0 (k : Nat) (s : Int × Int × List T22 × T6) : Option ((Int × Int × List T22 × T6) ⊕ T6 ⊕ Int) :=
 bif decide (s.2.2.2.2 < s.2.2.2.1) then (inb? s.2.2.1.length s.2.2.2.2).bind fun j1 => (s.2.2.1[j1]?).bind fun y2 => some (.inl (s.1, Zr (s.2.1 + (y2.2.1.size : Int)), s.2.2.1, s.2.2.2.1, Zr (s.2.2.2.2 + 1))) else some (.inr (.inl (s.1, s.2.1)))
def Pcl.d0 (k : Nat) (y : T6) : Option Int :=
 some y.2
def Pcl.f (a0 : T1) : Option Int :=
 (iter (X := T6 ⊕ Int) (Pcl.b0 k) k (0, 0, a0.2.2.1, (a0.2.2.1.length : Int), 0)).bind fun r => match r with | .inl y => Pcl.d0 k y | .inr o => some o
theorem Pcl.ok : Yg 100 ⟨⟨[.w K2], [.f K0]⟩, fun k (x : T1) => Pcl.f k x⟩ := Yq 20 Yv (.n (.n (.seq (.n (.lp [.s 2 K0, .s 3 K0, .s 7 K28, .s 8 K0, .s 9 K0] 3 (.n (.seq (.cond .l .l) (.seq (.blk (.n .l)) .l))))) (.n .l)))) Tryz.func100 Yn
def Pch.b0 (k : Nat) (s : Zb × Bool × Int) : Option ((Zb × Bool × Int) ⊕ T13 ⊕ Bool) :=
 bif decide (s.2.2 < (s.1.size : Int)) then (inb? s.1.size s.2.2).bind fun j1 => bif decide (97 ≤ Qmy s.1 j1) then bif decide (Qmy s.1 j1 ≤ 122) then some (.inl (s.1, s.2.1, Zr (s.2.2 + 1))) else bif decide (48 ≤ Qmy s.1 j1) then bif decide (Qmy s.1 j1 ≤ 57) then some (.inl (s.1, s.2.1, Zr (s.2.2 + 1))) else bif !(decide (Qmy s.1 j1 = 46)) then some (.inr (.inr false)) else some (.inl (s.1, s.2.1, Zr (s.2.2 + 1))) else bif !(decide (Qmy s.1 j1 = 46)) then some (.inr (.inr false)) else some (.inl (s.1, s.2.1, Zr (s.2.2 + 1))) else bif decide (48 ≤ Qmy s.1 j1) then bif decide (Qmy s.1 j1 ≤ 57) then some (.inl (s.1, s.2.1, Zr (s.2.2 + 1))) else bif !(decide (Qmy s.1 j1 = 46)) then some (.inr (.inr false)) else some (.inl (s.1, s.2.1, Zr (s.2.2 + 1))) else bif !(decide (Qmy s.1 j1 = 46)) then some (.inr (.inr false)) else some (.inl (s.1, s.2.1, Zr (s.2.2 + 1))) else some (.inr (.inl (s.1, s.2.1)))
def Pch.d0 (y : T13) : Option Bool :=
 (Paa.f k (y.1.size : Int) 1 12).bind fun r1 => some r1
def Pch.f (a0 : Zb) : Option Bool :=
 (iter (X := T13 ⊕ Bool) (Pch.b0 k) k (a0, false, 0)).bind fun r => match r with | .inl y => Pch.d0 k y | .inr o => some o
theorem Pch.ok : Yg 189 ⟨⟨[.v .str], [.f .bool]⟩, fun k (x : Zb) => Pch.f k x⟩ := Yq 36 Yv (.n (.seq (.n (.lp [.s 0 .str, .s 2 .bool, .s 3 K0] 3 (.seq (.n (.cond .l .l)) (.seq (.blk (.n .c)) .l)))) (.n .l))) Tryz.func189 (Yc Paa.ok Yn)
def Pfu.f (k : Nat) (a0 : T22) (a1 : Int) : Option Bool :=
 some (decide (a0.1 = a1))
theorem Pfu.ok : Yg 249 ⟨⟨[.w K19, .box 3 K0 false false], [.f .bool]⟩, fun k (x : T22 × Int) => Pfu.f k x.1 x.2⟩ := Yq 8 Yv (.n (.n .l)) Tryz.func249 Yn
def Paf.b0 (s : List T22 × Int × Int × T6) : Option ((List T22 × Int × Int × T6) ⊕ Int ⊕ Int) :=
 bif decide (s.2.2.2.1 < s.2.2.1) then (inb? s.1.length s.2.2.2.1).bind fun j1 => (s.1[j1]?).bind fun y2 => (Pfu.f k y2 s.2.2.2.2).bind fun r3 => bif r3 then some (.inr (.inr s.2.2.2.1)) else some (.inl (s.1, s.2.1, s.2.2.1, Zr (s.2.2.2.1 + 1), s.2.2.2.2)) else some (.inr (.inl s.2.1))
def Paf.d0 (k : Nat) (y : Int) : Option Int :=
 some (-1)
def Paf.f (a0 : List T22) (a1 : Int) : Option Int :=
 (iter (X := Int ⊕ Int) (Paf.b0 k) k (a0, 0, (a0.length : Int), 0, a1)).bind fun r => match r with | .inl y => Paf.d0 k y | .inr o => some o
theorem Paf.ok : Yg 248 ⟨⟨[.v K28, .clo 249 false 3 K0], [.f K0]⟩, fun k (x : List T22 × Int) => Paf.f k x.1 x.2⟩ := Yq 19 Yv (.n (.seq (.n (.lp [.s 0 K28, .fnp 1 249 false 2, .s 4 K0, .s 7 K0, .s 8 K0, .box 2 3 K0 false true] 4 (.n (.seq (.cond .l .l) (.seq (.blk (.n .c)) .l))))) (.n .l))) Tryz.func248 (Yc Pfu.ok Yn)
def Pdz.f (a0 : T1) (a1 : Int) : Option Int :=
 (Paf.f k a0.2.2.1 a1).bind fun r1 => some r1
theorem Pdz.ok : Yg 190 ⟨⟨[.w K2, .v K0], [.f K0]⟩, fun k (x : T1 × Int) => Pdz.f k x.1 x.2⟩ := Yq 9 Yv (.n (.n .l)) Tryz.func190 (Yc Paf.ok Yn)
def Pce.b0 (k : Nat) (s : List Int × Int × Int × T6) : Option ((List Int × Int × Int × T6) ⊕ Int ⊕ Int) :=
 bif decide (s.2.2.2.2 < s.2.2.2.1) then (inb? s.1.length s.2.2.2.2).bind fun j1 => (s.1[j1]?).bind fun y2 => bif decide (s.2.1 = y2) then some (.inr (.inr s.2.2.2.2)) else some (.inl (s.1, s.2.1, s.2.2.1, s.2.2.2.1, Zr (s.2.2.2.2 + 1))) else some (.inr (.inl s.2.2.1))
def Pce.d0 (k : Nat) (y : Int) : Option Int :=
 some (-1)
def Pce.f (a0 : List Int) (a1 : Int) : Option Int :=
 (iter (X := Int ⊕ Int) (Pce.b0 k) k (a0, a1, 0, (a0.length : Int), 0)).bind fun r => match r with | .inl y => Pce.d0 k y | .inr o => some o
theorem Pce.ok : Yg 250 ⟨⟨[.v K18, .v K0], [.f K0]⟩, fun k (x : T29) => Pce.f k x.1 x.2⟩ := Yq 19 Yv (.n (.seq (.n (.lp [.s 0 K18, .s 1 K0, .s 4 K0, .s 7 K0, .s 8 K0] 4 (.n (.seq (.cond .l .l) (.seq (.blk (.n .c)) .l))))) (.n .l))) Tryz.func250 Yn
def Pci.f (a0 : List Int) (a1 : Int) : Option Bool :=
 (Pce.f k a0 a1).bind fun r1 => some (decide (0 ≤ r1))
theorem Pci.ok : Yg 191 ⟨⟨[.v K18, .v K0], [.f .bool]⟩, fun k (x : T29) => Pci.f k x.1 x.2⟩ := Yq 9 Yv (.n (.n .l)) Tryz.func191 (Yc Pce.ok Yn)
def Pcx.f (k : Nat) (a0 : List T4) : Option (List T4) :=
 (app? (limOf 24) [] a0).bind fun l1 => some l1
theorem Pcx.ok : Yg 192 ⟨⟨[.v K11], [.f K11]⟩, fun k (x : List T4) => Pcx.f k x⟩ := Yq 5 (Yk 114 K5 Yv) (.n (.n .l)) Tryz.func192 Yn
def Phc.f (k : Nat) (a0 : T4) (a1 : Zb) : Option Bool :=
 some (decide (a0.1 = a1))
theorem Phc.ok : Yg 274 ⟨⟨[.w K5, .box 9 .str false false], [.f .bool]⟩, fun k (x : T4 × Zb) => Phc.f k x.1 x.2⟩ := Yq 8 Yv (.n (.n .l)) Tryz.func274 Yn
def Pai.b0 (s : List T4 × Int × T5) : Option ((List T4 × Int × T5) ⊕ Int ⊕ Int) :=
 bif decide (s.2.2.2.1 < s.2.2.1) then (inb? s.1.length s.2.2.2.1).bind fun j1 => (s.1[j1]?).bind fun y2 => (Phc.f k y2 s.2.2.2.2).bind fun r3 => bif r3 then some (.inr (.inr s.2.2.2.1)) else some (.inl (s.1, s.2.1, s.2.2.1, Zr (s.2.2.2.1 + 1), s.2.2.2.2)) else some (.inr (.inl s.2.1))
def Pai.d0 (k : Nat) (y : Int) : Option Int :=
 some (-1)
def Pai.f (a0 : List T4) (a1 : Zb) : Option Int :=
 (iter (X := Int ⊕ Int) (Pai.b0 k) k (a0, 0, (a0.length : Int), 0, a1)).bind fun r => match r with | .inl y => Pai.d0 k y | .inr o => some o
theorem Pai.ok : Yg 273 ⟨⟨[.v K11, .clo 274 false 9 .str], [.f K0]⟩, fun k (x : List T4 × Zb) => Pai.f k x.1 x.2⟩ := Yq 19 Yv (.n (.seq (.n (.lp [.s 0 K11, .fnp 1 274 false 2, .s 4 K0, .s 7 K0, .s 8 K0, .box 2 9 .str false true] 4 (.n (.seq (.cond .l .l) (.seq (.blk (.n .c)) .l))))) (.n .l))) Tryz.func273 (Yc Phc.ok Yn)
def Pga.f (a0 : List T4) (a1 : Zb) : Option Int :=
 (Pai.f k a0 a1).bind fun r1 => some r1
theorem Pga.ok : Yg 221 ⟨⟨[.v K11, .v .str], [.f K0]⟩, fun k (x : List T4 × Zb) => Pga.f k x.1 x.2⟩ := Yq 8 Yv (.n (.n .l)) Tryz.func221 (Yc Pai.ok Yn)
section
open Go.Proofs Go.Shelf Go.RowKit Go.Lib
theorem Hand.infoLink : ∃ i : TypeInfo, Tryz.prog.info? 114 = some i ∧ i.size = 2 ∧ i.bytes = 24 ∧ ∃ z, i.zero = some z ∧ z.cells.size = 2 := by
 have h : (Tryz.prog.info? 114).map (fun i => (i.zero, i.size, i.bytes)) = some (some (.agg #[.string ⟨#[]⟩, .int .i64 0]), 2, 24) := by kernel_rfl
 cases hq : Tryz.prog.info? 114 with
 | none => rw [hq] at h; cases h
 | some i =>
  rw [hq] at h
  simp only [Option.map_some, Zj, Prod.mk.injEq] at h
  exact ⟨i, rfl, h.2.1, h.2.2, _, h.1, rfl⟩
theorem Hand.zeroLink : ∃ z : Value, (∀ w, (zeroValue 114).run Tryz.prog w = .ok z w) ∧ z.cells.size = 2 ∧ ∀ n, ∀ v ∈ (Builtin.zeroCells z.cells n).toList, v.oneCell' = true := by
 refine ⟨_, Tryz.zeroValue114, rfl, fun n v hv => ?_⟩
 simp only [Builtin.zeroCells] at hv
 obtain ⟨j, hj, rfl⟩ := List.getElem_of_mem hv
 simp [Value.cells]
 have : j % 2 = 0 ∨ j % 2 = 1 := by omega
 rcases this with h | h <;> rw [h] <;> rfl
end
def Pkz (x : T4) : List Value := [.string x.1, .int .i64 x.2]
theorem Pjk (x : T4) : (Pkz x).length = 2 := rfl
theorem Prh {w : World} {S : Nat → Prop} (x : T4) : RdT w S K5 x (Pkz x) := by unfold Pkz; exact ⟨[_], [_], rfl, rfl, rfl⟩
section
open Go.Proofs Go.Shelf Go.RowKit Go.Lib
set_option maxHeartbeats 4000000 in
set_option maxRecDepth 100000 in
theorem Hand.ins_shift_Link (w : World) (b off n c i vb voff vc : Nat) (cur curv : Array Value) (X V : List Value) (hb : w.heap[b]? = some (.cells cur 114 (0, 0))) (hv : w.heap[vb]? = some (.cells curv 114 (0, 0))) (hne : vb ≠ b)
  (hi : i < n) (hroom : n + 1 ≤ c) (hbig : (n + 1) * 24 ≤ 140737488355328) (hfit : off + c * 2 ≤ cur.size) (hfv : voff + vc * 2 ≤ curv.size) (h1c : 1 ≤ vc)
  (hXl : X.length = n * 2) (hX : ∀ (j : Nat) (v : Value), X[j]? = some v → cur[off + j]? = some v) (h1X : ∀ v ∈ X, v.oneCell' = true)
  (hVl : V.length = 2) (hV : ∀ (j : Nat) (v : Value), V[j]? = some v → curv[voff + j]? = some v) (h1V : ∀ v ∈ V, v.oneCell' = true) :
  Calls Tryz.prog 296 #[.slice (some ⟨b, off, none⟩) n c, .int .i64 i, .slice (some ⟨vb, voff, none⟩) 1 vc] w (Qhs 114 2 w (some b) (X.take (i * 2) ++ V ++ X.drop (i * 2)) (n + 1)) := by
 have hz2 : ¬ ((i : Int) = (n : Int)) := by omega
 have hov : ∀ lb cb, (callFunc 307 #[.slice (some ⟨vb, voff, none⟩) 1 vc, .slice (some ⟨b, off + (i + 1) * 2, none⟩) lb cb]).run Tryz.prog w = .ok (.value (.bool false)) w := fun lb cb => by
  rw [run_callFunc_extern Tryz.func307 (by kernel_rfl) (by kernel_rfl) (by kernel_rfl) (e := Extern.SlicesOverlaps.overlaps #[50, 50] #[4]) (by kernel_rfl),
   Lib.run_overlaps_apart w 50 4 114 Tryz.underlying50 2 Tryz.sizeOf114 ⟨vb, voff, none⟩ ⟨b, off + (i + 1) * 2, none⟩ 1 vc lb cb hne 114 114 curv.size cur.size (by simp [World.shape?, hv]) (by simp [World.shape?, hb]) (by omega) (by simp [World.frozen?, hv]) (by simp [World.frozen?, hv])]
  rfl
 have hw1 : IntKind.i64.wrap ((i : Int) + 1) = (i : Int) + 1 := by rw [IntKind.wrap_i64]; omega
 have hw2 : IntKind.i64.wrap ((n : Int) + 1) = (n : Int) + 1 := by rw [IntKind.wrap_i64]; omega
 have hb1 : (0 : Int) ≤ (i : Int) + 1 := by omega
 have hin : i ≤ n := by omega
 have htn : ((i : Int) + 1).toNat = i + 1 := by omega
 have htn2 : ((n : Int) + 1).toNat = n + 1 := by omega
 have hb2 : ¬ (c = i + 1) := by omega
 have hb3 : (i : Int) ≤ (n : Int) + 1 := by omega
 have hb4 : ¬ (c = i) := by omega
 have hb5 : ¬ ((c : Int) < (n : Int) + 1) := by omega
 have hsz : (Tryz.prog.info? 114).map (·.size) = some 2 := by kernel_rfl
 have hdl : (X.drop (i * 2)).length = (n - i) * 2 := by rw [List.length_drop, hXl, Nat.sub_mul]
 obtain ⟨A, hA⟩ : ∃ A : Array Value, A = (cur.toList.take (off + (i + 1) * 2) ++ X.drop (i * 2) ++ cur.toList.drop (off + (i + 1) * 2 + (X.drop (i * 2)).length)).toArray := ⟨_, rfl⟩
 have hcp1 : ∀ ty dc sc, (Builtin.copy_ #[50, 50] ty #[.slice (some ⟨b, off + (i + 1) * 2, none⟩) (n - i) dc, .slice (some ⟨b, off + i * 2, none⟩) (n + 1 - i) sc]).run Tryz.prog w.drew = .ok (goInt ((n - i : Nat) : Int)) (w.drew.setRow b A) := fun ty dc sc => by
  rw [hA]
  exact Qqs w.drew 50 50 ty 114 b (off + (i + 1) * 2) (n - i) dc ⟨b, off + i * 2, none⟩ (n + 1 - i) sc cur 114 (X.drop (i * 2)) 2 Tryz.underlying50 hsz hb (n - i) (by simp only [Nat.min_def]; split <;> omega) hdl
   (fun j v hj => by
    rw [List.getElem?_drop] at hj
    show w.cell? _ = _
    rw [Addr.add_lit, cell_of_row w b _ cur 114 (0, 0) hb, show off + i * 2 + j = off + (i * 2 + j) by omega]
    exact hX _ v hj) (by rw [hdl]; omega) (fun v hv => h1X v (List.mem_of_mem_drop hv))
 have hAl : A.toList = cur.toList.take (off + (i + 1) * 2) ++ X.drop (i * 2) ++ cur.toList.drop (off + (i + 1) * 2 + (X.drop (i * 2)).length) := by rw [hA]
 have hAs : A.size = cur.size := by rw [hA]; simp only [List.size_toArray, List.length_append, List.length_take, List.length_drop, Array.length_toList, hXl]; omega
 obtain ⟨B, hB⟩ : ∃ B : Array Value, B = (A.toList.take (off + i * 2) ++ V ++ A.toList.drop (off + i * 2 + V.length)).toArray := ⟨_, rfl⟩
 have hBl : B.toList = A.toList.take (off + i * 2) ++ V ++ A.toList.drop (off + i * 2 + V.length) := by rw [hB]
 have hBs : B.size = A.size := by rw [hB]; simp only [List.size_toArray, List.length_append, List.length_take, List.length_drop, Array.length_toList, hVl]; omega
 have hgA : (w.drew.setRow b A).heap[b]? = some (.cells A 114 (0, 0)) := setRow_heap w.drew b cur A 114 (0, 0) hb
 have hgv : (w.drew.setRow b A).heap[vb]? = some (.cells curv 114 (0, 0)) := (setRow_other w.drew b _ _ hne).trans hv
 have hcp2 : ∀ (W : World), W.heap = (w.drew.setRow b A).heap → ∀ ty dc, (Builtin.copy_ #[50, 50] ty #[.slice (some ⟨b, off + i * 2, none⟩) (n + 1 - i) dc, .slice (some ⟨vb, voff, none⟩) 1 vc]).run Tryz.prog W = .ok (goInt ((1 : Nat) : Int)) (W.setRow b B) := fun W hW ty dc => by
  rw [hB]
  exact Qqs W 50 50 ty 114 b (off + i * 2) (n + 1 - i) dc ⟨vb, voff, none⟩ 1 vc A 114 V 2 Tryz.underlying50 hsz (by rw [hW]; exact hgA) 1 (by simp only [Nat.min_def]; split <;> omega) hVl
   (fun j v hj => by
    rw [Addr.add_lit, cell_of_row W vb _ curv 114 (0, 0) (by rw [hW]; exact hgv)]
    exact hV _ v hj) (by rw [hVl, hAs]; omega) h1V
 have hfin : ∀ (j : Nat) (v : Value), (X.take (i * 2) ++ V ++ X.drop (i * 2))[j]? = some v → B[off + j]? = some v := by
  intro j v hj
  rw [← Array.getElem?_toList, hBl, Qke A.toList V (off + i * 2) (off + j) (by simp; omega), hVl]
  have hXt : (X.take (i * 2)).length = i * 2 := by rw [List.length_take, hXl]; omega
  by_cases c1 : j < i * 2
  ·rw [if_pos (by omega), hAl, Qke cur.toList (X.drop (i * 2)) (off + (i + 1) * 2) (off + j) (by rw [hdl]; simp; omega), if_pos (by omega)]
   rw [List.append_assoc, List.getElem?_append_left (by omega), List.getElem?_take, if_pos c1] at hj
   simpa using hX j v hj
  ·rw [if_neg (by omega)]
   rw [List.append_assoc, List.getElem?_append_right (by omega), hXt] at hj
   by_cases c2 : j < i * 2 + 2
   ·rw [if_pos (by omega)]
    rw [List.getElem?_append_left (by omega)] at hj
    rw [show off + j - (off + i * 2) = j - i * 2 by omega]; exact hj
   ·rw [if_neg (by omega), hAl, Qke cur.toList (X.drop (i * 2)) (off + (i + 1) * 2) (off + j) (by rw [hdl]; simp; omega), if_neg (by omega)]
    rw [List.getElem?_append_right (by omega), hVl] at hj
    have hlt := (List.getElem?_eq_some_iff.1 hj).1
    rw [if_pos (by omega), show off + j - (off + (i + 1) * 2) = j - i * 2 - 2 by omega]; exact hj
 have F : Aside ((w.drew.setRow b A).heap[b]? = some (.cells A 114 (0, 0)) ∧ off + c * 2 ≤ B.size ∧ ∀ (j : Nat) (v : Value), (X.take (i * 2) ++ V ++ X.drop (i * 2))[j]? = some v → B[off + j]? = some v) := ⟨hgA, by omega, hfin⟩
 clear hA hB hAl hBl hAs hBs hfin hgA hgv hX hV hdl hb hv
 have mixed : Tryz.prog.follows .mixedOrders = true := by kernel_rfl
 go_enter Tryz.func296, Tryz.ntmps296
 go_wp2_with (simp only [hov])
 go_region_law_o (refine step_copy_runI rfl _ _ 50 50 rfl _ _ (by simp [Act.eval, Act.put]) (by simp [Act.eval, Act.put]) (hcp1 _ _ _) ?_)
 go_wp2_with (at_builtin; refine wpList_copy_runI _ rfl _ _ 50 50 rfl _ _ rfl rfl (hcp2 _ rfl _ _) ?_)
 go_ret
 refine ⟨b, off, c, B, rfl, hroom, setRow_heap _ b A B 114 (0, 0) F.out.1, F.out.2.1, by simpa [List.append_assoc] using F.out.2.2, ⟨rfl, rfl, rfl, rfl, by simp [size_setRow], fun k hk hm => ?_⟩, .inl rfl⟩
 rw [setRow_other _ b _ _ (fun e => hm (by rw [e])), setRow_other _ b _ _ (fun e => hm (by rw [e]))]
 rfl
set_option maxHeartbeats 4000000 in
set_option maxRecDepth 100000 in
theorem Hand.ins_end_Link (w : World) (b : Option Addr) (n c vb voff vc : Nat) (curv : Array Value) (X V : List Value) (hb : ∀ ad, b = some ad → ad.spot = none ∧ ∃ cur, w.heap[ad.block]? = some (.cells cur 114 (0, 0)) ∧ ad.off + c * 2 ≤ cur.size ∧ ∀ (j : Nat) (v : Value), X[j]? = some v → cur[ad.off + j]? = some v)
  (hnil : b = none → n = 0 ∧ c = 0) (hv : w.heap[vb]? = some (.cells curv 114 (0, 0))) (hnc : n ≤ c) (hbig : (n + 1) * 24 ≤ 140737488355328) (hfv : voff + vc * 2 ≤ curv.size) (h1c : 1 ≤ vc)
  (hXl : X.length = n * 2) (h1X : ∀ v ∈ X, v.oneCell' = true)
  (hVl : V.length = 2) (hV : ∀ (j : Nat) (v : Value), V[j]? = some v → curv[voff + j]? = some v) (h1V : ∀ v ∈ V, v.oneCell' = true) :
  Calls Tryz.prog 296 #[.slice b n c, .int .i64 n, .slice (some ⟨vb, voff, none⟩) 1 vc] w (Qhs 114 2 w (b.map (·.block)) (X ++ V) (n + 1)) := by
 obtain ⟨i0, hi0, hz0, hbt, z, hz, hzs⟩ := Hand.infoLink
 have hVc : ∀ j u, V[j]? = some u → w.cell? ((⟨vb, voff, none⟩ : Addr).add j) = some u := fun j u hj => by
  rw [Addr.add_lit, cell_of_row w vb _ curv 114 (0, 0) hv]; exact hV j u hj
 -- what the append does
 obtain ⟨val, w1, hrun, hpost⟩ : ∃ val w1, (∀ ty, (Builtin.append_ #[50, 50] ty #[.slice b n c, .slice (some ⟨vb, voff, none⟩) 1 vc]).run Tryz.prog w = .ok val w1) ∧ Qhs 114 2 w (b.map (·.block)) (X ++ V) (n + 1) (.returned val) w1 := by
  cases b with
  | none =>
   obtain ⟨rfl, rfl⟩ := hnil rfl
   obtain rfl : X = [] := List.eq_nil_of_length_eq_zero (by simpa using hXl)
   refine ⟨_, _, fun ty => run_append_nil w 50 ty 114 i0 z Tryz.underlying50 hi0 hz ⟨vb, voff, none⟩ 1 vc V (by rw [hVl, hz0]) hVc (by omega) (by omega) (by rw [hbt]; omega), ?_⟩
   refine Qhs.new (pad := (Builtin.zeroCells z.cells (grownCap w 1 0 114 - 1)).toList) (by congr 2; apply Array.toList_inj.1; simp) (grownCap_ge w 1 0 114) ?_
   have hge := grownCap_ge w 1 0 114
   simp only [List.nil_append, hVl, Array.length_toList, size_zeroCells, hzs]
   omega
  | some ad =>
   obtain ⟨hsp, cur, hcur, hfit, hX⟩ := hb ad rfl
   obtain ⟨ab, ao, asp⟩ := ad
   simp only at hsp hcur hfit hX
   subst hsp
   by_cases hroom : n + 1 ≤ c
   ·refine ⟨_, _, fun ty => Qhm w 50 ty 114 i0 Tryz.underlying50 hi0 ab ao n c cur hcur ⟨vb, voff, none⟩ 1 vc V (by rw [hVl, hz0]) hVc h1V hroom (by rw [hz0, hVl]; omega), ?_⟩
    rw [hz0]
    refine ⟨ab, ao, c, _, rfl, hroom, setRow_heap w ab cur _ 114 (0, 0) hcur, ?_, fun j v hj => ?_, ⟨rfl, rfl, rfl, rfl, by simp [size_setRow], fun k hk hm => setRow_other w ab k _ (fun e => hm (by simp [e]))⟩, .inl rfl⟩
    ·simp only [List.size_toArray, List.length_append, List.length_take, List.length_drop, Array.length_toList, hVl]; omega
    ·simp only [List.getElem?_toArray]
     rw [Qke cur.toList V (ao + n * 2) (ao + j) (by simp [hVl]; omega), hVl]
     by_cases c1 : j < n * 2
     ·rw [if_pos (by omega)]
      rw [List.getElem?_append_left (by omega)] at hj
      simpa using hX j v hj
     ·rw [if_neg (by omega)]
      rw [List.getElem?_append_right (by omega), hXl] at hj
      have hlt := (List.getElem?_eq_some_iff.1 hj).1
      rw [if_pos (by omega), show ao + j - (ao + n * 2) = j - n * 2 by omega]; exact hj
   ·refine ⟨_, _, fun ty => run_append_grow w 50 ty 114 i0 z Tryz.underlying50 hi0 hz ⟨ab, ao, none⟩ n c X (by rw [hXl, hz0]) (fun j u hj => by rw [Addr.add_lit, cell_of_row w ab _ cur 114 (0, 0) hcur]; exact hX j u hj) ⟨vb, voff, none⟩ 1 vc V (by rw [hVl, hz0]) hVc (by omega) (by omega) (by rw [hbt]; exact growslice_fits (by omega) hbig), ?_⟩
    have hge := grownCap_ge w (n + 1) c 114
    refine Qhs.new (pad := (Builtin.zeroCells z.cells (grownCap w (n + 1) c 114 - (n + 1))).toList) (by congr 2; apply Array.toList_inj.1; simp) hge ?_
    simp only [List.length_append, hXl, hVl, Array.length_toList, size_zeroCells, hzs]
    omega
 have P := hpost
 clear hpost hb hVc hV h1X h1V
 have F : Aside (Qhs 114 2 w (b.map (·.block)) (X ++ V) (n + 1) (.returned val) w1) := P
 clear P
 have mixed : Tryz.prog.follows .mixedOrders = true := by kernel_rfl
 go_enter Tryz.func296, Tryz.ntmps296
 cases b with
 | none =>
  obtain ⟨rfl, rfl⟩ := hnil rfl
  go_wp2_with (at_builtin; refine Lib.wpList_append_run _ rfl _ _ _ _ rfl _ _ rfl rfl _ _ (hrun _) ?_)
  go_ret
  exact F.out
 | some a =>
  obtain ⟨ab, ao, asp⟩ := a
  go_wp2_with (at_builtin; refine Lib.wpList_append_run _ rfl _ _ _ _ rfl _ _ rfl rfl _ _ (hrun _) ?_)
  all_goals (go_ret; exact F.out)
set_option maxHeartbeats 4000000 in
set_option maxRecDepth 100000 in
theorem Hand.ins_grow_Link (w : World) (b off n c i vb voff vc : Nat) (cur curv : Array Value) (X V : List Value) (hb : w.heap[b]? = some (.cells cur 114 (0, 0))) (hv : w.heap[vb]? = some (.cells curv 114 (0, 0)))
  (hi : i < n) (hnc : n ≤ c) (hroom : c < n + 1) (hbig : (n + 1) * 24 ≤ 140737488355328) (hfit : off + c * 2 ≤ cur.size) (hfv : voff + vc * 2 ≤ curv.size) (h1c : 1 ≤ vc)
  (hXl : X.length = n * 2) (hX : ∀ (j : Nat) (v : Value), X[j]? = some v → cur[off + j]? = some v) (h1X : ∀ v ∈ X, v.oneCell' = true)
  (hVl : V.length = 2) (hV : ∀ (j : Nat) (v : Value), V[j]? = some v → curv[voff + j]? = some v) (h1V : ∀ v ∈ V, v.oneCell' = true) :
  Calls Tryz.prog 296 #[.slice (some ⟨b, off, none⟩) n c, .int .i64 i, .slice (some ⟨vb, voff, none⟩) 1 vc] w (Qhs 114 2 w (some b) (X.take (i * 2) ++ V ++ X.drop (i * 2)) (n + 1)) := by
 obtain ⟨i0, hi0, hz0, hbt, z, hz, hzs⟩ := Hand.infoLink
 have hz2 : ¬ ((i : Int) = (n : Int)) := by omega
 have hz3 : (c : Int) < (n : Int) + 1 := by omega
 have hsz : (Tryz.prog.info? 114).map (·.size) = some 2 := by kernel_rfl
 have hbw : b < w.heap.size := (Array.getElem?_eq_some_iff.1 hb).1
 have hvw : vb < w.heap.size := (Array.getElem?_eq_some_iff.1 hv).1
 have hkk : (n : Int) + 1 - (i : Int) = ((n + 1 - i : Nat) : Int) := by omega
 have hik : i + (n + 1 - i) = n + 1 := by omega
 have hXt : (X.take (i * 2)).length = i * 2 := by rw [List.length_take, hXl]; omega
 have hold : (Builtin.firstCells i0.size i (.slice (some ⟨b, off, none⟩) i c)).run Tryz.prog w.drew = .ok (X.take (i * 2)).toArray w.drew := by
  rw [hz0]
  exact run_firstCells_some w.drew 2 i ⟨b, off, none⟩ i c (X.take (i * 2)) hXt (fun j v hj => by
   rw [List.getElem?_take] at hj
   split at hj
   ·show w.cell? _ = _
    rw [Addr.add_lit, cell_of_row w b _ cur 114 (0, 0) hb]; exact hX j v hj
   ·cases hj)
 obtain ⟨G, hG⟩ : ∃ G, G = grownCap w (n + 1) c 114 := ⟨_, rfl⟩
 obtain ⟨ROW, hROW⟩ : ∃ ROW : Array Value, ROW = (X.take (i * 2)).toArray ++ Builtin.zeroCells z.cells (n + 1 - i) ++ Builtin.zeroCells z.cells (G - (n + 1)) := ⟨_, rfl⟩
 have hGn : n + 1 ≤ G := by rw [hG]; exact grownCap_ge w _ _ _
 have hG63 : G ≤ 9223372036854775807 := by
  have := grownCap_le_maxLen w (n + 1) c 114 (by unfold maxLen; omega)
  rw [← hG] at this
  unfold maxLen at this
  omega
 have hRs : ROW.size = G * 2 := by
  rw [hROW]; simp only [Array.size_append, size_zeroCells, hzs, List.size_toArray, hXt]; omega
 have hrz : ∀ ty, (Builtin.append_ #[50, 3] ty #[.slice (some ⟨b, off, none⟩) i c, .int .i64 ((n : Int) + 1 - (i : Int))]).run Tryz.prog w =
   .ok (.slice (some ⟨w.heap.size, 0, none⟩) (n + 1) G) (w.drew.alloc (.cells ROW 114)) := fun ty => by
  have h := Lib.run_append_grow_zeros w 50 3 ty 114 i0 z .i64 .i64 Tryz.underlying50 Tryz.underlying3 hi0 hz (some ⟨b, off, none⟩) i c (X.take (i * 2)) hold (n + 1 - i) (by omega) (by omega) (by omega) (by omega) (by rw [hbt]; omega) (by rw [hbt, hik]; exact growslice_fits hroom hbig)
  rw [hik] at h
  rw [hkk, hROW, hG]
  exact h
 have hgR : (w.drew.alloc (.cells ROW 114)).heap[w.heap.size]? = some (.cells ROW 114 (0, 0)) := by show (w.heap.push _)[w.heap.size]? = _; simp
 have hgo : ∀ k, k < w.heap.size → (w.drew.alloc (.cells ROW 114)).heap[k]? = w.heap[k]? := fun k hk => by
  show (w.heap.push _)[k]? = _
  simp [Array.getElem?_push, Nat.ne_of_lt hk]
 obtain ⟨A, hA⟩ : ∃ A : Array Value, A = (ROW.toList.take (i * 2) ++ V ++ ROW.toList.drop (i * 2 + V.length)).toArray := ⟨_, rfl⟩
 have hAl : A.toList = ROW.toList.take (i * 2) ++ V ++ ROW.toList.drop (i * 2 + V.length) := by rw [hA]
 have hAs : A.size = ROW.size := by rw [hA]; simp only [List.size_toArray, List.length_append, List.length_take, List.length_drop, Array.length_toList, hVl]; omega
 have hcpA : ∀ (W : World), W.heap = (w.drew.alloc (.cells ROW 114)).heap → ∀ ty dc, (Builtin.copy_ #[50, 50] ty #[.slice (some ⟨w.heap.size, i * 2, none⟩) (n + 1 - i) dc, .slice (some ⟨vb, voff, none⟩) 1 vc]).run Tryz.prog W = .ok (goInt ((1 : Nat) : Int)) (W.setRow w.heap.size A) := fun W hW ty dc => by
  rw [hA]
  exact Qqs W 50 50 ty 114 w.heap.size (i * 2) (n + 1 - i) dc ⟨vb, voff, none⟩ 1 vc ROW 114 V 2 Tryz.underlying50 hsz (by rw [hW]; exact hgR) 1 (by simp only [Nat.min_def]; split <;> omega) hVl
   (fun j v hj => by
    rw [Addr.add_lit, cell_of_row W vb _ curv 114 (0, 0) (by rw [hW, hgo vb hvw]; exact hv)]
    exact hV _ v hj) (by rw [hVl, hRs]; omega) h1V
 have hgA : ((w.drew.alloc (.cells ROW 114)).setRow w.heap.size A).heap[w.heap.size]? = some (.cells A 114 (0, 0)) := setRow_heap _ _ ROW A 114 (0, 0) hgR
 have hgAo : ∀ k, k < w.heap.size → ((w.drew.alloc (.cells ROW 114)).setRow w.heap.size A).heap[k]? = w.heap[k]? := fun k hk => (setRow_other _ _ _ _ (Nat.ne_of_lt hk)).trans (hgo k hk)
 have hdl : (X.drop (i * 2)).length = (n - i) * 2 := by rw [List.length_drop, hXl, Nat.sub_mul]
 obtain ⟨B, hB⟩ : ∃ B : Array Value, B = (A.toList.take ((i + 1) * 2) ++ X.drop (i * 2) ++ A.toList.drop ((i + 1) * 2 + (X.drop (i * 2)).length)).toArray := ⟨_, rfl⟩
 have hBl : B.toList = A.toList.take ((i + 1) * 2) ++ X.drop (i * 2) ++ A.toList.drop ((i + 1) * 2 + (X.drop (i * 2)).length) := by rw [hB]
 have hBs : B.size = A.size := by rw [hB]; simp only [List.size_toArray, List.length_append, List.length_take, List.length_drop, Array.length_toList, hXl]; omega
 have hcpB : ∀ (W : World), W.heap = ((w.drew.alloc (.cells ROW 114)).setRow w.heap.size A).heap → ∀ ty dc sc, (Builtin.copy_ #[50, 50] ty #[.slice (some ⟨w.heap.size, (i + 1) * 2, none⟩) (n - i) dc, .slice (some ⟨b, off + i * 2, none⟩) (n - i) sc]).run Tryz.prog W = .ok (goInt ((n - i : Nat) : Int)) (W.setRow w.heap.size B) := fun W hW ty dc sc => by
  rw [hB]
  exact Qqs W 50 50 ty 114 w.heap.size ((i + 1) * 2) (n - i) dc ⟨b, off + i * 2, none⟩ (n - i) sc A 114 (X.drop (i * 2)) 2 Tryz.underlying50 hsz (by rw [hW]; exact hgA) (n - i) (by simp only [Nat.min_def]; split <;> omega) hdl
   (fun j v hj => by
    rw [List.getElem?_drop] at hj
    rw [Addr.add_lit, cell_of_row W b _ cur 114 (0, 0) (by rw [hW, hgAo b hbw]; exact hb), show off + i * 2 + j = off + (i * 2 + j) by omega]
    exact hX _ v hj) (by rw [hdl, hAs, hRs]; omega) (fun v hv => h1X v (List.mem_of_mem_drop hv))
 have hfin : ∀ (j : Nat) (v : Value), (X.take (i * 2) ++ V ++ X.drop (i * 2))[j]? = some v → B[0 + j]? = some v := by
  intro j v hj
  have hAsz : A.toList.length = G * 2 := by rw [Array.length_toList, hAs, hRs]
  have hRsz : ROW.toList.length = G * 2 := by rw [Array.length_toList, hRs]
  rw [Nat.zero_add, ← Array.getElem?_toList, hBl, Qke A.toList (X.drop (i * 2)) ((i + 1) * 2) j (by rw [hdl]; omega), hdl]
  by_cases c1 : j < i * 2
  ·rw [if_pos (by omega), hAl, Qke ROW.toList V (i * 2) j (by omega), if_pos (by omega)]
   rw [List.append_assoc, List.getElem?_append_left (by omega)] at hj
   rw [Array.getElem?_toList, hROW, Array.append_assoc, Array.getElem?_append_left (by simp [hXt]; omega)]
   simpa using hj
  ·rw [List.append_assoc, List.getElem?_append_right (by omega), hXt] at hj
   by_cases c2 : j < i * 2 + 2
   ·rw [if_pos (by omega), hAl, Qke ROW.toList V (i * 2) j (by omega), if_neg (by omega), if_pos (by omega)]
    rw [List.getElem?_append_left (by omega)] at hj
    exact hj
   ·rw [List.getElem?_append_right (by omega), hVl] at hj
    have hlt := (List.getElem?_eq_some_iff.1 hj).1
    rw [if_neg (by omega), if_pos (by omega), show j - (i + 1) * 2 = j - i * 2 - 2 by omega]; exact hj
 have F : Aside (((w.drew.alloc (.cells ROW 114)).setRow w.heap.size A).heap[w.heap.size]? = some (.cells A 114 (0, 0)) ∧ 0 + G * 2 ≤ B.size ∧ (∀ (j : Nat) (v : Value), (X.take (i * 2) ++ V ++ X.drop (i * 2))[j]? = some v → B[0 + j]? = some v) ∧ ∀ k, k < w.heap.size → ((w.drew.alloc (.cells ROW 114)).setRow w.heap.size A).heap[k]? = w.heap[k]?) := ⟨hgA, by omega, hfin, hgAo⟩
 have hGi : ¬ (G = i) := by omega
 have hGim : ¬ (G = i + 1) := by omega
 have hci : ¬ (c = i) := by omega
 have hw1 : IntKind.i64.wrap ((i : Int) + 1) = (i : Int) + 1 := by rw [IntKind.wrap_i64]; omega
 have hw2 : IntKind.i64.wrap ((n : Int) + 1) = (n : Int) + 1 := by rw [IntKind.wrap_i64]; omega
 have hw3 : IntKind.i64.wrap ((n : Int) + 1 - (i : Int)) = (n : Int) + 1 - (i : Int) := by rw [IntKind.wrap_i64]; omega
 have hb1 : (0 : Int) ≤ (i : Int) + 1 := by omega
 have hin : i ≤ n := by omega
 have htn : ((i : Int) + 1).toNat = i + 1 := by omega
 have hb3 : (i : Int) ≤ (n : Int) := by omega
 clear hkk hik hold hROW hG hRs hgR hgo hA hAl hAs hgA hgAo hB hBl hBs hfin hdl hX hV hb hv
 have hcpA' : ∀ ty dc, (Builtin.copy_ #[50, 50] ty #[.slice (some ⟨w.heap.size, i * 2, none⟩) (n + 1 - i) dc, .slice (some ⟨vb, voff, none⟩) 1 vc]).run Tryz.prog ((w.alloc (.cells ROW 114)).drew) = .ok (goInt ((1 : Nat) : Int)) (((w.alloc (.cells ROW 114)).drew).setRow w.heap.size A) := fun ty dc => hcpA _ rfl ty dc
 clear hcpA
 have mixed : Tryz.prog.follows .mixedOrders = true := by kernel_rfl
 go_enter Tryz.func296, Tryz.ntmps296
 go_wp2_with (at_builtin; refine Lib.wpList_append_run _ rfl _ _ _ _ rfl _ _ rfl rfl _ _ (hrz _) ?_)
 go_region_law_o (refine step_copy_runI rfl _ _ 50 50 rfl (.slice (some ⟨w.heap.size, (i + 1) * 2, none⟩) (n - i) (G - (i + 1))) (.slice (some ⟨b, off + i * 2, none⟩) (n - i) (c - i)) (by simp [Act.eval, Act.put]) (by simp [Act.eval, Act.put]) (hcpB _ (by rfl) 3 (G - (i + 1)) (c - i)) ?_)
 go_wp2
 go_ret
 refine ⟨w.heap.size, 0, G, B, rfl, hGn, setRow_heap _ _ A B 114 (0, 0) F.out.1, F.out.2.1, by simpa [List.append_assoc] using F.out.2.2.1, ⟨rfl, rfl, rfl, rfl, ?_, fun k hk hm => ?_⟩, .inr (Nat.le_refl _)⟩
 ·rw [size_setRow]
  show w.heap.size ≤ (((w.alloc (.cells ROW 114)).drew.setRow w.heap.size A)).heap.size
  rw [size_setRow]
  show w.heap.size ≤ (w.heap.push _).size
  simp
 ·rw [setRow_other _ _ _ _ (Nat.ne_of_lt hk)]
  exact F.out.2.2.2 k hk
end
def Pbv.f (k : Nat) (a0 : List T4) (a1 : Int) (a2 : List T4) : Option (List T4) := insF 24 a0 a1 a2
def Pbv.sig : Sig := ⟨[.give false K11, .val false K0, .give false K11], [⟨false, K11, true⟩]⟩
def Pbv.fn : Fn := ⟨Pbv.sig, fun k (x : List T4 × Int × List T4) => Pbv.f k x.1 x.2.1 x.2.2⟩
theorem Pbv.ok (k : Nat) : FnOk Tryz.prog k 296 Pbv.fn := by
 refine ⟨Qqo Tryz.func296 (by kernel_rfl) (by kernel_rfl), ?_⟩
 intro w S vs vss rows (x : List (K5 : CK).T × Int × List (K5 : CK).T) (r : List (K5 : CK).T) hsem hargs hparts hS hbn hbn2 hbS hnd hrows hgl
 obtain ⟨xs, i, ys⟩ := x
 change Pbv.f k xs i ys = some r at hsem
 unfold Pbv.f insF at hsem
 split at hsem
 case isFalse => cases hsem
 rename_i hc
 obtain ⟨hy1, hi0, hin, hbig⟩ : ys.length = 1 ∧ 0 ≤ i ∧ i ≤ xs.length ∧ (xs.length + 1) * 24 ≤ 140737488355328 := hc
 have hsem : xs.take i.toNat ++ ys ++ xs.drop i.toNat = r := Option.some.inj hsem
 obtain ⟨n, rfl⟩ : ∃ n : Nat, i = n := ⟨i.toNat, by omega⟩
 have hsem : xs.take n ++ ys ++ xs.drop n = r := hsem
 have hin : n ≤ xs.length := by exact_mod_cast hin
 have hal := hargs.length
 obtain ⟨v0, v1, v2, rfl⟩ := list3 hal.1
 obtain ⟨l0, l1, l2, rfl⟩ := list3 hal.2
 ·obtain ⟨ha0, ha1, ha2, _⟩ := hargs
  simp only [Bool.false_eq_true, if_false] at ha0 ha1 ha2
  subst ha0; subst ha1; subst ha2
  obtain ⟨q0, qs, r1, r2, he, rfl, hp0, hp⟩ := hparts
  simp only [List.cons.injEq] at he
  obtain ⟨rfl, rfl⟩ := he
  obtain ⟨q1, qs, r3, r4, he, rfl, hp1, hp2⟩ := hp
  simp only [List.cons.injEq] at he
  obtain ⟨rfl, rfl⟩ := he
  obtain ⟨q2, he, hp2⟩ := hp2
  simp only [List.cons.injEq, and_true] at he
  subst he
  have hp0 : OwnT w S K11 xs [v0] r1 := hp0
  have hp2 : OwnT w S K11 ys [v2] r4 := hp2
  obtain ⟨hp1, rfl⟩ : RdT w S K0 (n : Int) [v1] ∧ r3 = [] := hp1
  have hv1 : v1 = .int .i64 n := by simpa [RdT] using hp1
  subst hv1
  obtain ⟨a, cap, X, hl, rfl, hcap, hnil, hXl, hX, hblk⟩ := Qrc hp0 (by decide)
  simp only [List.cons.injEq, and_true] at hl
  subst hl
  obtain ⟨a2, cap2, V, hl, rfl, hcap2, hnil2, hVl, hV, hblk2⟩ := Qrc hp2 (by decide)
  simp only [List.cons.injEq, and_true] at hl
  subst hl
  rw [hy1] at hcap2 hVl
  cases a2 with
  | none => obtain ⟨rfl, _⟩ := hnil2 rfl; simp at hy1
  | some ad2 =>
   obtain ⟨vb, voff, vsp⟩ := ad2
   obtain ⟨hsp2, curv, hcurv, hfit2, hVc⟩ := hblk2 _ rfl
   simp only at hsp2 hcurv hfit2 hVc
   subst hsp2
   rw [hy1]
   have h1X := hX.one (by decide : 0 < (K5 : CK).size) (by decide)
   have h1V := hV.one (by decide : 0 < (K5 : CK).size) (by decide)
   have key : Calls Tryz.prog 296 #[.slice a xs.length cap, .int .i64 n, .slice (some ⟨vb, voff, none⟩) 1 cap2] w (Qhs 114 2 w (a.map (·.block)) (X.take (n * 2) ++ V ++ X.drop (n * 2)) (xs.length + 1)) := by
    by_cases hend : n = xs.length
    ·subst hend
     have hXl' : X.length = xs.length * 2 := hXl
     rw [← hXl', List.take_length, List.drop_length, List.append_nil]
     exact Hand.ins_end_Link w a xs.length cap vb voff cap2 curv X V hblk (fun h => by obtain ⟨rfl, h⟩ := hnil h; exact ⟨rfl, h⟩) hcurv hcap hbig hfit2 (by omega) hXl h1X hVl hVc h1V
    ·cases a with
     | none => obtain ⟨rfl, _⟩ := hnil rfl; simp at hin hend; omega
     | some ad =>
      obtain ⟨ab, ao, asp⟩ := ad
      obtain ⟨hsp, cur, hcur, hfit, hXc⟩ := hblk _ rfl
      simp only at hsp hcur hfit hXc
      subst hsp
      have hne : vb ≠ ab := by
       simp only [Blks, Option.map_some, List.cons_append, List.nil_append, List.filterMap_cons, List.filterMap_nil, List.nodup_cons, List.mem_singleton] at hnd
       exact fun h => hnd.1 h.symm
      by_cases hroom : xs.length + 1 ≤ cap
      ·exact Hand.ins_shift_Link w ab ao xs.length cap n vb voff cap2 cur curv X V hcur hcurv hne (by omega) hroom hbig hfit hfit2 (by omega) hXl hXc h1X hVl hVc h1V
      ·exact Hand.ins_grow_Link w ab ao xs.length cap n vb voff cap2 cur curv X V hcur hcurv (by omega) hcap (by omega) hbig hfit hfit2 (by omega) hXl hXc h1X hVl hVc h1V
   refine key.mono ?_
   intro en w' hpost
   have hflat : FlatR (RdT w S K5) (K5 : CK).size r (X.take (n * 2) ++ V ++ X.drop (n * 2)) := by
    rw [← hsem]
    exact ((hX.take n).append hV).append (hX.drop n hin)
   have hrl : xs.length + 1 = r.length := by
    rw [← hsem, List.length_append, List.length_append, List.length_take, List.length_drop, hy1]; omega
   obtain ⟨rv, rows', h1, h2, h3, h4, h5, h6⟩ := Qri (e := 114) (c := K5) (rows := [(a.map (·.block), .slice a xs.length cap)] ++ ([] ++ [((some (⟨vb, voff, none⟩ : Addr)).map (·.block), .slice (some ⟨vb, voff, none⟩) ys.length cap2)])) hpost hflat hrl hS
    (fun x hx => by simp [Blks, hx]) (fun x hx => ⟨(hrows x hx).1, (hrows x hx).2.1⟩) rfl
   exact ⟨rv, S, [[rv]], [], rows', h1, h2, fun _ h => h, fun _ h => .inl h, h3, h4, ⟨rfl, trivial⟩, rfl, h5, h6⟩
end Go.Proofs.YtbkcbfkehncocaaGreatDoor.Rx
