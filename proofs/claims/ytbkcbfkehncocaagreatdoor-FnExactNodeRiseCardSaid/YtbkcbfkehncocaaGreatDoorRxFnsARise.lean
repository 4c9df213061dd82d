/- Typed functions and their contracts. No condition. -/
import Derived.Test.YtbkcbfkehncocaaGreatDoorRxC
import Derived.Test.YtbkcbfkehncocaaGreatDoorProg
import Derived.KernelRfl
set_option linter.unusedVariables false
set_option linter.unusedSimpArgs false
namespace Go.Proofs.YtbkcbfkehncocaaGreatDoor.Rx
open Go.Proofs
abbrev K0 : CK := .int .i64
abbrev K1 : CK := .pair K0 (.pair K0 (.pair .bool (.pair (.pair K0 (.pair K0 (.pair K0 (.pair K0 (.pair K0 (.pair K0 (.pair K0 (.pair K0 (.pair (.sl 145 (.pair K0 .str)) (.pair K0 (.pair (.sl 3 K0) (.pair (.sl 3 K0) (.sl 3 K0))))))))))))) (.pair (.pair (.sl 124 (.pair .str (.pair .str K0))) (.pair (.sl 3 K0) (.sl 135 (.pair K0 (.pair K0 (.pair K0 (.pair K0 (.pair K0 (.pair .str (.pair K0 K0)))))))))) (.pair (.pair K0 (.pair K0 .str)) (.pair (.pair K0 (.pair K0 (.pair (.sl 110 (.pair K0 (.pair .str K0))) (.pair (.sl 114 (.pair .str K0)) (.sl 117 (.pair K0 (.pair .str (.pair .str K0)))))))) (.pair K0 (.pair K0 K0))))))))
abbrev K2 : CK := .pair K0 (.pair K0 (.pair (.sl 110 (.pair K0 (.pair .str K0))) (.pair (.sl 114 (.pair .str K0)) (.sl 117 (.pair K0 (.pair .str (.pair .str K0)))))))
abbrev K3 : CK := .pair (.sl 124 (.pair .str (.pair .str K0))) (.pair (.sl 3 K0) (.sl 135 (.pair K0 (.pair K0 (.pair K0 (.pair K0 (.pair K0 (.pair .str (.pair K0 K0)))))))))
abbrev K4 : CK := .pair K0 (.pair K0 (.pair K0 (.pair K0 (.pair K0 (.pair K0 (.pair K0 (.pair K0 (.pair (.sl 145 (.pair K0 .str)) (.pair K0 (.pair (.sl 3 K0) (.pair (.sl 3 K0) (.sl 3 K0))))))))))))
abbrev K5 : CK := .pair K0 (.pair K0 (.pair K0 (.pair K0 (.sl 145 (.pair K0 .str)))))
abbrev K6 : CK := .pair .str K0
abbrev K7 : CK := .pair K0 (.pair K0 (.pair K0 (.pair K0 (.pair K0 (.pair .str (.pair K0 K0))))))
abbrev K8 : CK := .pair K0 (.pair K0 .str)
abbrev K9 : CK := .pair K0 (.pair .str K6)
abbrev K10 : CK := .pair K0 (.pair K0 (.pair .bool (.pair (.pair K0 (.pair K0 (.pair K0 (.pair K0 (.pair K0 (.pair K0 (.pair K0 (.pair K0 (.pair (.sl 189 (.pair K0 .str)) (.pair K0 (.pair (.sl 3 K0) (.pair (.sl 3 K0) (.sl 3 K0))))))))))))) (.pair (.pair (.sl 191 (.pair .str K6)) (.pair (.sl 3 K0) (.sl 195 K7))) (.pair K8 (.pair (.pair K0 (.pair K0 (.pair (.sl 197 (.pair K0 K6)) (.pair (.sl 199 K6) (.sl 201 K9))))) (.pair K0 (.pair K0 K0))))))))
abbrev K11 : CK := .pair K0 (.pair .str (.pair .str .str))
abbrev K12 : CK := .sl 114 K6
abbrev K13 : CK := .pair K0 (.pair K0 (.pair K0 (.pair .str (.pair K0 K0))))
abbrev K14 : CK := .pair K0 .str
abbrev K15 : CK := .sl 215 (.int .u32)
abbrev K16 : CK := .pair K0 K6
abbrev K17 : CK := .pair K5 (.pair K8 .bool)
abbrev K18 : CK := .pair .str K6
abbrev K19 : CK := .sl 208 (.pair K0 K0)
abbrev K20 : CK := .sl 3 K0
abbrev K21 : CK := .pair K0 (.pair K0 K8)
abbrev K22 : CK := .sl 145 K14
abbrev K23 : CK := .pair K0 (.pair K0 (.pair .any (.pair K12 (.sl 117 K9))))
abbrev K24 : CK := .sl 110 K16
abbrev K25 : CK := .sl 9 .str
abbrev K26 : CK := .sl 124 K18
abbrev K27 : CK := .pair K0 (.pair K0 (.pair K0 (.pair K0 (.pair K0 (.pair K0 (.pair K0 (.pair K0 (.pair (.sl 189 K14) (.pair K0 (.pair K20 (.pair K20 K20)))))))))))
abbrev K28 : CK := .sl 169 K11
abbrev K29 : CK := .pair .str .bool
abbrev K30 : CK := .arr .u32 8
abbrev K31 : CK := .sl 117 K9
abbrev K32 : CK := .int .u8
abbrev K33 : CK := .sl 135 K7
abbrev K34 : CK := .pair K0 (.pair K0 (.pair (.sl 197 K16) (.pair (.sl 199 K6) (.sl 201 K9))))
abbrev K35 : CK := .int .u32
abbrev K36 : CK := .sl 191 K18
abbrev K37 : CK := .sl 195 K7
abbrev T0 := Int × Int × Bool × (Int × Int × Int × Int × Int × Int × Int × Int × List (Int × Zb) × Int × List Int × List Int × List Int) × (List (Zb × Zb × Int) × List Int × List (Int × Int × Int × Int × Int × Zb × Int × Int)) × (Int × Int × Zb) × (Int × Int × List (Int × Zb × Int) × List (Zb × Int) × List (Int × Zb × Zb × Int)) × Int × Int × Int
abbrev T1 := Int × Int × List (Int × Zb × Int) × List (Zb × Int) × List (Int × Zb × Zb × Int)
abbrev T2 := List (Zb × Zb × Int) × List Int × List (Int × Int × Int × Int × Int × Zb × Int × Int)
abbrev T3 := Int × Int × Int × Int × List (Int × Zb)
abbrev T4 := Zb × Int
abbrev T5 := Int × Int × Int × Int × Int × Int × Int × Int × List (Int × Zb) × Int × List Int × List Int × List Int
abbrev T6 := (T3) × (Int × Int × Zb) × Bool
abbrev T7 := Int × Zb × Zb × Zb
abbrev T8 := Int × Int
abbrev T9 := Int × Int × Int × Int × Int × Zb × T8
abbrev T10 := Zb × T4
abbrev T11 := Int × Zb
abbrev T12 := List Int × List Int × List Int
abbrev T13 := Zb × Bool
abbrev T14 := Zb × Zb
abbrev T15 := Int × T4
abbrev T16 := Int × T10
abbrev T17 := Zb × List Int
abbrev T18 := List Zb × Int
abbrev T19 := Int × Int × Int × (T1) × T1
abbrev T20 := Int × T8
abbrev T21 := List Zb × Bool
abbrev T22 := (T1) × (T6) × (T3) × Int × T11
abbrev T23 := Zb × Bool × (T2) × (T13) × T2
abbrev T24 := (T6) × Int
abbrev T25 := (T0) × (T6) × (T5) × T2
abbrev T26 := Zb × Zb × T2
abbrev T27 := (T1) × Int
abbrev T28 := Int × List (T11) × (T6) × (T3) × (Int × T11) × T6
abbrev T29 := (T2) × Bool
abbrev T30 := List Zb × Bool × List Zb
abbrev T31 := Zb × T20
abbrev T32 := List Int × Int
abbrev T33 := Int × Bool
abbrev T34 := (List (T4) × List (T4) × List (T4) × Bool × T15) ⊕ (List (T4) × List (T4) × Bool × T4) ⊕ (List (T4))
abbrev T35 := Zb × Bool × Int × (T2) × T2
abbrev T36 := List (T8) × Bool
abbrev T37 := Bool × T0
abbrev T38 := List (T4) × List (T4)
abbrev T39 := Int × Bool × Int
abbrev T40 := (T0) × Bool
abbrev T41 := Int × (T6) × (T3) × T6
abbrev T42 := Int × Bool × Int × (T3) × T3
abbrev T43 := (Bool × List Int × List (T4) × Int × Int × T1) ⊕ (Bool × List Int × T1) ⊕ Bool
abbrev T44 := Zb × T8
abbrev T45 := (Bool × Int × T2) ⊕ (Bool × T2) ⊕ Bool
abbrev T46 := Int × Int × Int × T11
abbrev T47 := Int × Int × Unit × List (T4) × List (T16)
abbrev T48 := Zb × Int × T20
abbrev T49 := (List Zb × Bool × List Zb × Int × List (T8)) ⊕ (T30) ⊕ (T21)
abbrev T50 := (T1) × T8
abbrev T51 := List Zb × Int × T18
abbrev T52 := (Zb × Bool × Int × Int × (T2) × (T13) × T2) ⊕ (T23) ⊕ (T29)
abbrev T53 := List Int × List Int × List Int × T32
abbrev T54 := Zb × List Int × List Int × T4
abbrev T55 := Int × List Int
abbrev T56 := List Zb × Bool × List Zb × Int × Zb × List (T8)
abbrev T57 := (Zb × Bool × Int × Int × (T2) × T2) ⊕ (T35) ⊕ (T29)
abbrev T58 := Zb × Zb × Int × T2
abbrev T59 := (Bool × List Int × Int × Int × T5) ⊕ (Bool × T5) ⊕ Bool
abbrev T60 := Int × Bool × T22
abbrev T61 := (T31) ⊕ (T8) ⊕ Int
abbrev T62 := (Zb × Int × Int × Bool × T8) ⊕ (T39) ⊕ (T33)
abbrev T63 := (T3) × T33
abbrev T64 := List (T8) × (T13) × List (T8)
abbrev T65 := (List (T7) × Int × T19) ⊕ (List (T7) × T19) ⊕ (T50)
abbrev T66 := Int × T1
abbrev T67 := Zb × Zb × T12
abbrev T68 := List (T4) × List (T4) × T15
abbrev T69 := Int × Int × T2
abbrev T70 := List Int × List Int
abbrev T71 := List Int × T12
abbrev T72 := Zb × Zb × Int × Int × (T1) × T1
abbrev T73 := Bool × Bool × (T0) × T6
abbrev T74 := Int × Int × (T2) × T10
abbrev T75 := Int × Int × Int × T44
abbrev T76 := Int × List (T11)
abbrev T77 := Int × List (T10)
abbrev T78 := Int × List (T15)
abbrev T79 := Int × List (T16)
abbrev T80 := (Bool × List (T4) × T66) ⊕ Bool ⊕ Bool
abbrev T81 := (Int × T17) ⊕ (Int × T17) ⊕ Zb
abbrev T82 := Zb × Bool × List (T8) × List (T8)
abbrev T83 := Int × List (T9)
abbrev T84 := Int × List (T4)
abbrev T85 := Bool × List Int × T1
abbrev T86 := (Bool × T66) ⊕ (Bool × T1) ⊕ Bool
abbrev T87 := Bool × T2
abbrev T88 := Int × T13
def Yv : TypeId → Option CK := fun _ => none
def Yk (e : TypeId) (c : CK) (r : TypeId → Option CK) : TypeId → Option CK := fun t => bif Nat.beq t e then some c else r t
abbrev Yg (g : FuncId) (f : Fn) : Prop := ∀ k, FnOk Tryz.prog k g f
abbrev Yl (l : List (FuncId × Fn)) : Prop := ∀ k g f, look l g = some f → FnOk Tryz.prog k g f
theorem Yn : Yl [] := fun _ => Qrj
theorem Yc {g : FuncId} {f : Fn} {l : List (FuncId × Fn)} (hf : Yg g f) (hl : Yl l) : Yl ((g, f) :: l) := fun k => Qra (hf k) (hl k)
theorem Ym : Tryz.prog.follows .mixedOrders = true := by kernel_rfl
theorem Yq {g : FuncId} {f : Fn} {l : List (FuncId × Fn)} (N : Nat) (kinds : TypeId → Option CK) (ann : Ann) {fn : Func} (hfn : Tryz.prog.funcs[g]? = some fn) (hl : Yl l) (hq : okQ fn N f.sig = true := by kernel_rfl) (hrun : ∀ k x, runFn (envQ Tryz.prog N kinds l k f.sig) fn f.sig ann x = f.sem k x := by intro k x; kernel_rfl) : Yg g f :=
 fun k => fnOk_q N kinds ann hfn (hl k) Ym hq (hrun k)
def Ann.l : Ann := .leaf
def Ann.c : Ann := .n (.cond (.n .leaf) .leaf)
def Item.s (t : Nat) (c : CK) : Item := .slot t false c false
def Item.o (t : Nat) (c : CK) : Item := .slot t false c true
def Item.b (b : Nat) (t : TypeId) (c : CK) : Item := .box b t c false false
def Ann.m : Nat → Ann → Ann
 | 0, a => a
 | n + 1, a => .n (Ann.m n a)
def Item.pick : List Item → Nat → List Item
 | [], _ => []
 | x :: l, m => bif Nat.beq (m % 2) 1 then x :: Item.pick l (m / 2) else Item.pick l (m / 2)
def Ann.lp (v : List Item) (m : Nat) (a : Ann) : Ann := .loop v (Item.pick v m) a
def Z2 {A B C : Type} (f : Nat → A → B → Option C) : Nat → A × B → Option C := fun k x => f k x.1 x.2
def Z3 {A B C D : Type} (f : Nat → A → B → C → Option D) : Nat → A × B × C → Option D := fun k x => f k x.1 x.2.1 x.2.2
def PK.v (c : CK) : PK := .val false c
def PK.w (c : CK) : PK := .val true c
def RK.f (c : CK) : RK := ⟨false, c, true⟩
def RK.t (c : CK) : RK := ⟨true, c, true⟩
abbrev Zm (n : Nat) : Prop := n ≤ 9223372036854775807
abbrev Zh (n : Nat) : Prop := n ≤ 1048576
theorem Zu : ((0 : Nat) : Int) = 0 := rfl
theorem Zp {i n : Nat} (h : i < n := by omega) : decide ((i : Int) < (n : Int)) = true := by simp; omega
theorem Zo1 {n : Nat} : decide ((n : Int) < (n : Int)) = false := by simp
theorem Zp1 {i n : Nat} (h : i < n := by omega) : inb? n (i : Int) = some i := by rw [Qqx (by omega) (by omega), Zn]
theorem Z1 {n : Nat} (h : 0 < n := by omega) : ∃ m, n = m + 1 := ⟨n - 1, by omega⟩
abbrev Zl0 : ByteArray := ⟨#[115, 110, 97, 112, 46, 110, 101, 119]⟩
abbrev Zl1 : ByteArray := ⟨#[46, 110, 101, 119]⟩
abbrev Zl2 : ByteArray := ⟨#[115, 110, 97, 112]⟩
abbrev Zl3 : ByteArray := ⟨#[108, 111, 103, 46, 110, 101, 119]⟩
abbrev Zl4 : ByteArray := ⟨#[98, 112, 101]⟩
abbrev Zl5 : ByteArray := ⟨#[108, 111, 103]⟩
variable (k : Nat)
def Pkc.f (k : Nat) (a0 : T11) (a1 : Int) : Option Int :=
 bif decide (Zr (a1 - (a0.2.size : Int)) < 0) then some (-1) else some (Zr (a1 - (a0.2.size : Int)))
theorem Pkc.ok : Yg 155 ⟨⟨[.w K14, .v K0], [.f K0]⟩, Z2 Pkc.f⟩ := Yq 13 Yv (.n (.n (.seq .c (.n .l)))) Tryz.func155 Yn
def Piw.f (a0 : List T11) (a1 : Int) : Option Int := szL (Pkc.f k) k a0 a1
theorem Piw.ok : Yg 67 ⟨⟨[.v (.sl 189 K14), .v K0], [.f K0]⟩, Z2 Piw.f⟩ := Yq 27 Yv (.n (.n (.seq .c (.seq (.n (.lp [.s 0 (.sl 189 K14), .s 1 K0, .s 4 K0, .s 5 K0] 6 (.seq (.n (.cond .l .l)) (.seq (.blk (.n .c)) .l)))) (.n .l))))) Tryz.func67 (Yc Pkc.ok Yn)
def Pgj.f (k : Nat) (a0 : List Int) (a1 : Int) : Option Int :=
 bif decide (Zr (a1 - (a0.length : Int)) < 0) then some (-1) else some (Zr (a1 - (a0.length : Int)))
theorem Pgj.ok : Yg 68 ⟨⟨[.v K20, .v K0], [.f K0]⟩, Z2 Pgj.f⟩ := Yq 12 Yv (.n (.n (.seq .c (.n .l)))) Tryz.func68 Yn
def Plg.f (a0 : T5) (a1 : Int) : Option Int :=
 (Piw.f k a0.2.2.2.2.2.2.2.2.1 a1).bind fun r1 => bif decide (r1 < 0) then some (-1) else (Pgj.f k a0.2.2.2.2.2.2.2.2.2.2.1 r1).bind fun r2 => bif decide (r2 < 0) then some (-1) else (Pgj.f k a0.2.2.2.2.2.2.2.2.2.2.2.1 r2).bind fun r3 => bif decide (r3 < 0) then some (-1) else (Pgj.f k a0.2.2.2.2.2.2.2.2.2.2.2.2 r3).bind fun r4 => bif decide (r4 < 0) then some (-1) else some r4
theorem Plg.ok : Yg 23 ⟨⟨[.w K27, .v K0], [.f K0]⟩, Z2 Plg.f⟩ := Yq 30 Yv (.n (.n (.seq .c (.n (.seq .c (.n (.seq .c (.n (.seq .c (.n .l)))))))))) Tryz.func23 (Yc Piw.ok (Yc Pgj.ok Yn))
def Pho.f (k : Nat) (a0 : T10) (a1 : Int) : Option Int :=
 bif decide (Zr (a1 - (a0.1.size : Int)) < 0) then some (-1) else bif decide (Zr ((Zr (a1 - (a0.1.size : Int))) - (a0.2.1.size : Int)) < 0) then some (-1) else some (Zr ((Zr (a1 - (a0.1.size : Int))) - (a0.2.1.size : Int)))
theorem Pho.ok : Yg 156 ⟨⟨[.w K18, .v K0], [.f K0]⟩, Z2 Pho.f⟩ := Yq 20 Yv (.n (.n (.seq .c (.n (.seq .c (.n .l)))))) Tryz.func156 Yn
def Pgr.f (a0 : List T10) (a1 : Int) : Option Int := szL (Pho.f k) k a0 a1
theorem Pgr.ok : Yg 69 ⟨⟨[.v K36, .v K0], [.f K0]⟩, Z2 Pgr.f⟩ := Yq 27 Yv (.n (.n (.seq .c (.seq (.n (.lp [.s 0 K36, .s 1 K0, .s 4 K0, .s 5 K0] 6 (.seq (.n (.cond .l .l)) (.seq (.blk (.n .c)) .l)))) (.n .l))))) Tryz.func69 (Yc Pho.ok Yn)
def Piv.f (k : Nat) (a0 : T75) (a1 : Int) : Option Int :=
 bif decide (Zr (a1 - (a0.2.2.2.1.size : Int)) < 0) then some (-1) else some (Zr (a1 - (a0.2.2.2.1.size : Int)))
theorem Piv.ok : Yg 239 ⟨⟨[.w K13, .v K0], [.f K0]⟩, Z2 Piv.f⟩ := Yq 13 Yv (.n (.n (.seq .c (.n .l)))) Tryz.func239 Yn
def Phn.f (a0 : T9) (a1 : Int) : Option Int :=
 (Piv.f k a0.2.2 a1).bind fun r1 => bif decide (r1 < 0) then some (-1) else some r1
theorem Phn.ok : Yg 157 ⟨⟨[.w K7, .v K0], [.f K0]⟩, Z2 Phn.f⟩ := Yq 12 Yv (.n (.n (.seq .c (.n .l)))) Tryz.func157 (Yc Piv.ok Yn)
def Pgq.f (a0 : List T9) (a1 : Int) : Option Int := szL (Phn.f k) k a0 a1
theorem Pgq.ok : Yg 70 ⟨⟨[.v K37, .v K0], [.f K0]⟩, Z2 Pgq.f⟩ := Yq 27 Yv (.n (.n (.seq .c (.seq (.n (.lp [.s 0 K37, .s 1 K0, .s 4 K0, .s 5 K0] 6 (.seq (.n (.cond .l .l)) (.seq (.blk (.n .c)) .l)))) (.n .l))))) Tryz.func70 (Yc Phn.ok Yn)
def Pmq.f (a0 : T2) (a1 : Int) : Option Int :=
 (Pgr.f k a0.1 a1).bind fun r1 => bif decide (r1 < 0) then some (-1) else (Pgj.f k a0.2.1 r1).bind fun r2 => bif decide (r2 < 0) then some (-1) else (Pgq.f k a0.2.2 r2).bind fun r3 => bif decide (r3 < 0) then some (-1) else some r3
theorem Pmq.ok : Yg 24 ⟨⟨[.w (.pair K36 (.pair K20 K37)), .v K0], [.f K0]⟩, Z2 Pmq.f⟩ := Yq 24 Yv (.n (.n (.seq .c (.n (.seq .c (.n (.seq .c (.n .l)))))))) Tryz.func24 (Yc Pgr.ok (Yc Pgj.ok (Yc Pgq.ok Yn)))
def Plk.f (k : Nat) (a0 : Int × T11) (a1 : Int) : Option Int :=
 bif decide (Zr (a1 - (a0.2.2.size : Int)) < 0) then some (-1) else some (Zr (a1 - (a0.2.2.size : Int)))
theorem Plk.ok : Yg 25 ⟨⟨[.w K8, .v K0], [.f K0]⟩, Z2 Plk.f⟩ := Yq 13 Yv (.n (.n (.seq .c (.n .l)))) Tryz.func25 Yn
def Pkd.f (k : Nat) (a0 : T15) (a1 : Int) : Option Int :=
 bif decide (Zr (a1 - (a0.2.1.size : Int)) < 0) then some (-1) else some (Zr (a1 - (a0.2.1.size : Int)))
theorem Pkd.ok : Yg 158 ⟨⟨[.w K16, .v K0], [.f K0]⟩, Z2 Pkd.f⟩ := Yq 13 Yv (.n (.n (.seq .c (.n .l)))) Tryz.func158 Yn
def Pix.f (a0 : List T15) (a1 : Int) : Option Int := szL (Pkd.f k) k a0 a1
theorem Pix.ok : Yg 71 ⟨⟨[.v (.sl 197 K16), .v K0], [.f K0]⟩, Z2 Pix.f⟩ := Yq 27 Yv (.n (.n (.seq .c (.seq (.n (.lp [.slot 0 false (.sl 197 K16) false, .s 1 K0, .s 4 K0, .s 5 K0] 6 (.seq (.n (.cond .l .l)) (.seq (.blk (.n .c)) .l)))) (.n .l))))) Tryz.func71 (Yc Pkd.ok Yn)
def Pli.f (k : Nat) (a0 : T4) (a1 : Int) : Option Int :=
 bif decide (Zr (a1 - (a0.1.size : Int)) < 0) then some (-1) else some (Zr (a1 - (a0.1.size : Int)))
theorem Pli.ok : Yg 159 ⟨⟨[.w K6, .v K0], [.f K0]⟩, Z2 Pli.f⟩ := Yq 13 Yv (.n (.n (.seq .c (.n .l)))) Tryz.func159 Yn
def Pke.f (a0 : List T4) (a1 : Int) : Option Int := szL (Pli.f k) k a0 a1
theorem Pke.ok : Yg 72 ⟨⟨[.v (.sl 199 K6), .v K0], [.f K0]⟩, Z2 Pke.f⟩ := Yq 27 Yv (.n (.n (.seq .c (.seq (.n (.lp [.s 0 (.sl 199 K6), .s 1 K0, .s 4 K0, .s 5 K0] 6 (.seq (.n (.cond .l .l)) (.seq (.blk (.n .c)) .l)))) (.n .l))))) Tryz.func72 (Yc Pli.ok Yn)
def Plj.f (k : Nat) (a0 : T16) (a1 : Int) : Option Int :=
 bif decide (Zr (a1 - (a0.2.1.size : Int)) < 0) then some (-1) else bif decide (Zr ((Zr (a1 - (a0.2.1.size : Int))) - (a0.2.2.1.size : Int)) < 0) then some (-1) else some (Zr ((Zr (a1 - (a0.2.1.size : Int))) - (a0.2.2.1.size : Int)))
theorem Plj.ok : Yg 160 ⟨⟨[.w K9, .v K0], [.f K0]⟩, Z2 Plj.f⟩ := Yq 20 Yv (.n (.n (.seq .c (.n (.seq .c (.n .l)))))) Tryz.func160 Yn
def Pkf.f (a0 : List T16) (a1 : Int) : Option Int := szL (Plj.f k) k a0 a1
theorem Pkf.ok : Yg 73 ⟨⟨[.v (.sl 201 K9), .v K0], [.f K0]⟩, Z2 Pkf.f⟩ := Yq 27 Yv (.n (.n (.seq .c (.seq (.n (.lp [.slot 0 false (.sl 201 K9) false, .s 1 K0, .s 4 K0, .s 5 K0] 6 (.seq (.n (.cond .l .l)) (.seq (.blk (.n .c)) .l)))) (.n .l))))) Tryz.func73 (Yc Plj.ok Yn)
def Plh.f (a0 : T1) (a1 : Int) : Option Int :=
 (Pix.f k a0.2.2.1 a1).bind fun r1 => bif decide (r1 < 0) then some (-1) else (Pke.f k a0.2.2.2.1 r1).bind fun r2 => bif decide (r2 < 0) then some (-1) else (Pkf.f k a0.2.2.2.2 r2).bind fun r3 => bif decide (r3 < 0) then some (-1) else some r3
theorem Plh.ok : Yg 26 ⟨⟨[.w K34, .v K0], [.f K0]⟩, Z2 Plh.f⟩ := Yq 24 Yv (.n (.n (.seq .c (.n (.seq .c (.n (.seq .c (.n .l)))))))) Tryz.func26 (Yc Pix.ok (Yc Pke.ok (Yc Pkf.ok Yn)))
def Pjm.f (a0 : T0) (a1 : Int) : Option Int :=
 (Plg.f k a0.2.2.2.1 a1).bind fun r1 => bif decide (r1 < 0) then some (-1) else (Pmq.f k a0.2.2.2.2.1 r1).bind fun r2 => bif decide (r2 < 0) then some (-1) else (Plk.f k a0.2.2.2.2.2.1 r2).bind fun r3 => bif decide (r3 < 0) then some (-1) else (Plh.f k a0.2.2.2.2.2.2.1 r3).bind fun r4 => bif decide (r4 < 0) then some (-1) else some r4
theorem Pjm.ok : Yg 8 ⟨⟨[.w K10, .v K0], [.f K0]⟩, Z2 Pjm.f⟩ := Yq 30 Yv (.n (.n (.seq .c (.n (.seq .c (.n (.seq .c (.n (.seq .c (.n .l)))))))))) Tryz.func8 (Yc Plg.ok (Yc Pmq.ok (Yc Plk.ok (Yc Plh.ok Yn))))
def Pkg.f (k : Nat) (a0 : T11) : Option T11 :=
 some a0
theorem Pkg.ok : Yg 183 ⟨⟨[.w K14], [.t K14]⟩, Pkg.f⟩ := Yq 11 Yv (.m 5 .l) Tryz.func183 Yn
def Piz.f (a0 : List T11) : Option (List T11) := toL (Pkg.f k) (limOf 24) ((0 : Int), Ze) k a0
theorem Piz.ok : Yg 93 ⟨⟨[.v (.sl 189 K14)], [.f K22]⟩, Piz.f⟩ := Yq 23 (Yk 145 K14 Yv) (.n (.n (.seq (.n (.lp [.s 0 (.sl 189 K14), .o 2 K22, .o 3 K22, .s 4 K0] 6 (.seq (.n (.cond .l .l)) (.seq (.blk .l) .l)))) (.n .l)))) Tryz.func93 (Yc Pkg.ok Yn)
def Pgk.f (a0 : List Int) : Option (List Int) := toL some (limOf 8) (0 : Int) k a0
theorem Pgk.ok : Yg 94 ⟨⟨[.v K20], [.f K20]⟩, Pgk.f⟩ := Yq 22 (Yk 3 K0 Yv) (.n (.n (.seq (.n (.lp [.s 0 K20, .o 2 K20, .o 3 K20, .s 4 K0] 6 (.seq (.n (.cond .l .l)) (.seq (.blk .l) .l)))) (.n .l)))) Tryz.func94 Yn
def Pll.f (a0 : T5) : Option T5 :=
 (Piz.f k a0.2.2.2.2.2.2.2.2.1).bind fun r1 => (Pgk.f k a0.2.2.2.2.2.2.2.2.2.2.1).bind fun r2 => (Pgk.f k a0.2.2.2.2.2.2.2.2.2.2.2.1).bind fun r3 => (Pgk.f k a0.2.2.2.2.2.2.2.2.2.2.2.2).bind fun r4 => some (a0.1, a0.2.1, a0.2.2.1, a0.2.2.2.1, a0.2.2.2.2.1, a0.2.2.2.2.2.1, a0.2.2.2.2.2.2.1, a0.2.2.2.2.2.2.2.1, r1, a0.2.2.2.2.2.2.2.2.2.1, r2, r3, r4)
theorem Pll.ok : Yg 37 ⟨⟨[.w K27], [.t K4]⟩, Pll.f⟩ := Yq 48 Yv (.m 16 .l) Tryz.func37 (Yc Piz.ok (Yc Pgk.ok Yn))
def Phq.f (k : Nat) (a0 : T10) : Option T10 :=
 some a0
theorem Phq.ok : Yg 184 ⟨⟨[.w K18], [.t K18]⟩, Phq.f⟩ := Yq 14 Yv (.m 6 .l) Tryz.func184 Yn
def Pgt.f (a0 : List T10) : Option (List T10) := toL (Phq.f k) (limOf 40) (Ze, Ze, (0 : Int)) k a0
theorem Pgt.ok : Yg 95 ⟨⟨[.v K36], [.f K26]⟩, Pgt.f⟩ := Yq 23 (Yk 124 K18 Yv) (.n (.n (.seq (.n (.lp [.s 0 K36, .slot 2 false K26 true, .slot 3 false K26 true, .s 4 K0] 6 (.seq (.n (.cond .l .l)) (.seq (.blk .l) .l)))) (.n .l)))) Tryz.func95 (Yc Phq.ok Yn)
def Piy.f (k : Nat) (a0 : T75) : Option T75 :=
 some a0
theorem Piy.ok : Yg 247 ⟨⟨[.w K13], [.t K13]⟩, Piy.f⟩ := Yq 23 Yv (.m 9 .l) Tryz.func247 Yn
def Php.f (a0 : T9) : Option T9 :=
 (Piy.f k a0.2.2).bind fun r1 => some (a0.1, a0.2.1, r1)
theorem Php.ok : Yg 185 ⟨⟨[.w K7], [.t K7]⟩, Php.f⟩ := Yq 15 Yv (.m 6 .l) Tryz.func185 (Yc Piy.ok Yn)
def Pgs.f (a0 : List T9) : Option (List T9) := toL (Php.f k) (limOf 72) ((0 : Int), (0 : Int), (0 : Int), (0 : Int), (0 : Int), Ze, (0 : Int), (0 : Int)) k a0
theorem Pgs.ok : Yg 96 ⟨⟨[.v K37], [.f K33]⟩, Pgs.f⟩ := Yq 23 (Yk 135 K7 Yv) (.n (.n (.seq (.n (.lp [.s 0 K37, .slot 2 false K33 true, .slot 3 false K33 true, .s 4 K0] 6 (.seq (.n (.cond .l .l)) (.seq (.blk .l) .l)))) (.n .l)))) Tryz.func96 (Yc Php.ok Yn)
def Pmr.f (a0 : T2) : Option T2 :=
 (Pgt.f k a0.1).bind fun r1 => (Pgk.f k a0.2.1).bind fun r2 => (Pgs.f k a0.2.2).bind fun r3 => some (r1, r2, r3)
theorem Pmr.ok : Yg 38 ⟨⟨[.w (.pair K36 (.pair K20 K37))], [.t K3]⟩, Pmr.f⟩ := Yq 17 Yv (.m 6 .l) Tryz.func38 (Yc Pgt.ok (Yc Pgk.ok (Yc Pgs.ok Yn)))
def Plp.f (k : Nat) (a0 : Int × T11) : Option (Int × T11) :=
 some a0
theorem Plp.ok : Yg 39 ⟨⟨[.w K8], [.t K8]⟩, Plp.f⟩ := Yq 14 Yv (.m 6 .l) Tryz.func39 Yn
def Pkh.f (k : Nat) (a0 : T15) : Option T15 :=
 some a0
theorem Pkh.ok : Yg 186 ⟨⟨[.w K16], [.t K16]⟩, Pkh.f⟩ := Yq 14 Yv (.m 6 .l) Tryz.func186 Yn
def Pja.f (a0 : List T15) : Option (List T15) := toL (Pkh.f k) (limOf 32) ((0 : Int), Ze, (0 : Int)) k a0
theorem Pja.ok : Yg 97 ⟨⟨[.v (.sl 197 K16)], [.f K24]⟩, Pja.f⟩ := Yq 23 (Yk 110 K16 Yv) (.n (.n (.seq (.n (.lp [.slot 0 false (.sl 197 K16) false, .slot 2 false K24 true, .slot 3 false K24 true, .s 4 K0] 6 (.seq (.n (.cond .l .l)) (.seq (.blk .l) .l)))) (.n .l)))) Tryz.func97 (Yc Pkh.ok Yn)
def Pln.f (k : Nat) (a0 : T4) : Option T4 :=
 some a0
theorem Pln.ok : Yg 187 ⟨⟨[.w K6], [.t K6]⟩, Pln.f⟩ := Yq 11 Yv (.m 5 .l) Tryz.func187 Yn
def Pki.f (a0 : List T4) : Option (List T4) := toL (Pln.f k) (limOf 24) (Ze, (0 : Int)) k a0
theorem Pki.ok : Yg 98 ⟨⟨[.v (.sl 199 K6)], [.f K12]⟩, Pki.f⟩ := Yq 23 (Yk 114 K6 Yv) (.n (.n (.seq (.n (.lp [.s 0 (.sl 199 K6), .o 2 K12, .o 3 K12, .s 4 K0] 6 (.seq (.n (.cond .l .l)) (.seq (.blk .l) .l)))) (.n .l)))) Tryz.func98 (Yc Pln.ok Yn)
def Plo.f (k : Nat) (a0 : T16) : Option T16 :=
 some a0
theorem Plo.ok : Yg 188 ⟨⟨[.w K9], [.t K9]⟩, Plo.f⟩ := Yq 17 Yv (.m 7 .l) Tryz.func188 Yn
def Pkj.f (a0 : List T16) : Option (List T16) := toL (Plo.f k) (limOf 48) ((0 : Int), Ze, Ze, (0 : Int)) k a0
theorem Pkj.ok : Yg 99 ⟨⟨[.v (.sl 201 K9)], [.f K31]⟩, Pkj.f⟩ := Yq 23 (Yk 117 K9 Yv) (.n (.n (.seq (.n (.lp [.slot 0 false (.sl 201 K9) false, .slot 2 false K31 true, .slot 3 false K31 true, .s 4 K0] 6 (.seq (.n (.cond .l .l)) (.seq (.blk .l) .l)))) (.n .l)))) Tryz.func99 (Yc Plo.ok Yn)
def Plm.f (a0 : T1) : Option T1 :=
 (Pja.f k a0.2.2.1).bind fun r1 => (Pki.f k a0.2.2.2.1).bind fun r2 => (Pkj.f k a0.2.2.2.2).bind fun r3 => some (a0.1, a0.2.1, r1, r2, r3)
theorem Plm.ok : Yg 40 ⟨⟨[.w K34], [.t K2]⟩, Plm.f⟩ := Yq 23 Yv (.m 8 .l) Tryz.func40 (Yc Pja.ok (Yc Pki.ok (Yc Pkj.ok Yn)))
def Pgl.f (a0 : T0) : Option T0 :=
 (Pll.f k a0.2.2.2.1).bind fun r1 => (Pmr.f k a0.2.2.2.2.1).bind fun r2 => (Plp.f k a0.2.2.2.2.2.1).bind fun r3 => (Plm.f k a0.2.2.2.2.2.2.1).bind fun r4 => some (a0.1, a0.2.1, a0.2.2.1, r1, r2, r3, r4, a0.2.2.2.2.2.2.2)
theorem Pgl.ok : Yg 10 ⟨⟨[.w K10], [.t K1]⟩, Pgl.f⟩ := Yq 39 Yv (.m 13 .l) Tryz.func10 (Yc Pll.ok (Yc Pmr.ok (Yc Plp.ok (Yc Plm.ok Yn))))
def Pao.f (k : Nat) (a0 : Int) (a1 : Int) (a2 : Int) : Option Bool :=
 bif decide (a1 ≤ a0) then some (decide (a0 ≤ a2)) else some false
theorem Pao.ok : Yg 27 ⟨⟨[.v K0, .v K0, .v K0], [.f .bool]⟩, Z3 Pao.f⟩ := Yq 15 Yv (.n (.n .l)) Tryz.func27 Yn
def Pdw.b0 (k : Nat) (s : Int × Int × T66) : Option ((Int × Int × T66) ⊕ T8 ⊕ Int) :=
 bif decide (s.2.2.1 < (s.2.2.2.2.2.1.length : Int)) then (inb? s.2.2.2.2.2.1.length s.2.2.1).bind fun j1 => (s.2.2.2.2.2.1[j1]?).bind fun y2 => some (.inl (s.1, Zr (s.2.1 + (y2.2.1.size : Int)), Zr (s.2.2.1 + 1), s.2.2.2)) else some (.inr (.inl (s.1, s.2.1)))
def Pdw.d0 (k : Nat) (y : T8) : Option Int :=
 some y.2
def Pdw.f (a0 : T1) : Option Int :=
 (iter (X := T8 ⊕ Int) (Pdw.b0 k) k (0, 0, 0, a0)).bind fun | .inl y => Pdw.d0 k y | .inr o => some o
theorem Pdw.ok : Yg 74 ⟨⟨[.w K2], [.f K0]⟩, Pdw.f⟩ := Yq 22 Yv (.n (.n (.seq (.n (.lp [.ptr 1 1000, .s 2 K0, .s 3 K0, .s 4 K0, .box 1000 53 K2 false false] 6 (.seq (.n (.cond .l .l)) (.seq (.blk .l) .l)))) (.n .l)))) Tryz.func74 Yn
def Pcb.b0 (k : Nat) (s : List T4 × T39) : Option ((List T4 × T39) ⊕ Bool ⊕ Bool) :=
 bif decide (s.2.2.2 < (s.1.length : Int)) then (inb? s.1.length s.2.2.2).bind fun j1 => (s.1[j1]?).bind fun y2 => bif decide (y2.2 = s.2.1) then some (.inr (.inr true)) else some (.inl (s.1, s.2.1, s.2.2.1, Zr (s.2.2.2 + 1))) else some (.inr (.inl s.2.2.1))
def Pcb.d0 (k : Nat) (y : Bool) : Option Bool :=
 some false
def Pcb.f (a0 : List T4) (a1 : Int) : Option Bool :=
 (iter (X := Bool ⊕ Bool) (Pcb.b0 k) k (a0, a1, false, 0)).bind fun | .inl y => Pcb.d0 k y | .inr o => some o
theorem Pcb.ok : Yg 75 ⟨⟨[.v K12, .v K0], [.f .bool]⟩, Z2 Pcb.f⟩ := Yq 19 Yv (.n (.seq (.n (.lp [.s 0 K12, .s 1 K0, .s 4 .bool, .s 5 K0] 4 (.seq (.n (.cond .l .l)) (.seq (.blk .c) .l)))) (.n .l))) Tryz.func75 Yn
def Pej.b0 (k : Nat) (s : List T16 × T39) : Option ((List T16 × T39) ⊕ Bool ⊕ Bool) :=
 bif decide (s.2.2.2 < (s.1.length : Int)) then (inb? s.1.length s.2.2.2).bind fun j1 => (s.1[j1]?).bind fun y2 => bif decide (y2.1 = 1) then (inb? s.1.length s.2.2.2).bind fun j3 => (s.1[j3]?).bind fun y4 => bif decide (y4.2.2.2 = s.2.1) then some (.inr (.inr true)) else some (.inl (s.1, s.2.1, s.2.2.1, Zr (s.2.2.2 + 1))) else some (.inl (s.1, s.2.1, s.2.2.1, Zr (s.2.2.2 + 1))) else some (.inr (.inl s.2.2.1))
def Pej.d0 (k : Nat) (y : Bool) : Option Bool :=
 some false
def Pej.f (a0 : List T16) (a1 : Int) : Option Bool :=
 (iter (X := Bool ⊕ Bool) (Pej.b0 k) k (a0, a1, false, 0)).bind fun | .inl y => Pej.d0 k y | .inr o => some o
theorem Pej.ok : Yg 76 ⟨⟨[.v K31, .v K0], [.f .bool]⟩, Z2 Pej.f⟩ := Yq 27 Yv (.n (.seq (.n (.lp [.s 0 K31, .s 1 K0, .s 4 .bool, .s 5 K0] 4 (.seq (.n (.cond .l .l)) (.seq (.blk .c) .l)))) (.n .l))) Tryz.func76 Yn
def Pcc.b0 (k : Nat) (s : Zb × Bool × Int) : Option ((Zb × Bool × Int) ⊕ Bool ⊕ Bool) :=
 bif decide (s.2.2 < (s.1.size : Int)) then (inb? s.1.size s.2.2).bind fun j1 => bif decide (97 ≤ Qmy s.1 j1) then bif decide (Qmy s.1 j1 ≤ 122) then some (.inl (s.1, s.2.1, Zr (s.2.2 + 1))) else bif decide (48 ≤ Qmy s.1 j1) then bif decide (Qmy s.1 j1 ≤ 57) then some (.inl (s.1, s.2.1, Zr (s.2.2 + 1))) else bif !(decide (Qmy s.1 j1 = 46)) then some (.inr (.inr false)) else some (.inl (s.1, s.2.1, Zr (s.2.2 + 1))) else bif !(decide (Qmy s.1 j1 = 46)) then some (.inr (.inr false)) else some (.inl (s.1, s.2.1, Zr (s.2.2 + 1))) else bif decide (48 ≤ Qmy s.1 j1) then bif decide (Qmy s.1 j1 ≤ 57) then some (.inl (s.1, s.2.1, Zr (s.2.2 + 1))) else bif !(decide (Qmy s.1 j1 = 46)) then some (.inr (.inr false)) else some (.inl (s.1, s.2.1, Zr (s.2.2 + 1))) else bif !(decide (Qmy s.1 j1 = 46)) then some (.inr (.inr false)) else some (.inl (s.1, s.2.1, Zr (s.2.2 + 1))) else some (.inr (.inl s.2.1))
def Pcc.d0 (k : Nat) (y : Bool) : Option Bool :=
 some true
def Pcc.f (a0 : Zb) : Option Bool :=
 (Pao.f k (a0.size : Int) 1 12).bind fun r1 => bif !r1 then some false else (iter (X := Bool ⊕ Bool) (Pcc.b0 k) k (a0, false, 0)).bind fun | .inl y => Pcc.d0 k y | .inr o => some o
theorem Pcc.ok : Yg 77 ⟨⟨[.v .str], [.f .bool]⟩, Pcc.f⟩ := Yq 37 Yv (.n (.seq .c (.seq (.n (.lp [.s 0 .str, .s 2 .bool, .s 3 K0] 2 (.seq (.n (.cond .l .l)) (.seq (.blk (.n .c)) .l)))) (.n .l)))) Tryz.func77 (Yc Pao.ok Yn)
def Pdi.b0 (k : Nat) (s : Int × Int × T66) : Option ((Int × Int × T66) ⊕ Int ⊕ Int) :=
 bif decide (s.2.2.1 < (s.2.2.2.2.2.1.length : Int)) then (inb? s.2.2.2.2.2.1.length s.2.2.1).bind fun j1 => (s.2.2.2.2.2.1[j1]?).bind fun y2 => bif decide (y2.1 = s.1) then some (.inr (.inr s.2.2.1)) else some (.inl (s.1, s.2.1, Zr (s.2.2.1 + 1), s.2.2.2)) else some (.inr (.inl s.2.1))
def Pdi.d0 (k : Nat) (y : Int) : Option Int :=
 some (-1)
def Pdi.f (a0 : T1) (a1 : Int) : Option Int :=
 (iter (X := Int ⊕ Int) (Pdi.b0 k) k (a1, 0, 0, a0)).bind fun | .inl y => Pdi.d0 k y | .inr o => some o
theorem Pdi.ok : Yg 78 ⟨⟨[.w K2, .v K0], [.f K0]⟩, Z2 Pdi.f⟩ := Yq 22 Yv (.n (.seq (.n (.lp [.s 1 K0, .ptr 2 1000, .s 4 K0, .s 5 K0, .box 1000 53 K2 false false] 4 (.seq (.n (.cond .l .l)) (.seq (.blk .c) .l)))) (.n .l))) Tryz.func78 Yn
def Pfw.b0 (k : Nat) (s : List T4 × T44) : Option ((List T4 × T44) ⊕ Int ⊕ Int) :=
 bif decide (s.2.2.2 < (s.1.length : Int)) then (inb? s.1.length s.2.2.2).bind fun j1 => (s.1[j1]?).bind fun y2 => bif decide (y2.1 = s.2.1) then some (.inr (.inr s.2.2.2)) else some (.inl (s.1, s.2.1, s.2.2.1, Zr (s.2.2.2 + 1))) else some (.inr (.inl s.2.2.1))
def Pfw.d0 (k : Nat) (y : Int) : Option Int :=
 some (-1)
def Pfw.f (a0 : List T4) (a1 : Zb) : Option Int :=
 (iter (X := Int ⊕ Int) (Pfw.b0 k) k (a0, a1, 0, 0)).bind fun | .inl y => Pfw.d0 k y | .inr o => some o
theorem Pfw.ok : Yg 161 ⟨⟨[.v K12, .v .str], [.f K0]⟩, Z2 Pfw.f⟩ := Yq 20 Yv (.n (.seq (.n (.lp [.s 0 K12, .s 1 .str, .s 4 K0, .s 5 K0] 4 (.seq (.n (.cond .l .l)) (.seq (.blk .c) .l)))) (.n .l))) Tryz.func161 Yn
def Pau.b0 (k : Nat) (s : List T4 × Zb × List T4 × List T4 × Int) : Option ((List T4 × Zb × List T4 × List T4 × Int) ⊕ T38 ⊕ (List T4)) :=
 bif decide (s.2.2.2.2 < (s.1.length : Int)) then (inb? s.1.length s.2.2.2.2).bind fun j1 => (s.1[j1]?).bind fun y2 => bif !decide (y2.1 = s.2.1) then (inb? s.1.length s.2.2.2.2).bind fun j3 => (s.1[j3]?).bind fun y4 => (app? (limOf 24) s.2.2.2.1 ([y4])).bind fun l5 => some (.inl (s.1, s.2.1, s.2.2.1, l5, Zr (s.2.2.2.2 + 1))) else some (.inl (s.1, s.2.1, s.2.2.1, s.2.2.2.1, Zr (s.2.2.2.2 + 1))) else some (.inr (.inl (s.2.2.1, s.2.2.2.1)))
def Pau.d0 (k : Nat) (y : T38) : Option (List T4) :=
 some y.2
def Pau.f (a0 : List T4) (a1 : Zb) : Option (List T4) :=
 (iter (X := T38 ⊕ (List T4)) (Pau.b0 k) k (a0, a1, [], [], 0)).bind fun | .inl y => Pau.d0 k y | .inr o => some o
theorem Pau.ok : Yg 163 ⟨⟨[.v K12, .v .str], [.f K12]⟩, Z2 Pau.f⟩ := Yq 29 (Yk 114 K6 Yv) (.n (.n (.seq (.n (.lp [.s 0 K12, .s 1 .str, .o 4 K12, .o 5 K12, .s 6 K0] 12 (.seq (.n (.cond .l .l)) (.seq (.blk (.n (.cond .l .l))) .l)))) (.n .l)))) Tryz.func163 Yn
def Pdc.c0 (k : Nat) (y : List T4 × List T4 × List T4 × Bool × T15) : Option T34 :=
 (inb? y.1.length y.2.2.2.2.1).bind fun j1 => (y.1[j1]?).bind fun y2 => (app? (limOf 24) y.2.2.1 ([y2])).bind fun l3 => some (.inl (y.1, y.2.1, l3, y.2.2.2.1, Zr (y.2.2.2.2.1 + 1), y.2.2.2.2.2))
def Pdc.b0 (s : List T4 × List T4 × List T4 × Bool × T15) : Option T34 :=
 bif decide (s.2.2.2.2.1 < (s.1.length : Int)) then Option.bind (α := (List T4 × List T4 × List T4 × Bool × T15) ⊕ (List T4)) (bif !s.2.2.2.1 then (inb? s.1.length s.2.2.2.2.1).bind fun j1 => (s.1[j1]?).bind fun y2 => bif strLt s.2.2.2.2.2.1 y2.1 then (app? (limOf 24) s.2.2.1 ([s.2.2.2.2.2])).bind fun l3 => some (.inl (s.1, s.2.1, l3, true, s.2.2.2.2)) else some (.inl s) else some (.inl s)) fun | .inl y => Pdc.c0 k y | .inr o => some (.inr (.inr o)) else some (.inr (.inl (s.2.1, s.2.2.1, s.2.2.2.1, s.2.2.2.2.2)))
def Pdc.d0 (k : Nat) (y : List T4 × List T4 × Bool × T4) : Option (List T4) :=
 bif !y.2.2.1 then (app? (limOf 24) y.2.1 ([y.2.2.2])).bind fun l1 => some l1 else some y.2.1
def Pdc.f (a0 : List T4) (a1 : T4) : Option (List T4) :=
 (Pau.f k a0 a1.1).bind fun r1 => (iter (X := (List T4 × List T4 × Bool × T4) ⊕ (List T4)) (Pdc.b0 k) k (r1, [], [], false, 0, a1)).bind fun | .inl y => Pdc.d0 k y | .inr o => some o
theorem Pdc.ok : Yg 162 ⟨⟨[.v K12, .w K6], [.f K12]⟩, Z2 Pdc.f⟩ := Yq 49 (Yk 114 K6 Yv) (.m 4 (.seq (.n (.lp [.o 0 K12, .ptr 3 1000, .o 4 K12, .o 5 K12, .s 6 .bool, .s 7 K0, .box 1000 114 K6 false false] 94 (.seq (.n (.cond .l .l)) (.seq (.blk (.seq (.cut [.o 0 K12, .ptr 3 1000, .o 4 K12, .o 5 K12, .s 6 .bool, .s 7 K0, .box 1000 114 K6 false false] .c) .l)) .l)))) (.seq (.n (.cond .l .l)) (.n .l)))) Tryz.func162 (Yc Pau.ok Yn)
def Phc.f (a0 : List T4) (a1 : T16) : Option (List T4 × Bool) :=
 (Pfw.f k a0 a1.2.1).bind fun r1 => (Pcc.f k a1.2.1).bind fun r2 => bif !r2 then some (a0, false) else bif decide (a1.1 = 1) then bif decide (a1.2.2.1 = Ze) then bif decide (r1 < 0) then (Pdc.f k a0 (a1.2.1, a1.2.2.2)).bind fun r3 => some (r3, true) else bif decide (a1.1 = 2) then bif decide (a1.2.2.2 = 0) then bif decide (0 ≤ r1) then (Pcc.f k a1.2.2.1).bind fun r4 => bif r4 then bif !decide (a1.2.2.1 = a1.2.1) then (Pau.f k a0 a1.2.1).bind fun r5 => (inb? a0.length r1).bind fun j6 => (a0[j6]?).bind fun y7 => (Pdc.f k r5 (a1.2.2.1, y7.2)).bind fun r8 => some (r8, true) else bif decide (a1.1 = 3) then bif decide (a1.2.2.2 = 0) then bif decide (a1.2.2.1 = Ze) then bif decide (0 ≤ r1) then (Pau.f k a0 a1.2.1).bind fun r9 => some (r9, true) else some (a0, false) else some (a0, false) else some (a0, false) else some (a0, false) else bif decide (a1.1 = 3) then bif decide (a1.2.2.2 = 0) then bif decide (a1.2.2.1 = Ze) then bif decide (0 ≤ r1) then (Pau.f k a0 a1.2.1).bind fun r10 => some (r10, true) else some (a0, false) else some (a0, false) else some (a0, false) else some (a0, false) else bif decide (a1.1 = 3) then bif decide (a1.2.2.2 = 0) then bif decide (a1.2.2.1 = Ze) then bif decide (0 ≤ r1) then (Pau.f k a0 a1.2.1).bind fun r11 => some (r11, true) else some (a0, false) else some (a0, false) else some (a0, false) else some (a0, false) else bif decide (a1.1 = 3) then bif decide (a1.2.2.2 = 0) then bif decide (a1.2.2.1 = Ze) then bif decide (0 ≤ r1) then (Pau.f k a0 a1.2.1).bind fun r12 => some (r12, true) else some (a0, false) else some (a0, false) else some (a0, false) else some (a0, false) else bif decide (a1.1 = 3) then bif decide (a1.2.2.2 = 0) then bif decide (a1.2.2.1 = Ze) then bif decide (0 ≤ r1) then (Pau.f k a0 a1.2.1).bind fun r13 => some (r13, true) else some (a0, false) else some (a0, false) else some (a0, false) else some (a0, false) else bif decide (a1.1 = 2) then bif decide (a1.2.2.2 = 0) then bif decide (0 ≤ r1) then (Pcc.f k a1.2.2.1).bind fun r14 => bif r14 then bif !decide (a1.2.2.1 = a1.2.1) then (Pau.f k a0 a1.2.1).bind fun r15 => (inb? a0.length r1).bind fun j16 => (a0[j16]?).bind fun y17 => (Pdc.f k r15 (a1.2.2.1, y17.2)).bind fun r18 => some (r18, true) else bif decide (a1.1 = 3) then bif decide (a1.2.2.2 = 0) then bif decide (a1.2.2.1 = Ze) then bif decide (0 ≤ r1) then (Pau.f k a0 a1.2.1).bind fun r19 => some (r19, true) else some (a0, false) else some (a0, false) else some (a0, false) else some (a0, false) else bif decide (a1.1 = 3) then bif decide (a1.2.2.2 = 0) then bif decide (a1.2.2.1 = Ze) then bif decide (0 ≤ r1) then (Pau.f k a0 a1.2.1).bind fun r20 => some (r20, true) else some (a0, false) else some (a0, false) else some (a0, false) else some (a0, false) else bif decide (a1.1 = 3) then bif decide (a1.2.2.2 = 0) then bif decide (a1.2.2.1 = Ze) then bif decide (0 ≤ r1) then (Pau.f k a0 a1.2.1).bind fun r21 => some (r21, true) else some (a0, false) else some (a0, false) else some (a0, false) else some (a0, false) else bif decide (a1.1 = 3) then bif decide (a1.2.2.2 = 0) then bif decide (a1.2.2.1 = Ze) then bif decide (0 ≤ r1) then (Pau.f k a0 a1.2.1).bind fun r22 => some (r22, true) else some (a0, false) else some (a0, false) else some (a0, false) else some (a0, false) else bif decide (a1.1 = 3) then bif decide (a1.2.2.2 = 0) then bif decide (a1.2.2.1 = Ze) then bif decide (0 ≤ r1) then (Pau.f k a0 a1.2.1).bind fun r23 => some (r23, true) else some (a0, false) else some (a0, false) else some (a0, false) else some (a0, false) else bif decide (a1.1 = 2) then bif decide (a1.2.2.2 = 0) then bif decide (0 ≤ r1) then (Pcc.f k a1.2.2.1).bind fun r24 => bif r24 then bif !decide (a1.2.2.1 = a1.2.1) then (Pau.f k a0 a1.2.1).bind fun r25 => (inb? a0.length r1).bind fun j26 => (a0[j26]?).bind fun y27 => (Pdc.f k r25 (a1.2.2.1, y27.2)).bind fun r28 => some (r28, true) else bif decide (a1.1 = 3) then bif decide (a1.2.2.2 = 0) then bif decide (a1.2.2.1 = Ze) then bif decide (0 ≤ r1) then (Pau.f k a0 a1.2.1).bind fun r29 => some (r29, true) else some (a0, false) else some (a0, false) else some (a0, false) else some (a0, false) else bif decide (a1.1 = 3) then bif decide (a1.2.2.2 = 0) then bif decide (a1.2.2.1 = Ze) then bif decide (0 ≤ r1) then (Pau.f k a0 a1.2.1).bind fun r30 => some (r30, true) else some (a0, false) else some (a0, false) else some (a0, false) else some (a0, false) else bif decide (a1.1 = 3) then bif decide (a1.2.2.2 = 0) then bif decide (a1.2.2.1 = Ze) then bif decide (0 ≤ r1) then (Pau.f k a0 a1.2.1).bind fun r31 => some (r31, true) else some (a0, false) else some (a0, false) else some (a0, false) else some (a0, false) else bif decide (a1.1 = 3) then bif decide (a1.2.2.2 = 0) then bif decide (a1.2.2.1 = Ze) then bif decide (0 ≤ r1) then (Pau.f k a0 a1.2.1).bind fun r32 => some (r32, true) else some (a0, false) else some (a0, false) else some (a0, false) else some (a0, false) else bif decide (a1.1 = 3) then bif decide (a1.2.2.2 = 0) then bif decide (a1.2.2.1 = Ze) then bif decide (0 ≤ r1) then (Pau.f k a0 a1.2.1).bind fun r33 => some (r33, true) else some (a0, false) else some (a0, false) else some (a0, false) else some (a0, false)
theorem Phc.ok : Yg 79 ⟨⟨[.give false K12, .w K9], [.f K12, .f .bool]⟩, Z2 Phc.f⟩ := Yq 98 Yv (.n (.n (.seq (.blk (.n (.cond (.n .l) (.n (.cond (.n .l) (.n (.cond (.n .l) .c))))))) (.n .l)))) Tryz.func79 (Yc Pfw.ok (Yc Pcc.ok (Yc Pdc.ok (Yc Pau.ok Yn))))
def Pag.b0 (s : Bool × T66) : Option T86 :=
 bif decide (s.2.1 < (s.2.2.2.2.1.length : Int)) then (inb? s.2.2.2.2.1.length s.2.1).bind fun j1 => (s.2.2.2.2.1[j1]?).bind fun y2 => (Pao.f k y2.1 1 (Zr (s.2.2.2.1 - 1))).bind fun r3 => bif !r3 then some (.inr (.inr false)) else (Pao.f k y2.2.2 0 (y2.2.1.size : Int)).bind fun r4 => bif !r4 then some (.inr (.inr false)) else bif decide (0 < s.2.1) then (inb? s.2.2.2.2.1.length (Zr (s.2.1 - 1))).bind fun j5 => (s.2.2.2.2.1[j5]?).bind fun y6 => bif decide (y2.1 ≤ y6.1) then some (.inr (.inr false)) else (Pcb.f k s.2.2.2.2.2.1 y2.1).bind fun r7 => bif !r7 then (Pej.f k s.2.2.2.2.2.2 y2.1).bind fun r8 => bif !r8 then some (.inr (.inr false)) else some (.inl (s.1, Zr (s.2.1 + 1), s.2.2)) else some (.inl (s.1, Zr (s.2.1 + 1), s.2.2)) else (Pcb.f k s.2.2.2.2.2.1 y2.1).bind fun r9 => bif !r9 then (Pej.f k s.2.2.2.2.2.2 y2.1).bind fun r10 => bif !r10 then some (.inr (.inr false)) else some (.inl (s.1, Zr (s.2.1 + 1), s.2.2)) else some (.inl (s.1, Zr (s.2.1 + 1), s.2.2)) else some (.inr (.inl (s.1, s.2.2)))
def Pag.b1 (s : Bool × T66) : Option T86 :=
 bif decide (s.2.1 < (s.2.2.2.2.2.1.length : Int)) then (inb? s.2.2.2.2.2.1.length s.2.1).bind fun j1 => (s.2.2.2.2.2.1[j1]?).bind fun y2 => (Pcc.f k y2.1).bind fun r3 => bif !r3 then some (.inr (.inr false)) else bif decide (0 < s.2.1) then (inb? s.2.2.2.2.2.1.length (Zr (s.2.1 - 1))).bind fun j4 => (s.2.2.2.2.2.1[j4]?).bind fun y5 => bif !strLt y5.1 y2.1 then some (.inr (.inr false)) else (Pdi.f k s.2.2 y2.2).bind fun r6 => bif decide (r6 < 0) then some (.inr (.inr false)) else (cut? s.2.2.2.2.2.1.length 0 s.2.1).bind fun p7 => (Pcb.f k ((s.2.2.2.2.2.1.take p7.2).drop p7.1) y2.2).bind fun r8 => bif r8 then some (.inr (.inr false)) else some (.inl (s.1, Zr (s.2.1 + 1), s.2.2)) else (Pdi.f k s.2.2 y2.2).bind fun r9 => bif decide (r9 < 0) then some (.inr (.inr false)) else (cut? s.2.2.2.2.2.1.length 0 s.2.1).bind fun p10 => (Pcb.f k ((s.2.2.2.2.2.1.take p10.2).drop p10.1) y2.2).bind fun r11 => bif r11 then some (.inr (.inr false)) else some (.inl (s.1, Zr (s.2.1 + 1), s.2.2)) else some (.inr (.inl (s.1, s.2.2)))
def Pag.c0 (y : Bool × List T4 × Int × T1 × T16) : Option T80 :=
 (Phc.f k y.2.1 y.2.2.2.2).bind fun r1 => bif !r1.2 then some (.inr (.inr false)) else some (.inl (y.1, r1.1, Zr (y.2.2.1 + 1), y.2.2.2.1))
def Pag.b2 (s : Bool × List T4 × T66) : Option T80 :=
 bif decide (s.2.2.1 < (s.2.2.2.2.2.2.2.length : Int)) then (inb? s.2.2.2.2.2.2.2.length s.2.2.1).bind fun j1 => (s.2.2.2.2.2.2.2[j1]?).bind fun y2 => Option.bind (α := (Bool × List T4 × Int × T1 × T16) ⊕ Bool) (bif decide (y2.1 = 1) then (Pdi.f k s.2.2.2 y2.2.2.2).bind fun r3 => bif decide (r3 < 0) then some (.inr false) else (Pcb.f k s.2.2.2.2.2.2.1 y2.2.2.2).bind fun r4 => bif r4 then some (.inr false) else (cut? s.2.2.2.2.2.2.2.length 0 s.2.2.1).bind fun p5 => (Pej.f k ((s.2.2.2.2.2.2.2.take p5.2).drop p5.1) y2.2.2.2).bind fun r6 => bif r6 then some (.inr false) else some (.inl (s.1, s.2.1, s.2.2.1, s.2.2.2, y2)) else some (.inl (s.1, s.2.1, s.2.2.1, s.2.2.2, y2))) fun | .inl y => Pag.c0 k y | .inr o => some (.inr (.inr o)) else some (.inr (.inl s.1))
def Pag.d2 (k : Nat) (y : Bool) : Option Bool :=
 some true
def Pag.d1 (y : Bool × T1) : Option Bool :=
 (app? (limOf 24) ([]) y.2.2.2.2.1).bind fun l1 => (iter (X := Bool ⊕ Bool) (Pag.b2 k) k (y.1, l1, 0, y.2)).bind fun | .inl y => Pag.d2 k y | .inr o => some o
def Pag.d0 (y : Bool × T1) : Option Bool :=
 (iter (X := (Bool × T1) ⊕ Bool) (Pag.b1 k) k (y.1, 0, y.2)).bind fun | .inl y => Pag.d1 k y | .inr o => some o
def Pag.f (a0 : T1) : Option Bool :=
 (Pao.f k a0.1 0 1048576).bind fun r1 => bif !r1 then some false else (Pao.f k a0.2.1 1 1000000).bind fun r2 => bif !r2 then some false else bif decide (10 < (a0.2.2.1.length : Int)) then some false else bif decide (20 < (a0.2.2.2.2.length : Int)) then some false else bif decide (10 < (a0.2.2.2.1.length : Int)) then some false else (Pdw.f k a0).bind fun r3 => bif decide (a0.1 < r3) then some false else (iter (X := (Bool × T1) ⊕ Bool) (Pag.b0 k) k (false, 0, a0)).bind fun | .inl y => Pag.d0 k y | .inr o => some o
theorem Pag.ok : Yg 28 ⟨⟨[.w K2], [.f .bool]⟩, Pag.f⟩ := Yq 204 (Yk 114 K6 Yv) (.n (.seq .c (.seq .c (.seq (.n (.lp [.ptr 1 1000, .s 2 .bool, .s 3 K0, .box 1000 53 K2 false false] 11 (.seq (.n (.cond .l .l)) (.seq (.blk (.n .c)) .l)))) (.seq (.n (.lp [.ptr 1 1000, .s 2 .bool, .s 5 K0, .box 1000 53 K2 false false] 11 (.seq (.n (.cond .l .l)) (.seq (.blk (.n .c)) .l)))) (.n (.seq (.n (.lp [.ptr 1 1000, .s 2 .bool, .o 7 K12, .s 8 K0, .box 1000 53 K2 false false] 2 (.seq (.n (.cond .l .l)) (.seq (.blk (.n (.seq (.cut [.ptr 1 1000, .s 2 .bool, .o 7 K12, .s 8 K0, .ptr 9 22005, .box 1000 53 K2 false false, .box 22005 117 K9 false false] .c) (.n (.seq .c .l))))) .l)))) (.n .l)))))))) Tryz.func28 (Yc Pao.ok (Yc Pdw.ok (Yc Pcb.ok (Yc Pej.ok (Yc Pcc.ok (Yc Pdi.ok (Yc Phc.ok Yn)))))))
def Pkm.f (k : Nat) (a0 : T0) : Option Bool :=
 bif decide (a0.2.2.2.1.1 = 0) then bif decide (a0.2.2.2.1.2.1 = 0) then bif decide (a0.2.2.2.1.2.2.1 = 0) then bif decide (a0.2.2.2.1.2.2.2.1 = 0) then bif decide (a0.2.2.2.1.2.2.2.2.1 = 0) then bif decide (a0.2.2.2.1.2.2.2.2.2.1 = 0) then bif decide (a0.2.2.2.1.2.2.2.2.2.2.1 = 0) then bif decide (a0.2.2.2.1.2.2.2.2.2.2.2.1 = 0) then bif decide ((a0.2.2.2.1.2.2.2.2.2.2.2.2.1.length : Int) = 0) then bif decide (a0.2.2.2.1.2.2.2.2.2.2.2.2.2.1 = 0) then bif decide ((a0.2.2.2.1.2.2.2.2.2.2.2.2.2.2.1.length : Int) = 0) then bif decide ((a0.2.2.2.1.2.2.2.2.2.2.2.2.2.2.2.1.length : Int) = 0) then bif decide ((a0.2.2.2.1.2.2.2.2.2.2.2.2.2.2.2.2.length : Int) = 0) then bif decide ((a0.2.2.2.2.1.1.length : Int) = 0) then bif decide ((a0.2.2.2.2.1.2.1.length : Int) = 0) then bif decide ((a0.2.2.2.2.1.2.2.length : Int) = 0) then some (decide (a0.2.2.2.2.2.1.1 = 0) && (decide (a0.2.2.2.2.2.1.2.1 = 0) && (decide (a0.2.2.2.2.2.1.2.2 = Ze) && true))) else some false else some false else some false else some false else some false else some false else some false else some false else some false else some false else some false else some false else some false else some false else some false else some false
theorem Pkm.ok : Yg 29 ⟨⟨[.w K1], [.f .bool]⟩, Pkm.f⟩ := Yq 100 Yv (.m 3 .l) Tryz.func29 Yn
def Phi.f (k : Nat) (a0 : T5) : Option T3 :=
 (app? (limOf 24) ([]) a0.2.2.2.2.2.2.2.2.1).bind fun l1 => some (a0.2.2.1, a0.2.2.2.1, a0.2.2.2.2.2.2.1, a0.2.2.2.2.2.2.2.1, l1)
theorem Phi.ok : Yg 36 ⟨⟨[.w K4], [.t K5]⟩, Phi.f⟩ := Yq 16 (Yk 145 K14 Yv) (.n (.n .l)) Tryz.func36 Yn
def Pgf.f (a0 : Int) (a1 : Int) : Option Bool :=
 bif decide (a0 = 0) then some (decide (a1 = 0)) else (Pao.f k a0 1 100000).bind fun r1 => bif r1 then (Pao.f k a1 1 100000).bind fun r2 => some r2 else some false
theorem Pgf.ok : Yg 164 ⟨⟨[.v K0, .v K0], [.f .bool]⟩, Z2 Pgf.f⟩ := Yq 15 Yv (.n (.seq .c (.n .l))) Tryz.func164 (Yc Pao.ok Yn)
def Peb.b0 (k : Nat) (s : Bool × Int × Int × T3) : Option ((Bool × Int × Int × T3) ⊕ Bool ⊕ Bool) :=
 bif decide (s.2.2.1 < (s.2.2.2.2.2.2.2.length : Int)) then (inb? s.2.2.2.2.2.2.2.length s.2.2.1).bind fun j1 => (s.2.2.2.2.2.2.2[j1]?).bind fun y2 => bif decide (y2.1 < 1) then some (.inr (.inr false)) else bif decide (y2.1 < s.2.1) then some (.inr (.inr false)) else bif decide (s.2.2.2.1 < y2.1) then some (.inr (.inr false)) else bif decide (900 < (y2.2.size : Int)) then some (.inr (.inr false)) else some (.inl (s.1, y2.1, Zr (s.2.2.1 + 1), s.2.2.2)) else some (.inr (.inl s.1))
def Peb.d0 (k : Nat) (y : Bool) : Option Bool :=
 some true
def Peb.f (a0 : T3) : Option Bool :=
 (Pao.f k a0.1 0 100000).bind fun r1 => bif !r1 then some false else (Pao.f k a0.2.1 (-1) 4).bind fun r2 => bif !r2 then some false else (Pgf.f k a0.2.2.1 a0.2.2.2.1).bind fun r3 => bif !r3 then some false else bif decide (a0.1 < a0.2.2.2.1) then some false else bif decide (60 < (a0.2.2.2.2.length : Int)) then some false else bif decide (100000 < Zr (a0.2.2.1 + (a0.2.2.2.2.length : Int))) then some false else (iter (X := Bool ⊕ Bool) (Peb.b0 k) k (false, a0.2.2.2.1, 0, a0)).bind fun | .inl y => Peb.d0 k y | .inr o => some o
theorem Peb.ok : Yg 80 ⟨⟨[.w K5], [.f .bool]⟩, Peb.f⟩ := Yq 84 Yv (.n (.seq .c (.n (.seq (.n (.lp [.ptr 1 1000, .s 2 .bool, .s 3 K0, .s 4 K0, .box 1000 77 K5 false false] 2 (.seq (.n (.cond .l .l)) (.seq (.blk (.n (.seq .c .l))) .l)))) (.n .l))))) Tryz.func80 (Yc Pao.ok (Yc Pgf.ok Yn))
def Phb.f (k : Nat) (a0 : T5) : Option Int :=
 some (Zr (a0.2.2.2.2.2.2.1 + (a0.2.2.2.2.2.2.2.2.1.length : Int)))
theorem Phb.ok : Yg 81 ⟨⟨[.w K4], [.f K0]⟩, Phb.f⟩ := Yq 9 Yv (.n (.n .l)) Tryz.func81 Yn
def Pft.b0 (k : Nat) (s : List Int × T39) : Option ((List Int × T39) ⊕ Bool ⊕ Bool) :=
 bif decide (s.2.2.2 < (s.1.length : Int)) then (inb? s.1.length s.2.2.2).bind fun j1 => (s.1[j1]?).bind fun y2 => bif decide (y2 = s.2.1) then some (.inr (.inr true)) else some (.inl (s.1, s.2.1, s.2.2.1, Zr (s.2.2.2 + 1))) else some (.inr (.inl s.2.2.1))
def Pft.d0 (k : Nat) (y : Bool) : Option Bool :=
 some false
def Pft.f (a0 : List Int) (a1 : Int) : Option Bool :=
 (iter (X := Bool ⊕ Bool) (Pft.b0 k) k (a0, a1, false, 0)).bind fun | .inl y => Pft.d0 k y | .inr o => some o
theorem Pft.ok : Yg 82 ⟨⟨[.v K20, .v K0], [.f .bool]⟩, Z2 Pft.f⟩ := Yq 18 Yv (.n (.seq (.n (.lp [.s 0 K20, .s 1 K0, .s 4 .bool, .s 5 K0] 4 (.seq (.n (.cond .l .l)) (.seq (.blk .c) .l)))) (.n .l))) Tryz.func82 Yn
def Pcm.b0 (s : Bool × Int × T5) : Option ((Bool × Int × T5) ⊕ (Bool × T5) ⊕ Bool) :=
 bif decide (s.2.1 < (s.2.2.2.2.2.2.2.2.2.2.2.2.1.length : Int)) then (inb? s.2.2.2.2.2.2.2.2.2.2.2.2.1.length s.2.1).bind fun j1 => (s.2.2.2.2.2.2.2.2.2.2.2.2.1[j1]?).bind fun y2 => (Pao.f k y2 0 (Zr (s.2.2.2.1 - 1))).bind fun r3 => bif !r3 then some (.inr (.inr false)) else bif decide (0 < s.2.1) then (inb? s.2.2.2.2.2.2.2.2.2.2.2.2.1.length (Zr (s.2.1 - 1))).bind fun j4 => (s.2.2.2.2.2.2.2.2.2.2.2.2.1[j4]?).bind fun y5 => (inb? s.2.2.2.2.2.2.2.2.2.2.2.2.1.length s.2.1).bind fun j6 => (s.2.2.2.2.2.2.2.2.2.2.2.2.1[j6]?).bind fun y7 => bif decide (y7 ≤ y5) then some (.inr (.inr false)) else some (.inl (s.1, Zr (s.2.1 + 1), s.2.2)) else some (.inl (s.1, Zr (s.2.1 + 1), s.2.2)) else some (.inr (.inl (s.1, s.2.2)))
def Pcm.d0 (y : Bool × T5) : Option Bool :=
 bif decide (1 ≤ y.2.2.2.1) then bif decide (y.2.2.2.2.1 = y.2.1) then bif decide (y.2.2.2.2.2.2.1 = (-1)) then (Pft.f k y.2.2.2.2.2.2.2.2.2.2.2.1 y.2.1).bind fun r1 => bif r1 then bif decide (Zr (2 * (y.2.2.2.2.2.2.2.2.2.2.2.1.length : Int)) ≤ y.2.2.1) then bif decide ((y.2.2.2.2.2.2.2.2.2.2.2.2.1.length : Int) = 0) then some (decide ((y.2.2.2.2.2.2.2.2.2.2.2.2.2.length : Int) = 0)) else some false else some false else some false else some false else some false else some false
def Pcm.b1 (s : Bool × Int × T5) : Option ((Bool × Int × T5) ⊕ Bool ⊕ Bool) :=
 bif decide (s.2.1 < s.2.2.2.1) then (inb? s.2.2.2.2.2.2.2.2.2.2.2.2.2.2.length s.2.1).bind fun j1 => (s.2.2.2.2.2.2.2.2.2.2.2.2.2.2[j1]?).bind fun y2 => bif decide (y2 < 0) then some (.inr (.inr false)) else (inb? s.2.2.2.2.2.2.2.2.2.2.2.2.2.1.length s.2.1).bind fun j3 => (s.2.2.2.2.2.2.2.2.2.2.2.2.2.1[j3]?).bind fun y4 => (inb? s.2.2.2.2.2.2.2.2.2.2.2.2.2.2.length s.2.1).bind fun j5 => (s.2.2.2.2.2.2.2.2.2.2.2.2.2.2[j5]?).bind fun y6 => bif decide (y4 ≤ y6) then some (.inr (.inr false)) else (inb? s.2.2.2.2.2.2.2.2.2.2.2.2.2.1.length s.2.1).bind fun j7 => (s.2.2.2.2.2.2.2.2.2.2.2.2.2.1[j7]?).bind fun y8 => (Phb.f k s.2.2).bind fun r9 => bif decide (Zr (r9 + 1) < y8) then some (.inr (.inr false)) else some (.inl (s.1, Zr (s.2.1 + 1), s.2.2)) else some (.inr (.inl s.1))
def Pcm.d1 (k : Nat) (y : Bool) : Option Bool :=
 some true
def Pcm.f (a0 : T5) : Option Bool :=
 (Pao.f k a0.2.1 1 5).bind fun r1 => bif !r1 then some false else (Pao.f k a0.1 0 (Zr (a0.2.1 - 1))).bind fun r2 => bif !r2 then some false else (Phi.f k a0).bind fun r3 => (Peb.f k r3).bind fun r4 => bif !r4 then some false else bif decide (a0.2.1 ≤ a0.2.2.2.1) then some false else (Phb.f k a0).bind fun r5 => (Pao.f k a0.2.2.2.2.2.2.2.2.2.1 a0.2.2.2.2.2.2.1 r5).bind fun r6 => bif !r6 then some false else bif decide (a0.2.2.2.2.1 = 1) then (Pao.f k a0.2.2.2.2.2.1 (-1) (Zr (a0.2.1 - 1))).bind fun r7 => bif r7 then bif !decide (a0.2.2.2.2.2.1 = a0.1) then bif decide ((a0.2.2.2.2.2.2.2.2.2.2.1.length : Int) = 0) then bif decide ((a0.2.2.2.2.2.2.2.2.2.2.2.1.length : Int) = 0) then some (decide ((a0.2.2.2.2.2.2.2.2.2.2.2.2.length : Int) = 0)) else some false else some false else some false else some false else bif decide (a0.2.2.2.2.1 = 2) then (iter (X := (Bool × T5) ⊕ Bool) (Pcm.b0 k) k (false, 0, a0)).bind fun | .inl y => Pcm.d0 k y | .inr o => some o else bif decide (a0.2.2.2.2.1 = 3) then bif decide (a0.2.2.1 < 1) then some false else bif !decide (a0.2.2.2.1 = a0.1) then some false else bif !decide (a0.2.2.2.2.2.1 = a0.1) then some false else bif decide (0 < (a0.2.2.2.2.2.2.2.2.2.2.1.length : Int)) then some false else bif !decide ((a0.2.2.2.2.2.2.2.2.2.2.2.1.length : Int) = a0.2.1) then some false else bif !decide ((a0.2.2.2.2.2.2.2.2.2.2.2.2.length : Int) = a0.2.1) then some false else (inb? a0.2.2.2.2.2.2.2.2.2.2.2.2.length a0.1).bind fun j8 => (a0.2.2.2.2.2.2.2.2.2.2.2.2[j8]?).bind fun y9 => (Phb.f k a0).bind fun r10 => bif !decide (y9 = r10) then some false else (iter (X := Bool ⊕ Bool) (Pcm.b1 k) k (false, 0, a0)).bind fun | .inl y => Pcm.d1 k y | .inr o => some o else some false
theorem Pcm.ok : Yg 30 ⟨⟨[.w K4], [.f .bool]⟩, Pcm.f⟩ := Yq 244 Yv (.n (.seq .c (.seq (.n (.blk (.n (.cond (.n .l) (.n (.cond (.seq (.n (.lp [.ptr 1 1000, .s 2 .bool, .s 3 K0, .box 1000 43 K4 false false] 11 (.seq (.n (.cond .l .l)) (.seq (.blk .c) .l)))) (.n .l)) (.n (.cond (.seq .c (.seq (.n (.lp [.ptr 1 1000, .s 2 .bool, .s 4 K0, .box 1000 43 K4 false false] 2 (.seq (.n (.cond .l .l)) (.seq (.blk .c) .l)))) (.n .l))) .l)))))))) (.n .l)))) Tryz.func30 (Yc Pao.ok (Yc Phi.ok (Yc Peb.ok (Yc Phb.ok (Yc Pft.ok Yn)))))
def Pax.b0 (k : Nat) (s : Int × T17) : Option T81 :=
 bif decide (128 ≤ s.1) then (app? (limOf 1) s.2.2 ([IntKind.wrap .u8 (Zr (128 + (Int.tmod s.1 128)))])).bind fun l1 => some (.inl (Zr (Int.tdiv s.1 128), s.2.1, l1)) else some (.inr (.inl s))
def Pax.d0 (k : Nat) (y : Int × T17) : Option Zb :=
 (app? (limOf 1) y.2.2 ([IntKind.wrap .u8 (y.1)])).bind fun l1 => some (strOfNums l1)
def Pax.f (a0 : Int) : Option Zb :=
 (Pao.f k a0 0 562949953421311).bind fun r1 => bif !r1 then some Ze else (iter (X := (Int × T17) ⊕ Zb) (Pax.b0 k) k (a0, Ze, [])).bind fun | .inl y => Pax.d0 k y | .inr o => some o
theorem Pax.ok : Yg 174 ⟨⟨[.v K0], [.f .str]⟩, Pax.f⟩ := Yq 25 (Yk 5 K32 Yv) (.n (.seq .c (.n (.seq (.lp [.s 0 K0, .s 2 .str, .o 3 (.sl 5 K32)] 7 (.seq (.n (.cond .l .l)) (.blk (.n .l)))) (.n .l))))) Tryz.func174 (Yc Pao.ok Yn)
def Paw.b1 (k : Nat) (s : Zb × Int × Int × T20) : Option ((Zb × Int × Int × T20) ⊕ T48 ⊕ T8) :=
 bif decide (0 ≤ s.2.2.2.2.2) then (inb? s.1.size s.2.2.2.2.2).bind fun j1 => some (.inl (s.1, s.2.1, s.2.2.1, s.2.2.2.1, Zr ((Zr (s.2.2.2.2.1 * 128)) + (Int.tmod (Zr (Qmy s.1 j1)) 128)), Zr (s.2.2.2.2.2 - 1))) else some (.inr (.inl (s.1, s.2.1, s.2.2.1, s.2.2.2.1, s.2.2.2.2.1)))
def Paw.d0 (y : T48) : Option (T31 ⊕ T8 ⊕ T8) :=
 (Pax.f k y.2.2.2.2).bind fun r1 => (cut? y.1.size 0 y.2.2.2.1).bind fun p2 => bif decide (r1 = y.1.extract p2.1 p2.2) then some (.inr (.inr (y.2.2.2.2, y.2.2.2.1))) else some (.inl (y.1, y.2.1, y.2.2.1, Zr (y.2.2.2.1 + 1)))
def Paw.b0 (s : T31) : Option (T31 ⊕ T8 ⊕ T8) :=
 bif decide (s.2.2.2 ≤ 7) then bif decide (s.2.2.2 ≤ (s.1.size : Int)) then (iter (X := T48 ⊕ T8) (Paw.b1 k) k (s.1, s.2.1, s.2.2.1, s.2.2.2, 0, Zr (s.2.2.2 - 1))).bind fun | .inl y => Paw.d0 k y | .inr o => some (.inr (.inr o)) else some (.inr (.inl (s.2.1, s.2.2.1))) else some (.inr (.inl (s.2.1, s.2.2.1)))
def Paw.d1 (k : Nat) (y : T8) : Option T8 :=
 some (0, 0)
def Paw.f (a0 : Zb) : Option T8 :=
 (iter (X := T8 ⊕ T8) (Paw.b0 k) k (a0, 0, 0, 1)).bind fun | .inl y => Paw.d1 k y | .inr o => some o
theorem Paw.ok : Yg 165 ⟨⟨[.v .str], [.f K0, .f K0]⟩, Paw.f⟩ := Yq 39 Yv (.n (.seq (.n (.lp [.s 0 .str, .s 2 K0, .s 3 K0, .s 4 K0] 6 (.seq (.n (.cond .l .l)) (.seq (.blk (.n (.seq (.n (.lp [.s 0 .str, .s 2 K0, .s 3 K0, .s 4 K0, .s 5 K0, .s 6 K0] 31 (.seq (.n (.cond .l .l)) (.seq (.blk .l) .l)))) .c))) .l)))) (.n .l))) Tryz.func165 (Yc Pax.ok Yn)
def Pij.f (k : Nat) (a0 : List Zb) (a1 : Int) : Option Zb :=
 bif decide (a1 < 256) then some (strOfNums ([IntKind.wrap .u8 (a1)])) else (inb? a0.length (Zr (a1 - 256))).bind fun j1 => (a0[j1]?).bind fun y2 => some y2
theorem Pij.ok : Yg 306 ⟨⟨[.v K25, .v K0], [.f .str]⟩, Z2 Pij.f⟩ := Yq 16 (Yk 5 K32 Yv) (.n (.seq .c (.n .l))) Tryz.func306 Yn
def Pbv.b1 (k : Nat) (s : List Zb × Bool × List Zb × Int × Zb × Int × List T8) : Option ((List Zb × Bool × List Zb × Int × Zb × Int × List T8) ⊕ T56 ⊕ T21) :=
 bif decide (s.2.2.2.2.2.1 < s.2.2.2.1) then (inb? s.2.2.1.length s.2.2.2.2.2.1).bind fun j1 => (s.2.2.1[j1]?).bind fun y2 => bif decide (y2 = s.2.2.2.2.1) then some (.inr (.inr (s.2.2.1, false))) else some (.inl (s.1, s.2.1, s.2.2.1, s.2.2.2.1, s.2.2.2.2.1, Zr (s.2.2.2.2.2.1 + 1), s.2.2.2.2.2.2)) else some (.inr (.inl (s.1, s.2.1, s.2.2.1, s.2.2.2.1, s.2.2.2.2.1, s.2.2.2.2.2.2)))
def Pbv.d0 (k : Nat) (y : T56) : Option T49 :=
 (app? (limOf 16) y.2.2.1 ([y.2.2.2.2.1])).bind fun l1 => some (.inl (y.1, y.2.1, l1, Zr (y.2.2.2.1 + 1), y.2.2.2.2.2))
def Pbv.b0 (s : List Zb × Bool × List Zb × Int × List T8) : Option T49 :=
 bif decide (s.2.2.2.1 < (s.2.2.2.2.length : Int)) then (inb? s.2.2.2.2.length s.2.2.2.1).bind fun j1 => (s.2.2.2.2[j1]?).bind fun y2 => (Pao.f k y2.1 0 (Zr (255 + s.2.2.2.1))).bind fun r3 => bif !r3 then some (.inr (.inr (s.2.2.1, false))) else (Pao.f k y2.2 0 (Zr (255 + s.2.2.2.1))).bind fun r4 => bif !r4 then some (.inr (.inr (s.2.2.1, false))) else (Pij.f k s.2.2.1 y2.1).bind fun r5 => (Pij.f k s.2.2.1 y2.2).bind fun r6 => (cat? r5 r6).bind fun s7 => bif decide (24 < (s7.size : Int)) then some (.inr (.inr (s.2.2.1, false))) else (iter (X := T56 ⊕ T21) (Pbv.b1 k) k (s.1, s.2.1, s.2.2.1, s.2.2.2.1, s7, 0, s.2.2.2.2)).bind fun | .inl y => Pbv.d0 k y | .inr o => some (.inr (.inr o)) else some (.inr (.inl (s.1, s.2.1, s.2.2.1)))
def Pbv.d1 (k : Nat) (y : T30) : Option T21 :=
 some (y.2.2, true)
def Pbv.f (a0 : List T8) : Option T21 :=
 bif decide (60 < (a0.length : Int)) then some ([], false) else (iter (X := T30 ⊕ T21) (Pbv.b0 k) k ([], false, [], 0, a0)).bind fun | .inl y => Pbv.d1 k y | .inr o => some o
theorem Pbv.ok : Yg 293 ⟨⟨[.w K19], [.f K25, .f .bool]⟩, Pbv.f⟩ := Yq 72 (Yk 9 .str Yv) (.n (.n (.seq .c (.seq (.n (.lp [.ptr 1 1000, .o 2 K25, .s 3 .bool, .o 4 K25, .s 5 K0, .box 1000 127 K19 false false] 14 (.seq (.n (.cond .l .l)) (.seq (.blk (.n (.seq .c (.n (.seq .c (.seq (.n (.lp [.ptr 1 1000, .o 2 K25, .s 3 .bool, .o 4 K25, .s 5 K0, .s 7 .str, .s 8 K0, .box 1000 127 K19 false false] 191 (.seq (.n (.cond .l .l)) (.seq (.blk .c) .l)))) .l)))))) .l)))) (.n .l))))) Tryz.func293 (Yc Pao.ok (Yc Pij.ok Yn))
def Pkk.f (a0 : List T8) : Option Bool :=
 (Pbv.f k a0).bind fun r1 => some r1.2
theorem Pkk.ok : Yg 240 ⟨⟨[.w K19], [.f .bool]⟩, Pkk.f⟩ := Yq 11 Yv (.m 3 .l) Tryz.func240 (Yc Pbv.ok Yn)
def Pfl.b0 (s : Zb × Zb × Int × List T8) : Option ((Zb × Zb × Int × List T8) ⊕ T14 ⊕ Zb) :=
 bif decide (s.2.2.1 < (s.2.2.2.length : Int)) then (inb? s.2.2.2.length s.2.2.1).bind fun j1 => (s.2.2.2[j1]?).bind fun y2 => (Pax.f k y2.1).bind fun r3 => (cat? s.2.1 r3).bind fun s4 => (inb? s.2.2.2.length s.2.2.1).bind fun j5 => (s.2.2.2[j5]?).bind fun y6 => (Pax.f k y6.2).bind fun r7 => (cat? s4 r7).bind fun s8 => some (.inl (s.1, s8, Zr (s.2.2.1 + 1), s.2.2.2)) else some (.inr (.inl (s.1, s.2.1)))
def Pfl.d0 (k : Nat) (y : T14) : Option Zb :=
 some y.2
def Pfl.f (a0 : List T8) : Option Zb :=
 (Pkk.f k a0).bind fun r1 => bif !r1 then some Ze else (Pax.f k (a0.length : Int)).bind fun r2 => (cat? Zl4 r2).bind fun s3 => (iter (X := T14 ⊕ Zb) (Pfl.b0 k) k (Ze, s3, 0, a0)).bind fun | .inl y => Pfl.d0 k y | .inr o => some o
theorem Pfl.ok : Yg 166 ⟨⟨[.w K19], [.f .str]⟩, Pfl.f⟩ := Yq 38 Yv (.n (.seq .c (.n (.seq (.n (.lp [.ptr 1 1000, .s 2 .str, .s 3 .str, .s 4 K0, .box 1000 127 K19 false false] 6 (.seq (.n (.cond .l .l)) (.seq (.blk .l) .l)))) (.n .l))))) Tryz.func166 (Yc Pkk.ok (Yc Pax.ok Yn))
def Pbr.b0 (s : Zb × Bool × Int × List T8 × List T8) : Option ((Zb × Bool × Int × List T8 × List T8) ⊕ T82 ⊕ T36) :=
 bif decide (s.2.2.1 < (s.1.size : Int)) then (cut? s.1.size s.2.2.1 s.1.size).bind fun p1 => (Paw.f k (s.1.extract p1.1 p1.2)).bind fun r2 => (cut? s.1.size (Zr (s.2.2.1 + r2.2)) s.1.size).bind fun p3 => (Paw.f k (s.1.extract p3.1 p3.2)).bind fun r4 => bif decide (r2.2 = 0) then some (.inr (.inr ([], false))) else bif decide (r4.2 = 0) then some (.inr (.inr ([], false))) else (app? (limOf 16) s.2.2.2.2 ([(r2.1, r4.1)])).bind fun l5 => some (.inl (s.1, s.2.1, Zr ((Zr (s.2.2.1 + r2.2)) + r4.2), s.2.2.2.1, l5)) else some (.inr (.inl (s.1, s.2.1, s.2.2.2)))
def Pbr.d0 (y : T82) : Option T36 :=
 (Pfl.f k y.2.2.2).bind fun r1 => bif !decide (r1 = y.1) then some ([], false) else some (y.2.2.2, true)
def Pbr.f (a0 : Zb) : Option T36 :=
 bif decide ((a0.size : Int) < 4) then some ([], false) else bif decide (250 < (a0.size : Int)) then some ([], false) else (iter (X := T82 ⊕ T36) (Pbr.b0 k) k (a0, false, 4, [], [])).bind fun | .inl y => Pbr.d0 k y | .inr o => some o
theorem Pbr.ok : Yg 83 ⟨⟨[.v .str], [.t K19, .f .bool]⟩, Pbr.f⟩ := Yq 66 (Yk 208 (.pair K0 K0) Yv) (.n (.seq .c (.n (.n (.seq (.lp [.s 0 .str, .ptr 2 1000, .s 3 .bool, .ptr 4 4001, .s 5 K0, .box 1000 127 K19 true false, .box 4001 127 K19 true false] 111 (.seq (.n (.cond .l .l)) (.blk (.n (.n (.seq .c (.n .l))))))) (.seq .c (.n .l))))))) Tryz.func83 (Yc Paw.ok (Yc Pfl.ok Yn))
def Pen.b0 (k : Nat) (s : List T10 × T44) : Option ((List T10 × T44) ⊕ Int ⊕ Int) :=
 bif decide (s.2.2.2 < (s.1.length : Int)) then (inb? s.1.length s.2.2.2).bind fun j1 => (s.1[j1]?).bind fun y2 => bif decide (y2.1 = s.2.1) then some (.inr (.inr (Zr (s.2.2.2 + 1)))) else some (.inl (s.1, s.2.1, s.2.2.1, Zr (s.2.2.2 + 1))) else some (.inr (.inl s.2.2.1))
def Pen.d0 (k : Nat) (y : Int) : Option Int :=
 some 0
def Pen.f (a0 : List T10) (a1 : Zb) : Option Int :=
 (iter (X := Int ⊕ Int) (Pen.b0 k) k (a0, a1, 0, 0)).bind fun | .inl y => Pen.d0 k y | .inr o => some o
theorem Pen.ok : Yg 84 ⟨⟨[.v K26, .v .str], [.f K0]⟩, Z2 Pen.f⟩ := Yq 21 Yv (.n (.seq (.n (.lp [.s 0 K26, .s 1 .str, .s 4 K0, .s 5 K0] 4 (.seq (.n (.cond .l .l)) (.seq (.blk .c) .l)))) (.n .l))) Tryz.func84 Yn
def Pmc.f (k : Nat) : Option (List Int) :=
 some ([1779033703, 3144134277, 1013904242, 2773480762, 1359893119, 2600822924, 528734635, 1541459225])
theorem Pmc.ok : Yg 167 ⟨⟨[], [.f K15]⟩, fun k (x : Unit) => Pmc.f k⟩ := Yq 2 (Yk 215 K35 Yv) (.n (.n .l)) Tryz.func167 Yn
def Pmd.f (k : Nat) : Option (List Int) :=
 some ([1116352408, 1899447441, 3049323471, 3921009573, 961987163, 1508970993, 2453635748, 2870763221, 3624381080, 310598401, 607225278, 1426881987, 1925078388, 2162078206, 2614888103, 3248222580, 3835390401, 4022224774, 264347078, 604807628, 770255983, 1249150122, 1555081692, 1996064986, 2554220882, 2821834349, 2952996808, 3210313671, 3336571891, 3584528711, 113926993, 338241895, 666307205, 773529912, 1294757372, 1396182291, 1695183700, 1986661051, 2177026350, 2456956037, 2730485921, 2820302411, 3259730800, 3345764771, 3516065817, 3600352804, 4094571909, 275423344, 430227734, 506948616, 659060556, 883997877, 958139571, 1322822218, 1537002063, 1747873779, 1955562222, 2024104815, 2227730452, 2361852424, 2428436474, 2756734187, 3204031479, 3329325298])
theorem Pmd.ok : Yg 168 ⟨⟨[], [.f K15]⟩, fun k (x : Unit) => Pmd.f k⟩ := Yq 2 (Yk 215 K35 Yv) (.n (.n .l)) Tryz.func168 Yn
def Pbu.b0 (k : Nat) (s : Int × T16) : Option ((Int × T16) ⊕ (Int × T14) ⊕ Zb) :=
 bif decide (s.2.2.2.2 < s.2.1) then (cat? (strOfNums ([IntKind.wrap .u8 (Int.tmod s.1 256)])) s.2.2.2.1).bind fun s1 => some (.inl (Zr (Int.tdiv s.1 256), s.2.1, s.2.2.1, s1, Zr (s.2.2.2.2 + 1))) else some (.inr (.inl (s.1, s.2.2.1, s.2.2.2.1)))
def Pbu.d0 (k : Nat) (y : Int × T14) : Option Zb :=
 bif decide (0 < y.1) then some Ze else some y.2.2
def Pbu.f (a0 : Int) (a1 : Int) : Option Zb :=
 (Pao.f k a1 1 7).bind fun r1 => bif !r1 then some Ze else bif decide (a0 < 0) then some Ze else (iter (X := (Int × T14) ⊕ Zb) (Pbu.b0 k) k (a0, a1, Ze, Ze, 0)).bind fun | .inl y => Pbu.d0 k y | .inr o => some o
theorem Pbu.ok : Yg 169 ⟨⟨[.v K0, .v K0], [.f .str]⟩, Z2 Pbu.f⟩ := Yq 31 (Yk 5 K32 Yv) (.n (.seq .c (.n (.seq (.n (.lp [.s 0 K0, .s 1 K0, .s 4 .str, .s 5 .str, .s 6 K0] 13 (.seq (.n (.cond .l .l)) (.seq (.blk (.n .l)) .l)))) (.seq .c (.n .l)))))) Tryz.func169 (Yc Pao.ok Yn)
def Pbi.f (k : Nat) (a0 : Int) (a1 : Int) : Option Int :=
 if IntKind.wrap .u64 (a1) < 0 then none else if IntKind.wrap .u64 (Zr (32 - a1)) < 0 then none else some (bits .or .u32 (Int.fdiv a0 (2 ^ (min (IntKind.wrap .u64 (a1)).toNat (IntKind.bits .u32)))) (IntKind.wrap .u32 (a0 * 2 ^ (min (IntKind.wrap .u64 (Zr (32 - a1))).toNat (IntKind.bits .u32)))))
theorem Pbi.ok : Yg 241 ⟨⟨[.v K35, .v K0], [.f K35]⟩, Z2 Pbi.f⟩ := Yq 15 Yv (.n (.n .l)) Tryz.func241 Yn
def Paq.b0 (k : Nat) (s : List Int × List Int × Zb × List Int × T32) : Option ((List Int × List Int × Zb × List Int × T32) ⊕ T71 ⊕ (List Int)) :=
 bif decide (s.2.2.2.2.2 < 16) then (inb? s.2.2.1.size (Zr (4 * s.2.2.2.2.2))).bind fun j1 => (inb? s.2.2.1.size (Zr ((Zr (4 * s.2.2.2.2.2)) + 1))).bind fun j2 => (inb? s.2.2.1.size (Zr ((Zr (4 * s.2.2.2.2.2)) + 2))).bind fun j3 => (inb? s.2.2.1.size (Zr ((Zr (4 * s.2.2.2.2.2)) + 3))).bind fun j4 => (app? (limOf 4) s.2.2.2.2.1 ([bits .or .u32 (bits .or .u32 (bits .or .u32 (IntKind.wrap .u32 ((IntKind.wrap .u32 (Qmy s.2.2.1 j1)) * 2 ^ (min (24 : Int).toNat (IntKind.bits .u32)))) (IntKind.wrap .u32 ((IntKind.wrap .u32 (Qmy s.2.2.1 j2)) * 2 ^ (min (16 : Int).toNat (IntKind.bits .u32))))) (IntKind.wrap .u32 ((IntKind.wrap .u32 (Qmy s.2.2.1 j3)) * 2 ^ (min (8 : Int).toNat (IntKind.bits .u32))))) (IntKind.wrap .u32 (Qmy s.2.2.1 j4))])).bind fun l5 => some (.inl (s.1, s.2.1, s.2.2.1, s.2.2.2.1, l5, Zr (s.2.2.2.2.2 + 1))) else some (.inr (.inl (s.1, s.2.1, s.2.2.2.1, s.2.2.2.2.1)))
def Paq.b1 (s : T53) : Option (T53 ⊕ T71 ⊕ (List Int)) :=
 bif decide (s.2.2.2.2 < 64) then (inb? s.2.2.2.1.length (Zr (s.2.2.2.2 - 15))).bind fun j1 => (s.2.2.2.1[j1]?).bind fun y2 => (Pbi.f k y2 7).bind fun r3 => (inb? s.2.2.2.1.length (Zr (s.2.2.2.2 - 15))).bind fun j4 => (s.2.2.2.1[j4]?).bind fun y5 => (Pbi.f k y5 18).bind fun r6 => (inb? s.2.2.2.1.length (Zr (s.2.2.2.2 - 15))).bind fun j7 => (s.2.2.2.1[j7]?).bind fun y8 => (inb? s.2.2.2.1.length (Zr (s.2.2.2.2 - 2))).bind fun j9 => (s.2.2.2.1[j9]?).bind fun y10 => (Pbi.f k y10 17).bind fun r11 => (inb? s.2.2.2.1.length (Zr (s.2.2.2.2 - 2))).bind fun j12 => (s.2.2.2.1[j12]?).bind fun y13 => (Pbi.f k y13 19).bind fun r14 => (inb? s.2.2.2.1.length (Zr (s.2.2.2.2 - 2))).bind fun j15 => (s.2.2.2.1[j15]?).bind fun y16 => (inb? s.2.2.2.1.length (Zr (s.2.2.2.2 - 16))).bind fun j17 => (s.2.2.2.1[j17]?).bind fun y18 => (inb? s.2.2.2.1.length (Zr (s.2.2.2.2 - 7))).bind fun j19 => (s.2.2.2.1[j19]?).bind fun y20 => (app? (limOf 4) s.2.2.2.1 ([IntKind.wrap .u32 ((IntKind.wrap .u32 ((IntKind.wrap .u32 (y18 + (bits .xor .u32 (bits .xor .u32 r3 r6) (Int.fdiv y8 (2 ^ (min (3 : Int).toNat (IntKind.bits .u32))))))) + y20)) + (bits .xor .u32 (bits .xor .u32 r11 r14) (Int.fdiv y16 (2 ^ (min (10 : Int).toNat (IntKind.bits .u32))))))])).bind fun l21 => some (.inl (s.1, s.2.1, s.2.2.1, l21, Zr (s.2.2.2.2 + 1))) else some (.inr (.inl (s.1, s.2.1, s.2.2.1, s.2.2.2.1)))
def Paq.b2 (s : List Int × T53) : Option ((List Int × T53) ⊕ T12 ⊕ (List Int)) :=
 bif decide (s.2.2.2.2.2 < 64) then (inb? s.2.2.2.2.1.length 4).bind fun j1 => (s.2.2.2.2.1[j1]?).bind fun y2 => (Pbi.f k y2 6).bind fun r3 => (inb? s.2.2.2.2.1.length 4).bind fun j4 => (s.2.2.2.2.1[j4]?).bind fun y5 => (Pbi.f k y5 11).bind fun r6 => (inb? s.2.2.2.2.1.length 4).bind fun j7 => (s.2.2.2.2.1[j7]?).bind fun y8 => (Pbi.f k y8 25).bind fun r9 => (inb? s.2.2.2.2.1.length 7).bind fun j10 => (s.2.2.2.2.1[j10]?).bind fun y11 => (inb? s.2.2.2.2.1.length 4).bind fun j12 => (s.2.2.2.2.1[j12]?).bind fun y13 => (inb? s.2.2.2.2.1.length 5).bind fun j14 => (s.2.2.2.2.1[j14]?).bind fun y15 => (inb? s.2.2.2.2.1.length 4).bind fun j16 => (s.2.2.2.2.1[j16]?).bind fun y17 => (inb? s.2.2.2.2.1.length 6).bind fun j18 => (s.2.2.2.2.1[j18]?).bind fun y19 => (inb? s.2.1.length s.2.2.2.2.2).bind fun j20 => (s.2.1[j20]?).bind fun y21 => (inb? s.2.2.2.1.length s.2.2.2.2.2).bind fun j22 => (s.2.2.2.1[j22]?).bind fun y23 => (inb? s.2.2.2.2.1.length 0).bind fun j24 => (s.2.2.2.2.1[j24]?).bind fun y25 => (Pbi.f k y25 2).bind fun r26 => (inb? s.2.2.2.2.1.length 0).bind fun j27 => (s.2.2.2.2.1[j27]?).bind fun y28 => (Pbi.f k y28 13).bind fun r29 => (inb? s.2.2.2.2.1.length 0).bind fun j30 => (s.2.2.2.2.1[j30]?).bind fun y31 => (Pbi.f k y31 22).bind fun r32 => (inb? s.2.2.2.2.1.length 0).bind fun j33 => (s.2.2.2.2.1[j33]?).bind fun y34 => (inb? s.2.2.2.2.1.length 1).bind fun j35 => (s.2.2.2.2.1[j35]?).bind fun y36 => (inb? s.2.2.2.2.1.length 0).bind fun j37 => (s.2.2.2.2.1[j37]?).bind fun y38 => (inb? s.2.2.2.2.1.length 2).bind fun j39 => (s.2.2.2.2.1[j39]?).bind fun y40 => (inb? s.2.2.2.2.1.length 1).bind fun j41 => (s.2.2.2.2.1[j41]?).bind fun y42 => (inb? s.2.2.2.2.1.length 2).bind fun j43 => (s.2.2.2.2.1[j43]?).bind fun y44 => (inb? s.2.2.2.2.1.length 0).bind fun j45 => (s.2.2.2.2.1[j45]?).bind fun y46 => (inb? s.2.2.2.2.1.length 1).bind fun j47 => (s.2.2.2.2.1[j47]?).bind fun y48 => (inb? s.2.2.2.2.1.length 2).bind fun j49 => (s.2.2.2.2.1[j49]?).bind fun y50 => (inb? s.2.2.2.2.1.length 3).bind fun j51 => (s.2.2.2.2.1[j51]?).bind fun y52 => (inb? s.2.2.2.2.1.length 4).bind fun j53 => (s.2.2.2.2.1[j53]?).bind fun y54 => (inb? s.2.2.2.2.1.length 5).bind fun j55 => (s.2.2.2.2.1[j55]?).bind fun y56 => (inb? s.2.2.2.2.1.length 6).bind fun j57 => (s.2.2.2.2.1[j57]?).bind fun y58 => some (.inl (s.1, s.2.1, s.2.2.1, s.2.2.2.1, [IntKind.wrap .u32 ((IntKind.wrap .u32 ((IntKind.wrap .u32 ((IntKind.wrap .u32 ((IntKind.wrap .u32 (y11 + (bits .xor .u32 (bits .xor .u32 r3 r6) r9))) + (bits .xor .u32 (bits .and .u32 y13 y15) (bits .and .u32 (bits .xor .u32 (if IntKind.signed .u32 then -1 else IntKind.max .u32) y17) y19)))) + y21)) + y23)) + (IntKind.wrap .u32 ((bits .xor .u32 (bits .xor .u32 r26 r29) r32) + (bits .xor .u32 (bits .xor .u32 (bits .and .u32 y34 y36) (bits .and .u32 y38 y40)) (bits .and .u32 y42 y44))))), y46, y48, y50, IntKind.wrap .u32 (y52 + (IntKind.wrap .u32 ((IntKind.wrap .u32 ((IntKind.wrap .u32 ((IntKind.wrap .u32 (y11 + (bits .xor .u32 (bits .xor .u32 r3 r6) r9))) + (bits .xor .u32 (bits .and .u32 y13 y15) (bits .and .u32 (bits .xor .u32 (if IntKind.signed .u32 then -1 else IntKind.max .u32) y17) y19)))) + y21)) + y23))), y54, y56, y58], Zr (s.2.2.2.2.2 + 1))) else some (.inr (.inl (s.1, s.2.2.1, s.2.2.2.2.1)))
def Paq.b3 (k : Nat) (s : T53) : Option (T53 ⊕ T70 ⊕ (List Int)) :=
 bif decide (s.2.2.2.2 < 8) then (inb? s.1.length s.2.2.2.2).bind fun j1 => (s.1[j1]?).bind fun y2 => (inb? s.2.2.1.length s.2.2.2.2).bind fun j3 => (s.2.2.1[j3]?).bind fun y4 => (app? (limOf 4) s.2.2.2.1 ([IntKind.wrap .u32 (y2 + y4)])).bind fun l5 => some (.inl (s.1, s.2.1, s.2.2.1, l5, Zr (s.2.2.2.2 + 1))) else some (.inr (.inl (s.2.1, s.2.2.2.1)))
def Paq.d3 (k : Nat) (y : T70) : Option (List Int) :=
 some y.2
def Paq.d2 (y : T12) : Option (List Int) :=
 (iter (X := T70 ⊕ (List Int)) (Paq.b3 k) k (y.1, y.2.1, y.2.2, [], 0)).bind fun | .inl y => Paq.d3 k y | .inr o => some o
def Paq.d1 (y : T71) : Option (List Int) :=
 (app? (limOf 4) ([]) y.1).bind fun l1 => (iter (X := T12 ⊕ (List Int)) (Paq.b2 k) k (y.1, y.2.1, y.2.2.1, y.2.2.2, l1, 0)).bind fun | .inl y => Paq.d2 k y | .inr o => some o
def Paq.d0 (y : T71) : Option (List Int) :=
 (iter (X := T71 ⊕ (List Int)) (Paq.b1 k) k (y.1, y.2.1, y.2.2.1, y.2.2.2, 16)).bind fun | .inl y => Paq.d1 k y | .inr o => some o
def Paq.f (a0 : List Int) (a1 : List Int) (a2 : Zb) : Option (List Int) :=
 (iter (X := T71 ⊕ (List Int)) (Paq.b0 k) k (a0, a1, a2, [], [], 0)).bind fun | .inl y => Paq.d0 k y | .inr o => some o
theorem Paq.ok : Yg 170 ⟨⟨[.v K15, .v K15, .v .str], [.f K15]⟩, Z3 Paq.f⟩ := Yq 256 (Yk 215 K35 Yv) (.n (.n (.seq (.n (.lp [.s 0 K15, .s 1 K15, .s 2 .str, .o 6 K15, .o 7 K15, .s 8 K0] 27 (.seq (.n (.cond .l .l)) (.seq (.blk .l) .l)))) (.seq (.n (.lp [.s 0 K15, .s 1 K15, .o 6 K15, .o 7 K15, .s 9 K0] 15 (.seq (.n (.cond .l .l)) (.seq (.blk (.n (.n .l))) .l)))) (.n (.seq (.n (.lp [.s 0 K15, .s 1 K15, .o 6 K15, .o 7 K15, .o 12 K15, .s 13 K0] 21 (.seq (.n (.cond .l .l)) (.seq (.blk (.m 4 .l)) .l)))) (.n (.seq (.n (.lp [.s 0 K15, .o 6 K15, .o 12 K15, .o 18 K15, .s 19 K0] 10 (.seq (.n (.cond .l .l)) (.seq (.blk .l) .l)))) (.n .l))))))))) Tryz.func170 (Yc Pbi.ok Yn)
def Pbo.b0 (k : Nat) (s : T67) : Option (T67 ⊕ T67 ⊕ Zb) :=
 bif !decide (Int.tmod (Zr ((s.1.size : Int) + (s.2.2.2.2.length : Int))) 64 = 56) then (app? (limOf 1) s.2.2.2.2 ([0])).bind fun l1 => some (.inl (s.1, s.2.1, s.2.2.1, s.2.2.2.1, l1)) else some (.inr (.inl s))
def Pbo.b1 (s : Zb × Zb × List Int × List Int × T44) : Option ((Zb × Zb × List Int × List Int × T44) ⊕ (Zb × T54) ⊕ Zb) :=
 bif decide (s.2.2.2.2.2.2 < s.2.2.2.2.2.1) then (cut? s.1.size s.2.2.2.2.2.2 (Zr (s.2.2.2.2.2.2 + 64))).bind fun p1 => (Paq.f k s.2.2.1 s.2.2.2.1 (s.1.extract p1.1 p1.2)).bind fun r2 => some (.inl (s.1, s.2.1, r2, s.2.2.2.1, s.2.2.2.2.1, s.2.2.2.2.2.1, Zr (s.2.2.2.2.2.2 + 64))) else some (.inr (.inl (s.1, s.2.1, s.2.2.1, s.2.2.2.1, s.2.2.2.2.1, s.2.2.2.2.2.1)))
def Pbo.b2 (s : T54) : Option (T54 ⊕ T17 ⊕ Zb) :=
 bif decide (Zr (s.2.2.2.2 + 64) ≤ (s.2.2.2.1.size : Int)) then (cut? s.2.2.2.1.size s.2.2.2.2 (Zr (s.2.2.2.2 + 64))).bind fun p1 => (Paq.f k s.2.1 s.2.2.1 (s.2.2.2.1.extract p1.1 p1.2)).bind fun r2 => some (.inl (s.1, r2, s.2.2.1, s.2.2.2.1, Zr (s.2.2.2.2 + 64))) else some (.inr (.inl (s.1, s.2.1)))
def Pbo.b3 (s : Zb × List Int × T4) : Option ((Zb × List Int × T4) ⊕ T14 ⊕ Zb) :=
 bif decide (s.2.2.2 < 8) then (inb? s.2.1.length s.2.2.2).bind fun j1 => (s.2.1[j1]?).bind fun y2 => (Pbu.f k (Zr (y2)) 4).bind fun r3 => (cat? s.2.2.1 r3).bind fun s4 => some (.inl (s.1, s.2.1, s4, Zr (s.2.2.2 + 1))) else some (.inr (.inl (s.1, s.2.2.1)))
def Pbo.d3 (k : Nat) (y : T14) : Option Zb :=
 some y.2
def Pbo.d2 (y : T17) : Option Zb :=
 (iter (X := T14 ⊕ Zb) (Pbo.b3 k) k (y.1, y.2, Ze, 0)).bind fun | .inl y => Pbo.d3 k y | .inr o => some o
def Pbo.d1 (y : Zb × T54) : Option Zb :=
 (cut? y.1.size y.2.2.2.2.2 y.1.size).bind fun p1 => (cat? (y.1.extract p1.1 p1.2) y.2.2.2.2.1).bind fun s2 => (iter (X := T17 ⊕ Zb) (Pbo.b2 k) k (y.2.1, y.2.2.1, y.2.2.2.1, s2, 0)).bind fun | .inl y => Pbo.d2 k y | .inr o => some o
def Pbo.d0 (y : T67) : Option Zb :=
 (cat? (strOfNums y.2.2.2.2) (strOfNums ([0]))).bind fun s1 => (Pbu.f k (Zr (8 * (y.1.size : Int))) 7).bind fun r2 => (cat? s1 r2).bind fun s3 => (iter (X := (Zb × T54) ⊕ Zb) (Pbo.b1 k) k (y.1, y.2.1, y.2.2.1, y.2.2.2.1, s3, Zr ((Zr (Int.tdiv (y.1.size : Int) 64)) * 64), 0)).bind fun | .inl y => Pbo.d1 k y | .inr o => some o
def Pbo.f (a0 : Zb) : Option Zb :=
 (Pmc.f k).bind fun r1 => (Pmd.f k).bind fun r2 => (iter (X := T67 ⊕ Zb) (Pbo.b0 k) k (a0, Ze, r1, r2, [128])).bind fun | .inl y => Pbo.d0 k y | .inr o => some o
theorem Pbo.ok : Yg 85 ⟨⟨[.v .str], [.f .str]⟩, Pbo.f⟩ := Yq 86 (Yk 5 K32 Yv) (.m 4 (.seq (.lp [.s 0 .str, .s 2 .str, .o 3 K15, .o 4 K15, .o 5 (.sl 5 K32)] 31 (.seq (.n (.cond .l .l)) (.blk .l))) (.n (.n (.seq (.n (.lp [.s 0 .str, .s 2 .str, .o 3 K15, .o 4 K15, .s 6 .str, .s 7 K0, .s 8 K0] 63 (.seq (.n (.cond .l .l)) (.seq (.blk .l) .l)))) (.n (.seq (.n (.lp [.s 2 .str, .o 3 K15, .o 4 K15, .s 9 .str, .s 10 K0] 3 (.seq (.n (.cond .l .l)) (.seq (.blk .l) .l)))) (.n (.seq (.n (.lp [.s 2 .str, .o 3 K15, .s 11 .str, .s 12 K0] 5 (.seq (.n (.cond .l .l)) (.seq (.blk .l) .l)))) (.n .l)))))))))) Tryz.func85 (Yc Pmc.ok (Yc Pmd.ok (Yc Pbu.ok (Yc Paq.ok Yn))))
def Peg.f (a0 : T75) : Option Bool :=
 (Pao.f k a0.1 0 5).bind fun r1 => bif r1 then (Pao.f k a0.2.1 0 6).bind fun r2 => bif r2 then (Pao.f k a0.2.2.1 0 4).bind fun r3 => bif r3 then bif decide ((a0.2.2.2.1.size : Int) = 0) then (Pao.f k a0.2.2.2.2.1 0 250).bind fun r4 => bif r4 then (Pao.f k a0.2.2.2.2.2 0 100000).bind fun r5 => some r5 else some false else bif decide ((a0.2.2.2.1.size : Int) = 32) then (Pao.f k a0.2.2.2.2.1 0 250).bind fun r6 => bif r6 then (Pao.f k a0.2.2.2.2.2 0 100000).bind fun r7 => some r7 else some false else some false else some false else some false else some false
theorem Peg.ok : Yg 86 ⟨⟨[.w K13], [.f .bool]⟩, Peg.f⟩ := Yq 38 Yv (.n (.n .l)) Tryz.func86 (Yc Pao.ok Yn)
def Pba.b1 (k : Nat) (s : Bool × Int × T74) : Option ((Bool × Int × T74) ⊕ (Bool × T74) ⊕ Bool) :=
 bif decide (s.2.2.2.1 < (s.2.2.2.2.1.2.1.length : Int)) then (inb? s.2.2.2.2.1.2.1.length s.2.2.2.1).bind fun j1 => (s.2.2.2.2.1.2.1[j1]?).bind fun y2 => bif decide (y2 = Zr (s.2.1 + 1)) then some (.inl (s.1, s.2.1, Zr (s.2.2.1 + 1), Zr (s.2.2.2.1 + 1), s.2.2.2.2)) else some (.inl (s.1, s.2.1, s.2.2.1, Zr (s.2.2.2.1 + 1), s.2.2.2.2)) else some (.inr (.inl (s.1, s.2.1, s.2.2.1, s.2.2.2.2)))
def Pba.d0 (k : Nat) (y : Bool × T74) : Option T45 :=
 bif decide (y.2.2.2.2.2.2 = 2) then bif !decide (y.2.2.1 = 1) then some (.inr (.inr false)) else bif !decide (y.2.2.2.2.2.2 = 2) then bif !decide (y.2.2.1 = 0) then some (.inr (.inr false)) else some (.inl (y.1, Zr (y.2.1 + 1), y.2.2.2.1)) else some (.inl (y.1, Zr (y.2.1 + 1), y.2.2.2.1)) else bif !decide (y.2.2.2.2.2.2 = 2) then bif !decide (y.2.2.1 = 0) then some (.inr (.inr false)) else some (.inl (y.1, Zr (y.2.1 + 1), y.2.2.2.1)) else some (.inl (y.1, Zr (y.2.1 + 1), y.2.2.2.1))
def Pba.b0 (s : Bool × Int × T2) : Option T45 :=
 bif decide (s.2.1 < (s.2.2.1.length : Int)) then (inb? s.2.2.1.length s.2.1).bind fun j1 => (s.2.2.1[j1]?).bind fun y2 => (Pbr.f k y2.1).bind fun r3 => bif !r3.2 then some (.inr (.inr false)) else (cut? s.2.2.1.length 0 s.2.1).bind fun p4 => (Pen.f k ((s.2.2.1.take p4.2).drop p4.1) y2.1).bind fun r5 => bif decide (0 < r5) then some (.inr (.inr false)) else (Pbo.f k y2.1).bind fun r6 => bif !decide (y2.2.1 = r6) then some (.inr (.inr false)) else (Pao.f k y2.2.2 1 4).bind fun r7 => bif !r7 then some (.inr (.inr false)) else (iter (X := (Bool × T74) ⊕ Bool) (Pba.b1 k) k (s.1, s.2.1, 0, 0, s.2.2, y2)).bind fun | .inl y => Pba.d0 k y | .inr o => some (.inr (.inr o)) else some (.inr (.inl (s.1, s.2.2)))
def Pba.b2 (s : Bool × Int × T2) : Option T45 :=
 bif decide (s.2.1 < (s.2.2.2.1.length : Int)) then (inb? s.2.2.2.1.length s.2.1).bind fun j1 => (s.2.2.2.1[j1]?).bind fun y2 => (Pao.f k y2 0 (s.2.2.1.length : Int)).bind fun r3 => bif !r3 then some (.inr (.inr false)) else some (.inl (s.1, Zr (s.2.1 + 1), s.2.2)) else some (.inr (.inl (s.1, s.2.2)))
def Pba.b3 (s : Bool × Int × T2) : Option ((Bool × Int × T2) ⊕ Bool ⊕ Bool) :=
 bif decide (s.2.1 < (s.2.2.2.2.length : Int)) then (inb? s.2.2.2.2.length s.2.1).bind fun j1 => (s.2.2.2.2[j1]?).bind fun y2 => (Pao.f k y2.1 1 6).bind fun r3 => bif !r3 then some (.inr (.inr false)) else bif decide (0 < s.2.1) then (inb? s.2.2.2.2.length (Zr (s.2.1 - 1))).bind fun j4 => (s.2.2.2.2[j4]?).bind fun y5 => bif decide (y2.1 ≤ y5.1) then some (.inr (.inr false)) else (Pao.f k y2.2.1 1 1000000).bind fun r6 => bif !r6 then some (.inr (.inr false)) else (Peg.f k y2.2.2).bind fun r7 => bif !r7 then some (.inr (.inr false)) else some (.inl (s.1, Zr (s.2.1 + 1), s.2.2)) else (Pao.f k y2.2.1 1 1000000).bind fun r8 => bif !r8 then some (.inr (.inr false)) else (Peg.f k y2.2.2).bind fun r9 => bif !r9 then some (.inr (.inr false)) else some (.inl (s.1, Zr (s.2.1 + 1), s.2.2)) else some (.inr (.inl s.1))
def Pba.d3 (k : Nat) (y : Bool) : Option Bool :=
 some true
def Pba.d2 (y : T87) : Option Bool :=
 (iter (X := Bool ⊕ Bool) (Pba.b3 k) k (y.1, 0, y.2)).bind fun | .inl y => Pba.d3 k y | .inr o => some o
def Pba.d1 (y : T87) : Option Bool :=
 (iter (X := T87 ⊕ Bool) (Pba.b2 k) k (y.1, 0, y.2)).bind fun | .inl y => Pba.d2 k y | .inr o => some o
def Pba.f (a0 : T2) : Option Bool :=
 bif decide (6 < (a0.1.length : Int)) then some false else bif !decide ((a0.2.1.length : Int) = 3) then some false else bif decide (6 < (a0.2.2.length : Int)) then some false else (iter (X := T87 ⊕ Bool) (Pba.b0 k) k (false, 0, a0)).bind fun | .inl y => Pba.d1 k y | .inr o => some o
theorem Pba.ok : Yg 31 ⟨⟨[.w K3], [.f .bool]⟩, Pba.f⟩ := Yq 166 Yv (.n (.seq .c (.seq (.n (.lp [.ptr 1 1000, .s 2 .bool, .s 3 K0, .box 1000 47 K3 false false] 11 (.seq (.n (.cond .l .l)) (.seq (.blk (.n (.n (.seq .c (.n (.seq (.n (.lp [.ptr 1 1000, .s 2 .bool, .s 3 K0, .ptr 4 7005, .s 7 K0, .s 8 K0, .box 1000 47 K3 false false, .box 7005 124 K18 false false] 223 (.seq (.n (.cond .l .l)) (.seq (.blk (.n (.cond .l .l))) .l)))) .c)))))) .l)))) (.seq (.n (.lp [.ptr 1 1000, .s 2 .bool, .s 9 K0, .box 1000 47 K3 false false] 11 (.seq (.n (.cond .l .l)) (.seq (.blk .c) .l)))) (.seq (.n (.lp [.ptr 1 1000, .s 2 .bool, .s 10 K0, .box 1000 47 K3 false false] 2 (.seq (.n (.cond .l .l)) (.seq (.blk (.n .c)) .l)))) (.n .l)))))) Tryz.func31 (Yc Pbr.ok (Yc Pen.ok (Yc Pbo.ok (Yc Pao.ok (Yc Peg.ok Yn)))))
def Pii.f (a0 : Int × T11) : Option Bool :=
 bif decide (a0.1 = 0) then bif decide (a0.2.1 = 0) then some (decide (a0.2.2 = Ze)) else some false else (Pao.f k a0.1 1 100000).bind fun r1 => bif r1 then (Pao.f k a0.2.1 1 100000).bind fun r2 => bif r2 then some (decide ((a0.2.2.size : Int) ≤ 8000)) else some false else some false
theorem Pii.ok : Yg 32 ⟨⟨[.w K8], [.f .bool]⟩, Pii.f⟩ := Yq 28 Yv (.n (.seq .c (.n .l))) Tryz.func32 (Yc Pao.ok Yn)
def Pfv.f (k : Nat) : Option T2 :=
 (mk? (limOf 8) 3 (0 : Int)).bind fun l1 => some ([], l1, [])
theorem Pfv.ok : Yg 144 ⟨⟨[], [.t K3]⟩, fun k (x : Unit) => Pfv.f k⟩ := Yq 3 (Yk 3 K0 Yv) (.n (.n .l)) Tryz.func144 Yn
def Pbq.b0 (s : Zb × Int × Int × List Int × Int × T32) : Option ((Zb × Int × Int × List Int × Int × T32) ⊕ (Int × List Int × T55) ⊕ T32) :=
 bif decide (s.2.2.2.2.2.2 < s.2.2.1) then bif decide ((s.1.size : Int) < s.2.1) then some (.inr (.inr (s.2.2.2.2.2.1, (-1)))) else (cut? s.1.size s.2.1 s.1.size).bind fun p1 => (Paw.f k (s.1.extract p1.1 p1.2)).bind fun r2 => bif decide (r2.2 = 0) then some (.inr (.inr (s.2.2.2.2.2.1, (-1)))) else (app? (limOf 8) s.2.2.2.2.2.1 ([r2.1])).bind fun l3 => some (.inl (s.1, Zr (s.2.1 + r2.2), s.2.2.1, s.2.2.2.1, s.2.2.2.2.1, l3, Zr (s.2.2.2.2.2.2 + 1))) else some (.inr (.inl (s.2.1, s.2.2.2.1, s.2.2.2.2.1, s.2.2.2.2.2.1)))
def Pbq.d0 (k : Nat) (y : Int × List Int × T55) : Option T32 :=
 some (y.2.2.2, y.1)
def Pbq.f (a0 : Zb) (a1 : Int) (a2 : Int) : Option T32 :=
 (iter (X := (Int × List Int × T55) ⊕ T32) (Pbq.b0 k) k (a0, a1, a2, [], 0, [], 0)).bind fun | .inl y => Pbq.d0 k y | .inr o => some o
theorem Pbq.ok : Yg 171 ⟨⟨[.v .str, .v K0, .v K0], [.f K20, .f K0]⟩, Z3 Pbq.f⟩ := Yq 42 (Yk 3 K0 Yv) (.n (.n (.seq (.n (.lp [.s 0 .str, .s 1 K0, .s 2 K0, .o 6 K20, .s 7 K0, .o 8 K20, .s 9 K0] 58 (.seq (.n (.cond .l .l)) (.seq (.blk (.seq .c (.n (.seq .c (.n .l))))) .l)))) (.n .l)))) Tryz.func171 (Yc Paw.ok Yn)
def Pfo.f (a0 : Zb) (a1 : Int) : Option T4 :=
 (Pbq.f k a0 a1 1).bind fun r1 => bif decide (r1.2 < 0) then some (Ze, (-1)) else (inb? r1.1.length 0).bind fun j2 => (r1.1[j2]?).bind fun y3 => bif decide (Zr ((a0.size : Int) - r1.2) < y3) then some (Ze, (-1)) else (inb? r1.1.length 0).bind fun j4 => (r1.1[j4]?).bind fun y5 => (cut? a0.size r1.2 (Zr (r1.2 + y5))).bind fun p6 => (inb? r1.1.length 0).bind fun j7 => (r1.1[j7]?).bind fun y8 => some (a0.extract p6.1 p6.2, Zr (r1.2 + y8))
theorem Pfo.ok : Yg 172 ⟨⟨[.v .str, .v K0], [.f .str, .f K0]⟩, Z2 Pfo.f⟩ := Yq 39 Yv (.n (.n (.seq .c (.n .l)))) Tryz.func172 (Yc Pbq.ok Yn)
def Pdk.f (a0 : T75) : Option Zb :=
 (Peg.f k a0).bind fun r1 => bif !r1 then some Ze else (Pax.f k a0.1).bind fun r2 => (Pax.f k a0.2.1).bind fun r3 => (cat? r2 r3).bind fun s4 => (Pax.f k a0.2.2.1).bind fun r5 => (cat? s4 r5).bind fun s6 => (Pax.f k a0.2.2.2.2.1).bind fun r7 => (cat? s6 r7).bind fun s8 => (Pax.f k a0.2.2.2.2.2).bind fun r9 => (cat? s8 r9).bind fun s10 => (cat? s10 a0.2.2.2.1).bind fun s11 => some s11
theorem Pdk.ok : Yg 175 ⟨⟨[.w K13], [.f .str]⟩, Pdk.f⟩ := Yq 28 Yv (.n (.seq .c (.n .l))) Tryz.func175 (Yc Peg.ok (Yc Pax.ok Yn))
def Pew.f (a0 : Zb) : Option (T75 × Bool) :=
 (Pbq.f k a0 0 5).bind fun r1 => bif decide (r1.2 < 0) then some ((0, 0, 0, Ze, 0, 0), false) else (inb? r1.1.length 0).bind fun j2 => (r1.1[j2]?).bind fun y3 => (inb? r1.1.length 1).bind fun j4 => (r1.1[j4]?).bind fun y5 => (inb? r1.1.length 2).bind fun j6 => (r1.1[j6]?).bind fun y7 => (inb? r1.1.length 3).bind fun j8 => (r1.1[j8]?).bind fun y9 => (inb? r1.1.length 4).bind fun j10 => (r1.1[j10]?).bind fun y11 => (cut? a0.size r1.2 a0.size).bind fun p12 => (Pdk.f k (y3, y5, y7, a0.extract p12.1 p12.2, y9, y11)).bind fun r13 => bif !decide (r13 = a0) then some ((0, 0, 0, Ze, 0, 0), false) else some ((y3, y5, y7, a0.extract p12.1 p12.2, y9, y11), true)
theorem Pew.ok : Yg 173 ⟨⟨[.v .str], [.t K13, .f .bool]⟩, Pew.f⟩ := Yq 40 Yv (.n (.n (.seq .c (.n (.seq .c (.n .l)))))) Tryz.func173 (Yc Pbq.ok (Yc Pdk.ok Yn))
def Pas.b0 (s : Zb × Bool × Int × Int × T2 × T2) : Option T57 :=
 bif decide (0 < s.2.2.2.1) then bif decide ((s.1.size : Int) ≤ s.2.2.1) then some (.inr (.inr (s.2.2.2.2.2, false))) else (Pfo.f k s.1 (Zr (s.2.2.1 + 1))).bind fun r1 => bif decide (r1.2 < 0) then some (.inr (.inr (s.2.2.2.2.2, false))) else (Pbo.f k r1.1).bind fun r2 => (inb? s.1.size s.2.2.1).bind fun j3 => (app? (limOf 40) s.2.2.2.2.2.1 ([(r1.1, r2, Zr (Qmy s.1 j3))])).bind fun l4 => some (.inl (s.1, s.2.1, r1.2, Zr (s.2.2.2.1 - 1), s.2.2.2.2.1, l4, s.2.2.2.2.2.2)) else some (.inr (.inl (s.1, s.2.1, s.2.2.1, s.2.2.2.2)))
def Pas.b1 (s : Zb × Bool × Int × Int × T2 × T2) : Option T57 :=
 bif decide (0 < s.2.2.2.1) then (Pbq.f k s.1 s.2.2.1 2).bind fun r1 => bif decide (r1.2 < 0) then some (.inr (.inr (s.2.2.2.2.2, false))) else (Pfo.f k s.1 r1.2).bind fun r2 => (Pew.f k r2.1).bind fun r3 => bif decide (r2.2 < 0) then some (.inr (.inr (s.2.2.2.2.2, false))) else bif !r3.2 then some (.inr (.inr (s.2.2.2.2.2, false))) else (inb? r1.1.length 0).bind fun j4 => (r1.1[j4]?).bind fun y5 => (inb? r1.1.length 1).bind fun j6 => (r1.1[j6]?).bind fun y7 => (app? (limOf 72) s.2.2.2.2.2.2.2 ([(y5, y7, r3.1)])).bind fun l8 => some (.inl (s.1, s.2.1, r2.2, Zr (s.2.2.2.1 - 1), s.2.2.2.2.1, s.2.2.2.2.2.1, s.2.2.2.2.2.2.1, l8)) else some (.inr (.inl (s.1, s.2.1, s.2.2.1, s.2.2.2.2)))
def Pas.d1 (k : Nat) (y : T35) : Option T29 :=
 some (y.2.2.2.2, (decide (y.2.2.1 = (y.1.size : Int))))
def Pas.d0 (y : T35) : Option T29 :=
 (Pbq.f k y.1 y.2.2.1 4).bind fun r1 => bif decide (r1.2 < 0) then some (y.2.2.2.2, false) else (inb? r1.1.length 3).bind fun j2 => (r1.1[j2]?).bind fun y3 => bif decide (6 < y3) then some (y.2.2.2.2, false) else (cut? r1.1.length 0 3).bind fun p4 => (app? (limOf 8) ([]) ((r1.1.take p4.2).drop p4.1)).bind fun l5 => (inb? r1.1.length 3).bind fun j6 => (r1.1[j6]?).bind fun y7 => (iter (X := T35 ⊕ T29) (Pas.b1 k) k (y.1, y.2.1, r1.2, y7, y.2.2.2.1, y.2.2.2.2.1, l5, y.2.2.2.2.2.2)).bind fun | .inl y => Pas.d1 k y | .inr o => some o
def Pas.f (a0 : Zb) : Option T29 :=
 (Pfv.f k).bind fun r1 => (Pbq.f k a0 0 1).bind fun r2 => bif decide (r2.2 < 0) then some (r1, false) else (inb? r2.1.length 0).bind fun j3 => (r2.1[j3]?).bind fun y4 => bif decide (6 < y4) then some (r1, false) else (inb? r2.1.length 0).bind fun j5 => (r2.1[j5]?).bind fun y6 => (iter (X := T35 ⊕ T29) (Pas.b0 k) k (a0, false, r2.2, y6, ([], [], []), r1)).bind fun | .inl y => Pas.d0 k y | .inr o => some o
theorem Pas.ok : Yg 87 ⟨⟨[.v .str], [.t K3, .f .bool]⟩, Pas.f⟩ := Yq 141 (Yk 3 K0 (Yk 124 K18 (Yk 135 K7 Yv))) (.m 3 (.seq .c (.seq (.n (.lp [.s 0 .str, .ptr 2 1000, .s 3 .bool, .ptr 4 2001, .s 6 K0, .s 7 K0, .box 1000 47 K3 true false, .box 2001 47 K3 true false] 223 (.seq (.n (.cond .l .l)) (.seq (.blk (.seq .c (.n (.seq .c (.n .l))))) .l)))) (.n (.seq .c (.n (.seq (.n (.lp [.s 0 .str, .ptr 2 1000, .s 3 .bool, .ptr 4 2001, .s 6 K0, .s 10 K0, .box 1000 47 K3 true false, .box 2001 47 K3 true false] 223 (.seq (.n (.cond .l .l)) (.seq (.blk (.n (.seq .c (.n (.n (.seq .c (.n .l))))))) .l)))) (.n .l)))))))) Tryz.func87 (Yc Pfv.ok (Yc Pbq.ok (Yc Pfo.ok (Yc Pbo.ok (Yc Pew.ok Yn)))))
def Pbh.b0 (s : T58) : Option (T58 ⊕ T26 ⊕ Zb) :=
 bif decide (s.2.2.1 < (s.2.2.2.1.length : Int)) then (inb? s.2.2.2.1.length s.2.2.1).bind fun j1 => (s.2.2.2.1[j1]?).bind fun y2 => (cat? s.2.1 (strOfNums ([IntKind.wrap .u8 (y2.2.2)]))).bind fun s3 => (inb? s.2.2.2.1.length s.2.2.1).bind fun j4 => (s.2.2.2.1[j4]?).bind fun y5 => (Pax.f k (y5.1.size : Int)).bind fun r6 => (cat? s3 r6).bind fun s7 => (inb? s.2.2.2.1.length s.2.2.1).bind fun j8 => (s.2.2.2.1[j8]?).bind fun y9 => (cat? s7 y9.1).bind fun s10 => some (.inl (s.1, s10, Zr (s.2.2.1 + 1), s.2.2.2)) else some (.inr (.inl (s.1, s.2.1, s.2.2.2)))
def Pbh.b1 (s : T58) : Option (T58 ⊕ T26 ⊕ Zb) :=
 bif decide (s.2.2.1 < (s.2.2.2.2.1.length : Int)) then (inb? s.2.2.2.2.1.length s.2.2.1).bind fun j1 => (s.2.2.2.2.1[j1]?).bind fun y2 => (Pax.f k y2).bind fun r3 => (cat? s.2.1 r3).bind fun s4 => some (.inl (s.1, s4, Zr (s.2.2.1 + 1), s.2.2.2)) else some (.inr (.inl (s.1, s.2.1, s.2.2.2)))
def Pbh.b2 (s : T58) : Option (T58 ⊕ T14 ⊕ Zb) :=
 bif decide (s.2.2.1 < (s.2.2.2.2.2.length : Int)) then (inb? s.2.2.2.2.2.length s.2.2.1).bind fun j1 => (s.2.2.2.2.2[j1]?).bind fun y2 => (Pdk.f k y2.2.2).bind fun r3 => (inb? s.2.2.2.2.2.length s.2.2.1).bind fun j4 => (s.2.2.2.2.2[j4]?).bind fun y5 => (Pax.f k y5.1).bind fun r6 => (cat? s.2.1 r6).bind fun s7 => (inb? s.2.2.2.2.2.length s.2.2.1).bind fun j8 => (s.2.2.2.2.2[j8]?).bind fun y9 => (Pax.f k y9.2.1).bind fun r10 => (cat? s7 r10).bind fun s11 => (Pax.f k (r3.size : Int)).bind fun r12 => (cat? s11 r12).bind fun s13 => (cat? s13 r3).bind fun s14 => some (.inl (s.1, s14, Zr (s.2.2.1 + 1), s.2.2.2)) else some (.inr (.inl (s.1, s.2.1)))
def Pbh.d2 (k : Nat) (y : T14) : Option Zb :=
 some y.2
def Pbh.d1 (y : T26) : Option Zb :=
 (Pax.f k (y.2.2.2.2.length : Int)).bind fun r1 => (cat? y.2.1 r1).bind fun s2 => (iter (X := T14 ⊕ Zb) (Pbh.b2 k) k (y.1, s2, 0, y.2.2)).bind fun | .inl y => Pbh.d2 k y | .inr o => some o
def Pbh.d0 (y : T26) : Option Zb :=
 (iter (X := T26 ⊕ Zb) (Pbh.b1 k) k (y.1, y.2.1, 0, y.2.2)).bind fun | .inl y => Pbh.d1 k y | .inr o => some o
def Pbh.f (a0 : T2) : Option Zb :=
 (Pba.f k a0).bind fun r1 => bif !r1 then some Ze else (Pax.f k (a0.1.length : Int)).bind fun r2 => (iter (X := T26 ⊕ Zb) (Pbh.b0 k) k (Ze, r2, 0, a0)).bind fun | .inl y => Pbh.d0 k y | .inr o => some o
theorem Pbh.ok : Yg 88 ⟨⟨[.w K3], [.f .str]⟩, Pbh.f⟩ := Yq 108 (Yk 5 K32 Yv) (.n (.seq .c (.n (.seq (.n (.lp [.ptr 1 1000, .s 2 .str, .s 3 .str, .s 4 K0, .box 1000 47 K3 false false] 23 (.seq (.n (.cond .l .l)) (.seq (.blk .l) .l)))) (.seq (.n (.lp [.ptr 1 1000, .s 2 .str, .s 3 .str, .s 5 K0, .box 1000 47 K3 false false] 23 (.seq (.n (.cond .l .l)) (.seq (.blk .l) .l)))) (.n (.seq (.n (.lp [.ptr 1 1000, .s 2 .str, .s 3 .str, .s 6 K0, .box 1000 47 K3 false false] 6 (.seq (.n (.cond .l .l)) (.seq (.blk (.n .l)) .l)))) (.n .l)))))))) Tryz.func88 (Yc Pba.ok (Yc Pax.ok (Yc Pdk.ok Yn)))
def Pfh.f (a0 : Zb) : Option T29 :=
 bif decide (8000 < (a0.size : Int)) then some (([], [], []), false) else (Pas.f k a0).bind fun r1 => bif !r1.2 then some (([], [], []), false) else (Pbh.f k r1.1).bind fun r2 => bif !decide (r2 = a0) then some (([], [], []), false) else some (r1.1, true)
theorem Pfh.ok : Yg 33 ⟨⟨[.v .str], [.t K3, .f .bool]⟩, Pfh.f⟩ := Yq 25 Yv (.n (.seq .c (.n (.seq .c (.n .l))))) Tryz.func33 (Yc Pas.ok (Yc Pbh.ok Yn))
def Pdt.b0 (s : Int × List T4 × List T4 × T66) : Option ((Int × List T4 × List T4 × T66) ⊕ T38 ⊕ (List T4)) :=
 bif decide (s.2.2.2.1 < s.1) then bif decide (s.2.2.2.1 < (s.2.2.2.2.2.2.2.2.length : Int)) then (inb? s.2.2.2.2.2.2.2.2.length s.2.2.2.1).bind fun j1 => (s.2.2.2.2.2.2.2.2[j1]?).bind fun y2 => (Phc.f k s.2.2.1 y2).bind fun r3 => some (.inl (s.1, s.2.1, r3.1, Zr (s.2.2.2.1 + 1), s.2.2.2.2)) else some (.inr (.inl (s.2.1, s.2.2.1))) else some (.inr (.inl (s.2.1, s.2.2.1)))
def Pdt.d0 (k : Nat) (y : T38) : Option (List T4) :=
 some y.2
def Pdt.f (a0 : T1) (a1 : Int) : Option (List T4) :=
 (app? (limOf 24) ([]) a0.2.2.2.1).bind fun l1 => (iter (X := T38 ⊕ (List T4)) (Pdt.b0 k) k (a1, [], l1, 0, a0)).bind fun | .inl y => Pdt.d0 k y | .inr o => some o
theorem Pdt.ok : Yg 227 ⟨⟨[.w K2, .v K0], [.f K12]⟩, Z2 Pdt.f⟩ := Yq 34 (Yk 114 K6 Yv) (.n (.n (.seq (.n (.lp [.s 1 K0, .ptr 2 1000, .o 4 K12, .o 5 K12, .s 6 K0, .box 1000 53 K2 false false] 12 (.seq (.n (.cond .l .l)) (.seq (.blk .l) .l)))) (.n .l)))) Tryz.func227 (Yc Phc.ok Yn)
def Pex.f (a0 : T1) (a1 : Zb) : Option Int :=
 (Pdt.f k a0 (a0.2.2.2.2.length : Int)).bind fun r1 => (Pfw.f k r1 a1).bind fun r2 => bif decide (r2 < 0) then some (-1) else (inb? r1.length r2).bind fun j3 => (r1[j3]?).bind fun y4 => (Pdi.f k a0 y4.2).bind fun r5 => some r5
theorem Pex.ok : Yg 176 ⟨⟨[.w K2, .v .str], [.f K0]⟩, Z2 Pex.f⟩ := Yq 24 Yv (.m 3 (.seq .c (.n .l))) Tryz.func176 (Yc Pdt.ok (Yc Pfw.ok (Yc Pdi.ok Yn)))
def Pfg.f (a0 : T1) (a1 : Zb) : Option T13 :=
 (Pag.f k a0).bind fun r1 => bif !r1 then some (Ze, false) else (Pex.f k a0 a1).bind fun r2 => bif decide (r2 < 0) then some (Ze, false) else (inb? a0.2.2.1.length r2).bind fun j3 => (a0.2.2.1[j3]?).bind fun y4 => some (y4.2.1, true)
theorem Pfg.ok : Yg 89 ⟨⟨[.w K2, .v .str], [.f .str, .f .bool]⟩, Z2 Pfg.f⟩ := Yq 21 Yv (.n (.seq .c (.n (.seq .c (.n .l))))) Tryz.func89 (Yc Pag.ok (Yc Pex.ok Yn))
def Pcg.b0 (k : Nat) (s : Zb × Int × Int × Bool × T8) : Option T62 :=
 bif decide (s.2.2.2.2.2 < s.2.1) then (inb? s.1.size s.2.2.2.2.2).bind fun j1 => some (.inl (s.1, s.2.1, s.2.2.1, s.2.2.2.1, Zr ((Zr (s.2.2.2.2.1 * 256)) + (Zr (Qmy s.1 j1))), Zr (s.2.2.2.2.2 + 1))) else some (.inr (.inl (s.2.2.1, s.2.2.2.1, s.2.2.2.2.1)))
def Pcg.d0 (k : Nat) (y : T39) : Option T33 :=
 some (y.2.2, true)
def Pcg.f (a0 : Zb) (a1 : Int) : Option T33 :=
 (Pao.f k a1 1 7).bind fun r1 => bif !r1 then some (0, false) else bif decide ((a0.size : Int) < a1) then some (0, false) else (iter (X := T39 ⊕ T33) (Pcg.b0 k) k (a0, a1, 0, false, 0, 0)).bind fun | .inl y => Pcg.d0 k y | .inr o => some o
theorem Pcg.ok : Yg 181 ⟨⟨[.v .str, .v K0], [.f K0, .f .bool]⟩, Z2 Pcg.f⟩ := Yq 30 Yv (.n (.seq .c (.n (.seq (.n (.lp [.s 0 .str, .s 1 K0, .s 4 K0, .s 5 .bool, .s 6 K0, .s 7 K0] 28 (.seq (.n (.cond .l .l)) (.seq (.blk .l) .l)))) (.n .l))))) Tryz.func181 (Yc Pao.ok Yn)
def Pdg.b1 (k : Nat) (s : T48) : Option (T48 ⊕ T31 ⊕ Int) :=
 bif decide (s.2.2.2.2 < 8) then bif decide (Int.tmod s.2.2.1 2 = 1) then some (.inl (s.1, s.2.1, bits .xor .i64 (Zr (Int.tdiv s.2.2.1 2)) 2197175160, s.2.2.2.1, Zr (s.2.2.2.2 + 1))) else some (.inl (s.1, s.2.1, Zr (Int.tdiv s.2.2.1 2), s.2.2.2.1, Zr (s.2.2.2.2 + 1))) else some (.inr (.inl (s.1, s.2.1, s.2.2.1, s.2.2.2.1)))
def Pdg.d0 (k : Nat) (y : T31) : Option T61 :=
 some (.inl (y.1, y.2.1, y.2.2.1, Zr (y.2.2.2 + 1)))
def Pdg.b0 (s : T31) : Option T61 :=
 bif decide (s.2.2.2 < (s.1.size : Int)) then (inb? s.1.size s.2.2.2).bind fun j1 => (iter (X := T31 ⊕ Int) (Pdg.b1 k) k (s.1, s.2.1, bits .xor .i64 s.2.2.1 (Zr (Qmy s.1 j1)), s.2.2.2, 0)).bind fun | .inl y => Pdg.d0 k y | .inr o => some (.inr (.inr o)) else some (.inr (.inl (s.2.1, s.2.2.1)))
def Pdg.d1 (k : Nat) (y : T8) : Option Int :=
 some (Zr (4294967295 - y.2))
def Pdg.f (a0 : Zb) : Option Int :=
 (iter (X := T8 ⊕ Int) (Pdg.b0 k) k (a0, 0, 4294967295, 0)).bind fun | .inl y => Pdg.d1 k y | .inr o => some o
theorem Pdg.ok : Yg 295 ⟨⟨[.v .str], [.f K0]⟩, Pdg.f⟩ := Yq 33 Yv (.n (.n (.seq (.n (.lp [.s 0 .str, .s 2 K0, .s 3 K0, .s 4 K0] 6 (.seq (.n (.cond .l .l)) (.seq (.blk (.n (.n (.lp [.s 0 .str, .s 2 K0, .s 3 K0, .s 4 K0, .s 5 K0] 15 (.seq (.n (.cond .l .l)) (.seq (.blk (.m 3 (.cond .l .l))) .l)))))) .l)))) (.n .l)))) Tryz.func295 Yn
def Pez.f (a0 : Zb) : Option Zb :=
 bif decide ((a0.size : Int) = 0) then some Ze else bif decide (2000 < (a0.size : Int)) then some Ze else (Pbu.f k (a0.size : Int) 4).bind fun r1 => (cat? r1 a0).bind fun s2 => (Pdg.f k s2).bind fun r3 => (Pbu.f k r3 4).bind fun r4 => (cat? r1 r4).bind fun s5 => (cat? s5 a0).bind fun s6 => some s6
theorem Pez.ok : Yg 246 ⟨⟨[.v .str], [.f .str]⟩, Pez.f⟩ := Yq 24 Yv (.n (.seq .c (.n (.n .l)))) Tryz.func246 (Yc Pbu.ok (Yc Pdg.ok Yn))
def Pha.f (a0 : Zb) : Option T44 :=
 (Pcg.f k a0 4).bind fun r1 => bif !r1.2 then some (Ze, 0, 1) else bif decide (r1.1 = 0) then some (Ze, 0, 2) else bif decide (2000 < r1.1) then some (Ze, 0, 2) else bif decide ((a0.size : Int) < Zr (8 + r1.1)) then some (Ze, 0, 1) else (cut? a0.size 8 (Zr (8 + r1.1))).bind fun p2 => (Pez.f k (a0.extract p2.1 p2.2)).bind fun r3 => (cut? a0.size 0 (Zr (8 + r1.1))).bind fun p4 => bif !decide (r3 = a0.extract p4.1 p4.2) then some (Ze, 0, 2) else some (a0.extract p2.1 p2.2, Zr (8 + r1.1), 0)
theorem Pha.ok : Yg 180 ⟨⟨[.v .str], [.f .str, .f K0, .f K0]⟩, Pha.f⟩ := Yq 40 Yv (.n (.n (.seq .c (.seq .c (.seq .c (.n (.seq .c (.n .l)))))))) Tryz.func180 (Yc Pcg.ok (Yc Pez.ok Yn))
def Peh.b0 (s : Zb × T51) : Option ((Zb × T51) ⊕ T51 ⊕ T18) :=
 bif decide (s.2.2.2.2 < (s.1.size : Int)) then (cut? s.1.size s.2.2.2.2 s.1.size).bind fun p1 => (Pha.f k (s.1.extract p1.1 p1.2)).bind fun r2 => bif !decide (r2.2.2 = 0) then some (.inr (.inr s.2.2.2)) else (app? (limOf 16) s.2.2.2.1 ([r2.1])).bind fun l3 => some (.inl (s.1, s.2.1, s.2.2.1, l3, Zr (s.2.2.2.2 + r2.2.1))) else some (.inr (.inl s.2))
def Peh.d0 (k : Nat) (y : T51) : Option T18 :=
 some y.2.2
def Peh.f (a0 : Zb) : Option T18 :=
 (iter (X := T51 ⊕ T18) (Peh.b0 k) k (a0, [], 0, [], 0)).bind fun | .inl y => Peh.d0 k y | .inr o => some o
theorem Peh.ok : Yg 177 ⟨⟨[.v .str], [.f K25, .f K0]⟩, Peh.f⟩ := Yq 35 (Yk 9 .str Yv) (.m 3 (.seq (.lp [.s 0 .str, .o 2 K25, .s 3 K0, .o 4 K25, .s 5 K0] 30 (.seq (.n (.cond .l .l)) (.blk (.n (.seq .c (.n .l)))))) (.n .l))) Tryz.func177 (Yc Pha.ok Yn)
def Pfs.f (a0 : T46) : Option Bool :=
 bif decide (a0.1 = 1) then (Pao.f k a0.2.1 0 100000).bind fun r1 => bif r1 then (Pao.f k a0.2.2.2.1 (-1) 4).bind fun r2 => bif r2 then bif decide (a0.2.2.1 = 0) then some (decide (a0.2.2.2.2 = Ze)) else some false else some false else some false else bif decide (a0.1 = 2) then (Pao.f k a0.2.1 1 100000).bind fun r3 => bif r3 then (Pao.f k a0.2.2.1 1 100000).bind fun r4 => bif r4 then bif decide (a0.2.2.2.1 = 0) then some (decide ((a0.2.2.2.2.size : Int) ≤ 900)) else some false else some false else some false else bif decide (a0.1 = 3) then bif decide (a0.2.1 = 0) then (Pao.f k a0.2.2.1 1 100000).bind fun r5 => bif r5 then bif decide (a0.2.2.2.1 = 0) then some (decide (a0.2.2.2.2 = Ze)) else some false else some false else some false else bif decide (a0.1 = 4) then (Pgf.f k a0.2.2.1 a0.2.1).bind fun r6 => bif r6 then bif decide (a0.2.2.2.1 = 0) then some (decide (a0.2.2.2.2 = Ze)) else some false else some false else some false
theorem Pfs.ok : Yg 244 ⟨⟨[.w K21], [.f .bool]⟩, Pfs.f⟩ := Yq 83 Yv (.n (.seq (.n (.blk (.n (.cond (.n .l) (.n (.cond (.n .l) (.n (.cond (.n .l) .c)))))))) (.n .l))) Tryz.func244 (Yc Pao.ok (Yc Pgf.ok Yn))
def Pfa.f (a0 : T46) : Option Zb :=
 (Pfs.f k a0).bind fun r1 => bif !r1 then some Ze else (Pax.f k a0.2.1).bind fun r2 => (cat? (strOfNums ([IntKind.wrap .u8 (a0.1)])) r2).bind fun s3 => (Pax.f k a0.2.2.1).bind fun r4 => (cat? s3 r4).bind fun s5 => (Pax.f k (Zr (a0.2.2.2.1 + 1))).bind fun r6 => (cat? s5 r6).bind fun s7 => (cat? s7 a0.2.2.2.2).bind fun s8 => some s8
theorem Pfa.ok : Yg 242 ⟨⟨[.w K21], [.f .str]⟩, Pfa.f⟩ := Yq 27 (Yk 5 K32 Yv) (.n (.seq .c (.n .l))) Tryz.func242 (Yc Pfs.ok (Yc Pax.ok Yn))
def Pih.f (a0 : Zb) : Option (T46 × Bool) :=
 bif decide ((a0.size : Int) = 0) then some ((0, 0, 0, 0, Ze), false) else bif decide (2000 < (a0.size : Int)) then some ((0, 0, 0, 0, Ze), false) else (inb? a0.size 0).bind fun j1 => (cut? a0.size 1 a0.size).bind fun p2 => (Paw.f k (a0.extract p2.1 p2.2)).bind fun r3 => (cut? a0.size (Zr (1 + r3.2)) a0.size).bind fun p4 => (Paw.f k (a0.extract p4.1 p4.2)).bind fun r5 => (cut? a0.size (Zr ((Zr (1 + r3.2)) + r5.2)) a0.size).bind fun p6 => (Paw.f k (a0.extract p6.1 p6.2)).bind fun r7 => (cut? a0.size (Zr ((Zr ((Zr (1 + r3.2)) + r5.2)) + r7.2)) a0.size).bind fun p8 => bif decide (r3.2 = 0) then some ((0, 0, 0, 0, Ze), false) else bif decide (r5.2 = 0) then some ((0, 0, 0, 0, Ze), false) else bif decide (r7.2 = 0) then some ((0, 0, 0, 0, Ze), false) else (Pfa.f k (Zr (Qmy a0 j1), r3.1, r5.1, Zr (r7.1 - 1), a0.extract p8.1 p8.2)).bind fun r9 => bif !decide (r9 = a0) then some ((0, 0, 0, 0, Ze), false) else some ((Zr (Qmy a0 j1), r3.1, r5.1, Zr (r7.1 - 1), a0.extract p8.1 p8.2), true)
theorem Pih.ok : Yg 178 ⟨⟨[.v .str], [.t K21, .f .bool]⟩, Pih.f⟩ := Yq 84 Yv (.n (.seq .c (.m 12 (.seq .c (.n .l))))) Tryz.func178 (Yc Paw.ok (Yc Pfa.ok Yn))
def Plr.f (k : Nat) (a0 : T3) : Option T3 :=
 (app? (limOf 24) ([]) a0.2.2.2.2).bind fun l1 => some (a0.1, a0.2.1, a0.2.2.1, a0.2.2.2.1, l1)
theorem Plr.ok : Yg 243 ⟨⟨[.w K5], [.t K5]⟩, Plr.f⟩ := Yq 9 (Yk 145 K14 Yv) (.m 3 .l) Tryz.func243 Yn
def Pgw.f (k : Nat) (a0 : T3) : Option Int :=
 bif decide ((a0.2.2.2.2.length : Int) = 0) then some a0.2.2.2.1 else (inb? a0.2.2.2.2.length (Zr ((a0.2.2.2.2.length : Int) - 1))).bind fun j1 => (a0.2.2.2.2[j1]?).bind fun y2 => some y2.1
theorem Pgw.ok : Yg 294 ⟨⟨[.w K5], [.f K0]⟩, Pgw.f⟩ := Yq 18 Yv (.n (.seq .c (.n .l))) Tryz.func294 Yn
def Pls.f (a0 : T3) (a1 : T46) : Option Bool :=
 bif decide (a1.1 = 1) then bif decide (a0.1 < a1.2.1) then some true else bif decide (a1.2.1 = a0.1) then bif decide (a0.2.1 = (-1)) then some true else some (decide (a1.2.2.2.1 = a0.2.1)) else some false else bif decide (a1.1 = 2) then bif decide (a1.2.2.1 = Zr ((Zr (a0.2.2.1 + (a0.2.2.2.2.length : Int))) + 1)) then bif decide ((a0.2.2.2.2.length : Int) < 60) then (Pgw.f k a0).bind fun r1 => bif decide (r1 ≤ a1.2.1) then some (decide (a1.2.1 ≤ a0.1)) else some false else some false else some false else bif decide (a1.1 = 3) then bif decide (a0.2.2.1 < a1.2.2.1) then some (decide (a1.2.2.1 ≤ Zr (a0.2.2.1 + (a0.2.2.2.2.length : Int)))) else some false else some false
theorem Pls.ok : Yg 245 ⟨⟨[.w K5, .w K21], [.f .bool]⟩, Z2 Pls.f⟩ := Yq 80 Yv (.n (.n (.seq (.n (.blk (.n (.cond (.n .l) (.n (.cond (.n .l) .c)))))) (.n .l)))) Tryz.func245 (Yc Pgw.ok Yn)
def Pge.f (a0 : T3) (a1 : T46) : Option (T3 × Bool) :=
 (Peb.f k a0).bind fun r1 => bif !r1 then some ((0, 0, 0, 0, []), false) else (Plr.f k a0).bind fun r2 => (Pfs.f k a1).bind fun r3 => bif !r3 then some (r2, false) else (Pls.f k r2 a1).bind fun r4 => bif !r4 then some (r2, false) else bif decide (a1.1 = 1) then some ((a1.2.1, a1.2.2.2.1, r2.2.2), true) else bif decide (a1.1 = 2) then (app? (limOf 24) r2.2.2.2.2 ([(a1.2.1, a1.2.2.2.2)])).bind fun l5 => some ((r2.1, r2.2.1, r2.2.2.1, r2.2.2.2.1, l5), true) else (cut? r2.2.2.2.2.length 0 (Zr ((Zr (a1.2.2.1 - r2.2.2.1)) - 1))).bind fun p6 => some ((r2.1, r2.2.1, r2.2.2.1, r2.2.2.2.1, (r2.2.2.2.2.take p6.2).drop p6.1), true)
theorem Pge.ok : Yg 179 ⟨⟨[.w K5, .w K21], [.t K5, .f .bool]⟩, Z2 Pge.f⟩ := Yq 55 (Yk 145 K14 Yv) (.n (.seq .c (.n (.seq .c (.seq (.n (.blk (.n (.cond (.n .l) (.n (.cond .l .l)))))) (.n .l)))))) Tryz.func179 (Yc Peb.ok (Yc Plr.ok (Yc Pfs.ok (Yc Pls.ok Yn))))
def Pei.b0 (s : Int × Bool × List Zb × Int × Int × T3 × T46 × T3) : Option ((Int × Bool × List Zb × Int × Int × T3 × T46 × T3) ⊕ T42 ⊕ T63) :=
 bif decide (s.2.2.2.2.1 < (s.2.2.1.length : Int)) then (inb? s.2.2.1.length s.2.2.2.2.1).bind fun j1 => (s.2.2.1[j1]?).bind fun y2 => (Pih.f k y2).bind fun r3 => (Pge.f k s.2.2.2.2.2.2.2 r3.1).bind fun r4 => bif !r3.2 then some (.inr (.inr (s.2.2.2.2.2.2.2, s.2.2.2.1, true))) else bif !r4.2 then some (.inr (.inr (s.2.2.2.2.2.2.2, s.2.2.2.1, true))) else (inb? s.2.2.1.length s.2.2.2.2.1).bind fun j5 => (s.2.2.1[j5]?).bind fun y6 => some (.inl (s.1, s.2.1, s.2.2.1, Zr ((Zr (s.2.2.2.1 + 8)) + (y6.size : Int)), Zr (s.2.2.2.2.1 + 1), s.2.2.2.2.2.1, r3.1, r4.1)) else some (.inr (.inl (s.1, s.2.1, s.2.2.2.1, s.2.2.2.2.2.1, s.2.2.2.2.2.2.2)))
def Pei.d0 (k : Nat) (y : T42) : Option T63 :=
 some (y.2.2.2.2, y.2.2.1, true)
def Pei.f (a0 : Zb) : Option T63 :=
 (Peh.f k a0).bind fun r1 => bif decide ((r1.1.length : Int) = 0) then some ((0, 0, 0, 0, []), 0, false) else (inb? r1.1.length 0).bind fun j2 => (r1.1[j2]?).bind fun y3 => (Pih.f k y3).bind fun r4 => bif !r4.2 then some ((0, 0, 0, 0, []), 0, false) else bif !decide (r4.1.1 = 4) then some ((0, 0, 0, 0, []), 0, false) else (inb? r1.1.length 0).bind fun j5 => (r1.1[j5]?).bind fun y6 => (iter (X := T42 ⊕ T63) (Pei.b0 k) k (0, false, r1.1, Zr (8 + (y6.size : Int)), 1, (0, 0, 0, 0, []), r4.1, r4.1.2.1, (-1), r4.1.2.2.1, r4.1.2.1, [])).bind fun | .inl y => Pei.d0 k y | .inr o => some o
theorem Pei.ok : Yg 90 ⟨⟨[.v .str], [.t K5, .f K0, .f .bool]⟩, Pei.f⟩ := Yq 89 Yv (.n (.n (.seq .c (.n (.seq .c (.n (.n (.seq (.n (.lp [.ptr 2 1000, .s 3 K0, .s 4 .bool, .o 5 K25, .ptr 7 5007, .ptr 9 8007, .s 10 K0, .s 11 K0, .box 1000 77 K5 true false, .box 5007 229 K21 false false, .box 8007 77 K5 true false] 1383 (.seq (.n (.cond .l .l)) (.seq (.blk (.n (.n (.seq .c (.n .l))))) .l)))) (.n .l))))))))) Tryz.func90 (Yc Peh.ok (Yc Pih.ok (Yc Pge.ok Yn)))
def Pjf.f (a0 : Int × T11) : Option Zb :=
 (Pii.f k a0).bind fun r1 => bif !r1 then some Ze else bif decide (a0.1 = 0) then some Ze else (Pbu.f k a0.1 4).bind fun r2 => (Pbu.f k a0.2.1 4).bind fun r3 => (cat? r2 r3).bind fun s4 => (Pbu.f k (a0.2.2.size : Int) 4).bind fun r5 => (cat? s4 r5).bind fun s6 => (Pbo.f k a0.2.2).bind fun r7 => (cat? s6 r7).bind fun s8 => (Pez.f k s8).bind fun r9 => (cat? r9 a0.2.2).bind fun s10 => some s10
theorem Pjf.ok : Yg 182 ⟨⟨[.w K8], [.f .str]⟩, Pjf.f⟩ := Yq 31 Yv (.n (.seq .c (.n .l))) Tryz.func182 (Yc Pii.ok (Yc Pbu.ok (Yc Pbo.ok (Yc Pez.ok Yn))))
def Pje.f (a0 : Zb) : Option ((Int × T11) × Bool) :=
 (Pha.f k a0).bind fun r1 => (Pcg.f k r1.1 4).bind fun r2 => bif !decide ((r1.1.size : Int) = 44) then some ((0, 0, Ze), false) else bif decide (8000 < Zr ((a0.size : Int) - r1.2.1)) then some ((0, 0, Ze), false) else (cut? r1.1.size 4 r1.1.size).bind fun p3 => (Pcg.f k (r1.1.extract p3.1 p3.2) 4).bind fun r4 => (cut? a0.size r1.2.1 a0.size).bind fun p5 => (Pjf.f k (r2.1, r4.1, a0.extract p5.1 p5.2)).bind fun r6 => bif !decide (r6 = a0) then some ((0, 0, Ze), false) else some ((r2.1, r4.1, a0.extract p5.1 p5.2), true)
theorem Pje.ok : Yg 91 ⟨⟨[.v .str], [.t K8, .f .bool]⟩, Pje.f⟩ := Yq 52 Yv (.m 3 (.seq .c (.n (.n (.seq .c (.n .l)))))) Tryz.func91 (Yc Pha.ok (Yc Pcg.ok (Yc Pjf.ok Yn)))
def Pbs.c2 (k : Nat) (y : T60) : Option (T60 ⊕ T24) :=
 bif decide (y.2.2.2.2.1.1 < y.2.2.2.2.2.2.1) then some (.inl (y.1, y.2.1, y.2.2.1, y.2.2.2.1, (y.2.2.2.2.2.2.1, (-1), y.2.2.2.2.2.1, y.2.2.2.2.2.2.1, y.2.2.2.2.1.2.2.2.2), y.2.2.2.2.2)) else some (.inl (y.1, y.2.1, y.2.2.1, y.2.2.2.1, (y.2.2.2.2.1.1, y.2.2.2.2.1.2.1, y.2.2.2.2.2.1, y.2.2.2.2.2.2.1, y.2.2.2.2.1.2.2.2.2), y.2.2.2.2.2))
def Pbs.c3 (y : T60) : Option T24 :=
 (Pfg.f k y.2.2.1 Zl3).bind fun r1 => (Pfg.f k y.2.2.1 Zl0).bind fun r2 => bif y.2.1 then some ((y.2.2.2.2.1, y.2.2.2.2.2, true), 0) else bif r1.2 then some ((y.2.2.2.2.1, y.2.2.2.2.2, true), 0) else some ((y.2.2.2.2.1, y.2.2.2.2.2, r2.2), 0)
def Pbs.c1 (y : Int × Zb × Int × T22) : Option T24 :=
 Option.bind (α := T60 ⊕ T24) (bif decide (y.2.2.2.2.2.1.2.2.1 < y.2.2.2.2.2.2.1) then Option.bind (α := T60 ⊕ T24) (bif decide (Zr (y.2.2.2.2.2.2.1 - y.2.2.2.2.2.1.2.2.1) ≤ (y.2.2.2.2.2.1.2.2.2.2.length : Int)) then (inb? y.2.2.2.2.2.1.2.2.2.2.length (Zr ((Zr (y.2.2.2.2.2.2.1 - y.2.2.2.2.2.1.2.2.1)) - 1))).bind fun j1 => (y.2.2.2.2.2.1.2.2.2.2[j1]?).bind fun y2 => bif decide (y2.1 = y.2.2.2.2.2.2.2.1) then (cut? y.2.2.2.2.2.1.2.2.2.2.length (Zr (y.2.2.2.2.2.2.1 - y.2.2.2.2.2.1.2.2.1)) y.2.2.2.2.2.1.2.2.2.2.length).bind fun p3 => some (.inl (y.1, true, y.2.2.2.1, y.2.2.2.2.1, (y.2.2.2.2.2.1.1, y.2.2.2.2.2.1.2.1, y.2.2.2.2.2.1.2.2.1, y.2.2.2.2.2.1.2.2.2.1, (y.2.2.2.2.2.1.2.2.2.2.take p3.2).drop p3.1), y.2.2.2.2.2.2)) else some (.inl (y.1, true, y.2.2.2.1, y.2.2.2.2.1, (y.2.2.2.2.2.1.1, y.2.2.2.2.2.1.2.1, y.2.2.2.2.2.1.2.2.1, y.2.2.2.2.2.1.2.2.2.1, []), y.2.2.2.2.2.2)) else some (.inl (y.1, true, y.2.2.2.1, y.2.2.2.2.1, (y.2.2.2.2.2.1.1, y.2.2.2.2.2.1.2.1, y.2.2.2.2.2.1.2.2.1, y.2.2.2.2.2.1.2.2.2.1, []), y.2.2.2.2.2.2))) fun | .inl y => Pbs.c2 k y | .inr o => some (.inr o) else some (.inl (y.1, (decide (y.2.2.1 < (y.2.1.size : Int))), y.2.2.2))) fun | .inl y => Pbs.c3 k y | .inr o => some o
def Pbs.c0 (y : Int × Zb × T60) : Option T24 :=
 Option.bind (α := (Int × Zb × Int × T22) ⊕ T24) (bif !y.2.2.2.1 then some (.inr (((0, 0, 0, 0, []), (0, 0, Ze), false), 2)) else bif decide (y.2.2.2.2.2.2.2.1 < y.2.2.2.2.2.2.1.2.2.1) then some (.inr (((0, 0, 0, 0, []), (0, 0, Ze), false), 2)) else bif decide (y.2.2.2.2.2.2.1.2.2.1 = y.2.2.2.2.2.2.2.1) then bif !decide (y.2.2.2.2.2.2.1.2.2.2.1 = y.2.2.2.2.2.2.2.2.1) then some (.inr (((0, 0, 0, 0, []), (0, 0, Ze), false), 2)) else some (.inl (y.1, y.2.1, y.2.2.1, y.2.2.2.2)) else some (.inl (y.1, y.2.1, y.2.2.1, y.2.2.2.2))) fun | .inl y => Pbs.c1 k y | .inr o => some o
def Pbs.f (a0 : T1) : Option T24 :=
 (Pag.f k a0).bind fun r1 => bif !r1 then some (((0, 0, 0, 0, []), (0, 0, Ze), false), 2) else (Pfg.f k a0 Zl5).bind fun r2 => bif !r2.2 then some (((0, 0, 0, 0, []), (0, 0, Ze), false), 1) else (Pei.f k r2.1).bind fun r3 => (Pfg.f k a0 Zl2).bind fun r4 => Option.bind (α := (Int × Zb × T60) ⊕ T24) (bif r4.2 then (Pje.f k r4.1).bind fun r5 => bif r3.2.2 then some (.inl (0, r2.1, r3.2.1, r5.2, a0, ((0, 0, 0, 0, []), (0, 0, Ze), false), r3.1, r5.1)) else some (.inl (0, r2.1, r3.2.1, false, a0, ((0, 0, 0, 0, []), (0, 0, Ze), false), r3.1, r5.1)) else some (.inl (0, r2.1, r3.2.1, r3.2.2, a0, ((0, 0, 0, 0, []), (0, 0, Ze), false), r3.1, 0, 0, Ze))) fun | .inl y => Pbs.c0 k y | .inr o => some o
theorem Pbs.ok : Yg 34 ⟨⟨[.w K2], [.t K17, .f K0]⟩, Pbs.f⟩ := Yq 152 (Yk 145 K14 Yv) (.n (.seq .c (.n (.seq .c (.m 3 (.seq (.cut [.ptr 1 1000, .ptr 2 1001, .s 3 K0, .s 4 .str, .ptr 6 7006, .s 7 K0, .s 8 .bool, .ptr 9 8001, .box 1000 53 K2 false false, .box 1001 79 K17 true false, .box 7006 77 K5 true false, .box 8001 48 K8 false false] (.n (.cond (.n (.n .l)) .l))) (.seq (.cut [.ptr 1 1000, .ptr 2 1001, .s 3 K0, .s 4 .str, .ptr 6 7006, .s 7 K0, .ptr 9 8001, .box 1000 53 K2 false false, .box 1001 79 K17 true false, .box 7006 77 K5 true false, .box 8001 48 K8 false false] .c) (.n (.seq (.cut [.ptr 1 1000, .ptr 2 1001, .s 3 K0, .ptr 6 7006, .ptr 9 8001, .s 14 .bool, .box 1000 53 K2 false false, .box 1001 79 K17 true false, .box 7006 77 K5 true false, .box 8001 48 K8 false false] (.n (.cond (.n (.n (.seq (.cut [.ptr 1 1000, .ptr 2 1001, .s 3 K0, .ptr 6 7006, .ptr 9 8001, .s 14 .bool, .box 1000 53 K2 false false, .box 1001 79 K17 true false, .box 7006 77 K5 true false, .box 8001 48 K8 false false] (.n (.cond .l .l))) (.n (.n .c))))) .l))) (.m 3 .l)))))))))) Tryz.func34 (Yc Pag.ok (Yc Pfg.ok (Yc Pei.ok (Yc Pje.ok Yn))))
def Pbt.b0 (k : Nat) (s : List T11 × List T11 × Bool × Int) : Option ((List T11 × List T11 × Bool × Int) ⊕ Bool ⊕ Bool) :=
 bif decide (s.2.2.2 < (s.1.length : Int)) then (inb? s.1.length s.2.2.2).bind fun j1 => (s.1[j1]?).bind fun y2 => (inb? s.2.1.length s.2.2.2).bind fun j3 => (s.2.1[j3]?).bind fun y4 => bif !(decide (y2.1 = y4.1) && (decide (y2.2 = y4.2) && true)) then some (.inr (.inr false)) else some (.inl (s.1, s.2.1, s.2.2.1, Zr (s.2.2.2 + 1))) else some (.inr (.inl s.2.2.1))
def Pbt.d0 (k : Nat) (y : Bool) : Option Bool :=
 some true
def Pbt.f (a0 : List T11) (a1 : List T11) : Option Bool :=
 bif !decide ((a0.length : Int) = (a1.length : Int)) then some false else (iter (X := Bool ⊕ Bool) (Pbt.b0 k) k (a0, a1, false, 0)).bind fun | .inl y => Pbt.d0 k y | .inr o => some o
theorem Pbt.ok : Yg 92 ⟨⟨[.v K22, .v K22], [.f .bool]⟩, Z2 Pbt.f⟩ := Yq 26 Yv (.n (.seq .c (.seq (.n (.lp [.s 0 K22, .s 1 K22, .s 4 .bool, .s 5 K0] 4 (.seq (.n (.cond .l .l)) (.seq (.blk .c) .l)))) (.n .l)))) Tryz.func92 Yn
def Pgv.f (a0 : T3) (a1 : T3) : Option Bool :=
 bif decide (a0.1 = a1.1) then bif decide (a0.2.1 = a1.2.1) then bif decide (a0.2.2.1 = a1.2.2.1) then bif decide (a0.2.2.2.1 = a1.2.2.2.1) then (Pbt.f k a0.2.2.2.2 a1.2.2.2.2).bind fun r1 => some r1 else some false else some false else some false else some false
theorem Pgv.ok : Yg 35 ⟨⟨[.w K5, .w K5], [.f .bool]⟩, Z2 Pgv.f⟩ := Yq 38 Yv (.n (.n .l)) Tryz.func35 (Yc Pbt.ok Yn)
def Pdb.c1 (y : Bool × T0 × T5) : Option Bool :=
 (Pbs.f k y.2.1.2.2.2.2.2.2.1).bind fun r1 => bif decide (r1.2 = 0) then (Phi.f k y.2.2).bind fun r2 => (Pgv.f k r1.1.1 r2).bind fun r3 => bif r3 then bif decide (r1.1.2.1.1 = y.2.1.2.2.2.2.2.1.1) && (decide (r1.1.2.1.2.1 = y.2.1.2.2.2.2.2.1.2.1) && (decide (r1.1.2.1.2.2 = y.2.1.2.2.2.2.2.1.2.2) && true)) then some (!r1.1.2.2) else some false else some false else some false
def Pdb.c0 (y : T37) : Option Bool :=
 bif !y.2.2.2.1 then (Pkm.f k y.2).bind fun r1 => bif r1 then some (decide (y.2.2.2.2.2.2.2.2.1 = (-1))) else some false else (Pcm.f k y.2.2.2.2.1).bind fun r2 => bif !r2 then some false else bif !decide (y.2.2.2.2.1.1 = y.2.1) then some false else bif !decide (y.2.2.2.2.1.2.1 = y.2.2.1) then some false else (Pba.f k y.2.2.2.2.2.1).bind fun r3 => bif !r3 then some false else (Pii.f k y.2.2.2.2.2.2.1).bind fun r4 => bif !r4 then some false else bif !decide (y.2.2.2.2.2.2.1.1 = y.2.2.2.2.1.2.2.2.2.2.2.1) then some false else bif !decide (y.2.2.2.2.2.2.1.2.1 = y.2.2.2.2.1.2.2.2.2.2.2.2.1) then some false else Option.bind (α := (Bool × T0 × T5) ⊕ Bool) (bif decide (0 < y.2.2.2.2.2.2.1.1) then (Pfh.f k y.2.2.2.2.2.2.1.2.2).bind fun r5 => bif !r5.2 then some (.inr false) else some (.inl (y.1, y.2, y.2.2.2.2.1)) else some (.inl (y.1, y.2, y.2.2.2.2.1))) fun | .inl y => Pdb.c1 k y | .inr o => some o
def Pdb.f (a0 : T0) : Option Bool :=
 Option.bind (α := T37 ⊕ Bool) ((Pao.f k a0.2.1 1 5).bind fun r1 => bif !r1 then some (.inr false) else (Pao.f k a0.1 0 (Zr (a0.2.1 - 1))).bind fun r2 => bif !r2 then some (.inr false) else (Pag.f k a0.2.2.2.2.2.2.1).bind fun r3 => bif !r3 then some (.inr false) else (Pao.f k a0.2.2.2.2.2.2.2.1 (-1) 100).bind fun r4 => bif !r4 then some (.inr false) else (Pao.f k a0.2.2.2.2.2.2.2.2.1 0 20).bind fun r5 => bif !r5 then some (.inr false) else (Pao.f k a0.2.2.2.2.2.2.2.2.2 0 1048576).bind fun r6 => bif !r6 then some (.inr false) else bif decide (a0.2.2.2.2.2.2.2.1 = (-1)) then bif !decide (a0.2.2.2.2.2.2.2.2.1 = 0) then some (.inr false) else bif !decide (a0.2.2.2.2.2.2.2.2.2 = 0) then some (.inr false) else some (.inl (false, a0)) else some (.inl (false, a0))) fun | .inl y => Pdb.c0 k y | .inr o => some o
theorem Pdb.ok : Yg 9 ⟨⟨[.w K1], [.f .bool]⟩, Pdb.f⟩ := Yq 157 Yv (.n (.seq (.cut [.ptr 1 1000, .s 2 .bool, .box 1000 55 K1 false false] .c) (.seq .c (.n (.seq .c (.seq (.cut [.ptr 1 1000, .s 2 .bool, .ptr 3 6002, .box 1000 55 K1 false false, .box 6002 43 K4 false false] (.n (.cond (.n .c) .l))) (.n (.n .l)))))))) Tryz.func9 (Yc Pao.ok (Yc Pag.ok (Yc Pkm.ok (Yc Pcm.ok (Yc Pba.ok (Yc Pii.ok (Yc Pfh.ok (Yc Pbs.ok (Yc Phi.ok (Yc Pgv.ok Yn))))))))))
def Pmb.f (k : Nat) (a0 : T5) : Option T5 :=
 (app? (limOf 24) ([]) a0.2.2.2.2.2.2.2.2.1).bind fun l1 => (app? (limOf 8) ([]) a0.2.2.2.2.2.2.2.2.2.2.1).bind fun l2 => (app? (limOf 8) ([]) a0.2.2.2.2.2.2.2.2.2.2.2.1).bind fun l3 => (app? (limOf 8) ([]) a0.2.2.2.2.2.2.2.2.2.2.2.2).bind fun l4 => some (a0.1, a0.2.1, a0.2.2.1, a0.2.2.2.1, a0.2.2.2.2.1, a0.2.2.2.2.2.1, a0.2.2.2.2.2.2.1, a0.2.2.2.2.2.2.2.1, l1, a0.2.2.2.2.2.2.2.2.2.1, l2, l3, l4)
theorem Pmb.ok : Yg 135 ⟨⟨[.w K4], [.t K4]⟩, Pmb.f⟩ := Yq 24 (Yk 3 K0 (Yk 145 K14 Yv)) (.m 6 .l) Tryz.func135 Yn
def Pma.f (k : Nat) (a0 : T2) : Option T2 :=
 (app? (limOf 40) ([]) a0.1).bind fun l1 => (app? (limOf 8) ([]) a0.2.1).bind fun l2 => (app? (limOf 72) ([]) a0.2.2).bind fun l3 => some (l1, l2, l3)
theorem Pma.ok : Yg 136 ⟨⟨[.w K3], [.t K3]⟩, Pma.f⟩ := Yq 19 (Yk 3 K0 (Yk 124 K18 (Yk 135 K7 Yv))) (.m 5 .l) Tryz.func136 Yn
def Pcn.f (k : Nat) (a0 : T1) : Option T1 :=
 (app? (limOf 32) ([]) a0.2.2.1).bind fun l1 => (app? (limOf 24) ([]) a0.2.2.2.1).bind fun l2 => (app? (limOf 48) ([]) a0.2.2.2.2).bind fun l3 => some (a0.1, a0.2.1, l1, l2, l3)
theorem Pcn.ok : Yg 137 ⟨⟨[.w K2], [.t K2]⟩, Pcn.f⟩ := Yq 19 (Yk 110 K16 (Yk 114 K6 (Yk 117 K9 Yv))) (.m 5 .l) Tryz.func137 Yn
def Pkl.f (a0 : T0) : Option T0 :=
 (Pmb.f k a0.2.2.2.1).bind fun r1 => (Pma.f k a0.2.2.2.2.1).bind fun r2 => (Pcn.f k a0.2.2.2.2.2.2.1).bind fun r3 => some (a0.1, a0.2.1, a0.2.2.1, r1, r2, a0.2.2.2.2.2.1, r3, a0.2.2.2.2.2.2.2)
theorem Pkl.ok : Yg 60 ⟨⟨[.w K1], [.t K1]⟩, Pkl.f⟩ := Yq 16 Yv (.m 5 .l) Tryz.func60 (Yc Pmb.ok (Yc Pma.ok (Yc Pcn.ok Yn)))
def Plq.f (a0 : Int) (a1 : Int) (a2 : T3) : Option (T5 × Bool) :=
 (app? (limOf 24) ([]) a2.2.2.2.2).bind fun l1 => (Pcm.f k (a0, a1, a2.1, a2.2.1, 1, (-1), a2.2.2.1, a2.2.2.2.1, l1, a2.2.2.1, [], [], [])).bind fun r2 => bif !r2 then some ((0, 0, 0, 0, 0, 0, 0, 0, [], 0, [], [], []), false) else some ((a0, a1, a2.1, a2.2.1, 1, (-1), a2.2.2.1, a2.2.2.2.1, l1, a2.2.2.1, [], [], []), true)
theorem Plq.ok : Yg 143 ⟨⟨[.v K0, .v K0, .w K5], [.t K4, .f .bool]⟩, Z3 Plq.f⟩ := Yq 31 (Yk 145 K14 Yv) (.n (.n (.seq .c (.n .l)))) Tryz.func143 (Yc Pcm.ok Yn)
def Pem.b0 (s : Zb × Zb × Int × T3) : Option ((Zb × Zb × Int × T3) ⊕ T14 ⊕ Zb) :=
 bif decide (s.2.2.1 < (s.2.2.2.2.2.2.2.length : Int)) then (inb? s.2.2.2.2.2.2.2.length s.2.2.1).bind fun j1 => (s.2.2.2.2.2.2.2[j1]?).bind fun y2 => (inb? s.2.2.2.2.2.2.2.length s.2.2.1).bind fun j3 => (s.2.2.2.2.2.2.2[j3]?).bind fun y4 => (Pfa.f k (2, y2.1, Zr ((Zr (s.2.2.2.2.2.1 + 1)) + s.2.2.1), 0, y4.2)).bind fun r5 => (Pez.f k r5).bind fun r6 => (cat? s.2.1 r6).bind fun s7 => some (.inl (s.1, s7, Zr (s.2.2.1 + 1), s.2.2.2)) else some (.inr (.inl (s.1, s.2.1)))
def Pem.d0 (k : Nat) (y : T14) : Option Zb :=
 some y.2
def Pem.f (a0 : T3) : Option Zb :=
 (Peb.f k a0).bind fun r1 => bif !r1 then some Ze else (Pfa.f k (4, a0.2.2.2.1, a0.2.2.1, 0, Ze)).bind fun r2 => (Pez.f k r2).bind fun r3 => (Pfa.f k (1, a0.1, 0, a0.2.1, Ze)).bind fun r4 => (Pez.f k r4).bind fun r5 => (cat? r3 r5).bind fun s6 => (iter (X := T14 ⊕ Zb) (Pem.b0 k) k (Ze, s6, 0, a0)).bind fun | .inl y => Pem.d0 k y | .inr o => some o
theorem Pem.ok : Yg 232 ⟨⟨[.w K5], [.f .str]⟩, Pem.f⟩ := Yq 53 Yv (.n (.seq .c (.n (.seq (.n (.lp [.ptr 1 1000, .s 2 .str, .s 3 .str, .s 4 K0, .box 1000 77 K5 false false] 6 (.seq (.n (.cond .l .l)) (.seq (.blk .l) .l)))) (.n .l))))) Tryz.func232 (Yc Peb.ok (Yc Pfa.ok (Yc Pez.ok Yn)))
def Phj.c0 (k : Nat) (y : Zb × Zb × List T7 × List T7) : Option (List T7) :=
 (cat? y.1 Zl1).bind fun s1 => (cat? y.1 Zl1).bind fun s2 => (cat? y.1 Zl1).bind fun s3 => (cat? y.1 Zl1).bind fun s4 => (app? (limOf 56) y.2.2.2 ([(1, s1, Ze, Ze), (2, s2, Ze, y.2.1), (3, s3, Ze, Ze), (4, s4, y.1, Ze), (6, Ze, Ze, Ze)])).bind fun l5 => some l5
def Phj.f (a0 : T1) (a1 : Zb) (a2 : Zb) : Option (List T7) :=
 (cat? a1 Zl1).bind fun s1 => (Pfg.f k a0 s1).bind fun r2 => Option.bind (α := (Zb × Zb × List T7 × List T7) ⊕ (List T7)) (bif r2.2 then (cat? a1 Zl1).bind fun s3 => (app? (limOf 56) ([]) ([(5, s3, Ze, Ze)])).bind fun l4 => some (.inl (a1, a2, [], l4)) else some (.inl (a1, a2, [], []))) fun | .inl y => Phj.c0 k y | .inr o => some o
theorem Phj.ok : Yg 231 ⟨⟨[.w K2, .v .str, .v .str], [.f K28]⟩, Z3 Phj.f⟩ := Yq 43 (Yk 169 K11 Yv) (.m 3 (.seq (.cut [.s 1 .str, .s 2 .str, .slot 6 false K28 true, .slot 7 false K28 true] (.n (.cond .l .l))) (.n .l))) Tryz.func231 (Yc Pfg.ok Yn)
def Pig.f (a0 : T1) (a1 : T3) : Option (List T7) :=
 (Pag.f k a0).bind fun r1 => bif !r1 then some ([]) else (Peb.f k a1).bind fun r2 => bif !r2 then some ([]) else (Pem.f k a1).bind fun r3 => (Phj.f k a0 Zl5 r3).bind fun r4 => some r4
theorem Pig.ok : Yg 145 ⟨⟨[.w K2, .w K5], [.f K28]⟩, Z2 Pig.f⟩ := Yq 18 (Yk 169 K11 Yv) (.n (.seq .c (.n .l))) Tryz.func145 (Yc Pag.ok (Yc Peb.ok (Yc Pem.ok (Yc Phj.ok Yn))))
def Pku.f (a0 : T1) (a1 : Zb) : Option T27 :=
 (Pag.f k a0).bind fun r1 => bif !r1 then some ((0, 0, [], [], []), 1) else (Pcc.f k a1).bind fun r2 => bif !r2 then (Pcn.f k a0).bind fun r3 => some (r3, 1) else (Pex.f k a0 a1).bind fun r4 => bif decide (0 ≤ r4) then (Pcn.f k a0).bind fun r5 => some (r5, 3) else bif decide (10 ≤ (a0.2.2.1.length : Int)) then (Pcn.f k a0).bind fun r6 => some (r6, 4) else bif decide (20 ≤ (a0.2.2.2.2.length : Int)) then (Pcn.f k a0).bind fun r7 => some (r7, 4) else bif decide (1000000 ≤ a0.2.1) then (Pcn.f k a0).bind fun r8 => some (r8, 4) else (Pcn.f k a0).bind fun r9 => (app? (limOf 32) r9.2.2.1 ([(r9.2.1, Ze, 0)])).bind fun l10 => (app? (limOf 48) r9.2.2.2.2 ([(1, a1, Ze, r9.2.1)])).bind fun l11 => some ((r9.1, Zr (r9.2.1 + 1), l10, r9.2.2.2.1, l11), 0)
theorem Pku.ok : Yg 286 ⟨⟨[.w K2, .v .str], [.t K2, .f K0]⟩, Z2 Pku.f⟩ := Yq 66 (Yk 110 K16 (Yk 117 K9 Yv)) (.n (.seq (.blk (.n (.cond (.n .l) (.n (.cond (.n .l) (.n (.cond (.n .l) .c))))))) (.m 5 .l))) Tryz.func286 (Yc Pag.ok (Yc Pcc.ok (Yc Pcn.ok (Yc Pex.ok Yn))))
def Pec.f (a0 : T1) (a1 : Zb) : Option Int :=
 (Pcc.f k a1).bind fun r1 => bif !r1 then some 1 else (Pex.f k a0 a1).bind fun r2 => bif decide (r2 < 0) then some 2 else some 0
theorem Pec.ok : Yg 303 ⟨⟨[.w K2, .v .str], [.f K0]⟩, Z2 Pec.f⟩ := Yq 12 Yv (.n (.seq .c (.seq .c (.n .l)))) Tryz.func303 (Yc Pcc.ok (Yc Pex.ok Yn))
def Pjc.c0 (y : T72) : Option T27 :=
 (Pcn.f k y.2.2.2.2.1).bind fun r1 => bif decide (y.2.2.2.1 = 0) then (Pex.f k r1 y.1).bind fun r2 => (inb? r1.2.2.1.length r2).bind fun j3 => (r1.2.2.1[j3]?).bind fun y4 => (cat? y4.2.1 y.2.1).bind fun s5 => (inb? r1.2.2.1.length r2).bind fun j6 => (r1.2.2.1[j6]?).bind fun y7 => some ((r1.1, r1.2.1, r1.2.2.1.set j6 (y7.1, s5, y7.2.2), r1.2.2.2), y.2.2.2.1) else some (r1, y.2.2.2.1)
def Pjc.f (a0 : T1) (a1 : Zb) (a2 : Zb) : Option T27 :=
 (Pag.f k a0).bind fun r1 => bif !r1 then some ((0, 0, [], [], []), 1) else (Pec.f k a0 a1).bind fun r2 => Option.bind (α := T72 ⊕ T27) (bif decide (r2 = 0) then (Pdw.f k a0).bind fun r3 => bif decide (Zr (a0.1 - r3) < (a2.size : Int)) then some (.inl (a1, a2, 0, 4, a0, 0, 0, [], [], [])) else some (.inl (a1, a2, 0, r2, a0, 0, 0, [], [], [])) else some (.inl (a1, a2, 0, r2, a0, 0, 0, [], [], []))) fun | .inl y => Pjc.c0 k y | .inr o => some o
theorem Pjc.ok : Yg 287 ⟨⟨[.w K2, .v .str, .v .str], [.t K2, .f K0]⟩, Z3 Pjc.f⟩ := Yq 51 Yv (.n (.seq .c (.n (.seq (.cut [.s 1 .str, .s 2 .str, .ptr 3 1000, .ptr 6 1001, .s 7 K0, .s 8 K0, .box 1000 53 K2 false false, .box 1001 53 K2 true false] (.n (.cond .l .l))) (.n (.seq .c (.n .l))))))) Tryz.func287 (Yc Pag.ok (Yc Pec.ok (Yc Pdw.ok (Yc Pcn.ok (Yc Pex.ok Yn)))))
def Pkv.f (a0 : T1) (a1 : Zb) : Option T27 :=
 (Pag.f k a0).bind fun r1 => bif !r1 then some ((0, 0, [], [], []), 1) else (Pec.f k a0 a1).bind fun r2 => (Pcn.f k a0).bind fun r3 => bif decide (r2 = 0) then (Pex.f k r3 a1).bind fun r4 => (inb? r3.2.2.1.length r4).bind fun j5 => (r3.2.2.1[j5]?).bind fun y6 => (inb? r3.2.2.1.length r4).bind fun j7 => (r3.2.2.1[j7]?).bind fun y8 => some ((r3.1, r3.2.1, r3.2.2.1.set j7 (y8.1, y8.2.1, (y6.2.1.size : Int)), r3.2.2.2), r2) else some (r3, r2)
theorem Pkv.ok : Yg 288 ⟨⟨[.w K2, .v .str], [.t K2, .f K0]⟩, Z2 Pkv.f⟩ := Yq 36 Yv (.n (.seq .c (.n (.n (.seq .c (.n .l)))))) Tryz.func288 (Yc Pag.ok (Yc Pec.ok (Yc Pcn.ok (Yc Pex.ok Yn))))
def Pds.c0 (y : Int × Int × T1 × T16 × T1) : Option T27 :=
 (Pcn.f k y.2.2.1).bind fun r1 => bif decide (y.1 = 0) then (app? (limOf 48) r1.2.2.2.2 ([y.2.2.2.1])).bind fun l2 => some ((r1.1, r1.2.1, r1.2.2.1, r1.2.2.2.1, l2), y.1) else some (r1, y.1)
def Pds.f (a0 : T1) (a1 : T16) (a2 : Int) : Option T27 :=
 Option.bind (α := (Int × Int × T1 × T16 × T1) ⊕ T27) (bif decide (a2 = 0) then bif decide (20 ≤ (a0.2.2.2.2.length : Int)) then some (.inl (4, 0, a0, a1, 0, 0, [], [], [])) else some (.inl (a2, 0, a0, a1, 0, 0, [], [], [])) else some (.inl (a2, 0, a0, a1, 0, 0, [], [], []))) fun | .inl y => Pds.c0 k y | .inr o => some o
theorem Pds.ok : Yg 304 ⟨⟨[.w K2, .w K9, .v K0], [.t K2, .f K0]⟩, Z3 Pds.f⟩ := Yq 28 (Yk 117 K9 Yv) (.n (.seq (.cut [.s 2 K0, .ptr 3 1000, .ptr 4 1001, .ptr 6 1002, .s 7 K0, .box 1000 53 K2 false false, .box 1001 117 K9 false false, .box 1002 53 K2 true false] (.n (.cond .l .l))) (.n (.seq (.n (.cond .l .l)) (.n .l))))) Tryz.func304 (Yc Pcn.ok Yn)
def Pfd.c0 (y : T72) : Option T27 :=
 (Pds.f k y.2.2.2.2.1 (2, y.1, y.2.1, 0) y.2.2.2.1).bind fun r1 => some r1
def Pfd.f (a0 : T1) (a1 : Zb) (a2 : Zb) : Option T27 :=
 (Pag.f k a0).bind fun r1 => bif !r1 then some ((0, 0, [], [], []), 1) else (Pec.f k a0 a1).bind fun r2 => Option.bind (α := T72 ⊕ T27) ((Pcc.f k a2).bind fun r3 => bif !r3 then some (.inl (a1, a2, 0, 1, a0, 0, 0, [], [], [])) else bif decide (a1 = a2) then some (.inl (a1, a2, 0, 1, a0, 0, 0, [], [], [])) else some (.inl (a1, a2, 0, r2, a0, 0, 0, [], [], []))) fun | .inl y => Pfd.c0 k y | .inr o => some o
theorem Pfd.ok : Yg 289 ⟨⟨[.w K2, .v .str, .v .str], [.t K2, .f K0]⟩, Z3 Pfd.f⟩ := Yq 32 Yv (.n (.seq .c (.n (.seq (.cut [.s 1 .str, .s 2 .str, .ptr 3 1000, .ptr 6 1001, .s 7 K0, .s 8 K0, .box 1000 53 K2 false false, .box 1001 53 K2 true false] (.n (.cond .l .l))) (.n .l))))) Tryz.func289 (Yc Pag.ok (Yc Pec.ok (Yc Pcc.ok (Yc Pds.ok Yn))))
def Pkt.f (a0 : T1) (a1 : Zb) : Option T27 :=
 (Pag.f k a0).bind fun r1 => bif !r1 then some ((0, 0, [], [], []), 1) else (Pec.f k a0 a1).bind fun r2 => (Pds.f k a0 (3, a1, Ze, 0) r2).bind fun r3 => some r3
theorem Pkt.ok : Yg 290 ⟨⟨[.w K2, .v .str], [.t K2, .f K0]⟩, Z2 Pkt.f⟩ := Yq 19 Yv (.n (.seq .c (.n .l))) Tryz.func290 (Yc Pag.ok (Yc Pec.ok (Yc Pds.ok Yn)))
def Pdq.b0 (s : List T15 × Int × T1 × T1) : Option ((List T15 × Int × T1 × T1) ⊕ (T1 × T1) ⊕ T1) :=
 bif decide (s.2.1 < (s.1.length : Int)) then (inb? s.1.length s.2.1).bind fun j1 => (s.1[j1]?).bind fun y2 => (Pcb.f k s.2.2.2.2.2.2.1 y2.1).bind fun r3 => bif r3 then (inb? s.1.length s.2.1).bind fun j4 => (s.1[j4]?).bind fun y5 => (app? (limOf 32) s.2.2.2.2.2.1 ([y5])).bind fun l6 => some (.inl (s.1, Zr (s.2.1 + 1), s.2.2.1, s.2.2.2.1, s.2.2.2.2.1, l6, s.2.2.2.2.2.2)) else some (.inl (s.1, Zr (s.2.1 + 1), s.2.2)) else some (.inr (.inl s.2.2))
def Pdq.d0 (k : Nat) (y : T1 × T1) : Option T1 :=
 some y.2
def Pdq.f (a0 : T1) (a1 : List T4) (a2 : List T15) : Option T1 :=
 (iter (X := (T1 × T1) ⊕ T1) (Pdq.b0 k) k (a2, 0, (0, 0, [], [], []), a0.1, a0.2.1, [], a1, [])).bind fun | .inl y => Pdq.d0 k y | .inr o => some o
theorem Pdq.ok : Yg 226 ⟨⟨[.w K2, .give false K12, .v K24], [.t K2]⟩, Z3 Pdq.f⟩ := Yq 38 (Yk 110 K16 Yv) (.n (.n (.seq (.n (.lp [.s 2 K24, .ptr 6 1001, .ptr 7 2006, .s 8 K0, .box 1001 53 K2 true false, .box 2006 53 K2 true false, .alias 1 (.box 2006 3)] 54 (.seq (.n (.cond .l .l)) (.seq (.blk (.n (.cond .l .l))) .l)))) (.n .l)))) Tryz.func226 (Yc Pcb.ok Yn)
def Pgd.f (a0 : T1) : Option T27 :=
 (Pag.f k a0).bind fun r1 => bif !r1 then some ((0, 0, [], [], []), 1) else (Pdt.f k a0 (a0.2.2.2.2.length : Int)).bind fun r2 => (Pdq.f k a0 r2 a0.2.2.1).bind fun r3 => some (r3, 0)
theorem Pgd.ok : Yg 291 ⟨⟨[.w K2], [.t K2, .f K0]⟩, Pgd.f⟩ := Yq 17 Yv (.n (.seq .c (.n .l))) Tryz.func291 (Yc Pag.ok (Yc Pdt.ok (Yc Pdq.ok Yn)))
def Pif.f (a0 : T1) (a1 : T7) : Option T27 :=
 (Pag.f k a0).bind fun r1 => bif !r1 then some ((0, 0, [], [], []), 1) else bif decide (a1.1 = 1) then (Pku.f k a0 a1.2.1).bind fun r2 => some r2 else bif decide (a1.1 = 2) then (Pjc.f k a0 a1.2.1 a1.2.2.2).bind fun r3 => some r3 else bif decide (a1.1 = 3) then (Pkv.f k a0 a1.2.1).bind fun r4 => some r4 else bif decide (a1.1 = 4) then (Pfd.f k a0 a1.2.1 a1.2.2.1).bind fun r5 => some r5 else bif decide (a1.1 = 5) then (Pkt.f k a0 a1.2.1).bind fun r6 => some r6 else bif decide (a1.1 = 6) then (Pgd.f k a0).bind fun r7 => some r7 else (Pcn.f k a0).bind fun r8 => some (r8, 1)
theorem Pif.ok : Yg 233 ⟨⟨[.w K2, .w K11], [.t K2, .f K0]⟩, Z2 Pif.f⟩ := Yq 64 Yv (.n (.seq .c (.seq (.n (.blk (.n (.cond (.n .l) (.n (.cond (.n .l) (.n (.cond (.n .l) (.n (.cond (.n .l) (.n (.cond (.n .l) .c)))))))))))) (.n .l)))) Tryz.func233 (Yc Pag.ok (Yc Pku.ok (Yc Pjc.ok (Yc Pkv.ok (Yc Pfd.ok (Yc Pkt.ok (Yc Pgd.ok (Yc Pcn.ok Yn))))))))
def Pbp.b0 (s : List T7 × Int × T19) : Option T65 :=
 bif decide (s.2.2.2.2.1 < (s.1.length : Int)) then bif decide (s.2.2.2.2.1 < s.2.1) then (inb? s.1.length s.2.2.2.2.1).bind fun j1 => (s.1[j1]?).bind fun y2 => (Pif.f k s.2.2.2.2.2.1 y2).bind fun r3 => bif !decide (r3.2 = 0) then some (.inr (.inr (s.2.2.2.2.2.1, s.2.2.2.2.1, r3.2))) else some (.inl (s.1, s.2.1, s.2.2.1, s.2.2.2.1, Zr (s.2.2.2.2.1 + 1), r3.1, s.2.2.2.2.2.2)) else some (.inr (.inl (s.1, s.2.1, s.2.2.1, s.2.2.2.1, s.2.2.2.2.2))) else some (.inr (.inl (s.1, s.2.1, s.2.2.1, s.2.2.2.1, s.2.2.2.2.2)))
def Pbp.c1 (k : Nat) (y : T19) : Option T50 :=
 some (y.2.2.2.1, y.1, 0)
def Pbp.c0 (y : List T7 × T19) : Option T50 :=
 Option.bind (α := T19 ⊕ T50) (bif decide ((y.1.length : Int) < y.2.1) then some (.inl ((y.1.length : Int), y.2.2)) else some (.inl y.2)) fun | .inl y => Pbp.c1 k y | .inr o => some o
def Pbp.d0 (y : List T7 × T19) : Option T50 :=
 Option.bind (α := (List T7 × T19) ⊕ T50) (bif decide (y.2.1 < 0) then some (.inl (y.1, 0, y.2.2)) else some (.inl y)) fun | .inl y => Pbp.c0 k y | .inr o => some o
def Pbp.f (a0 : T1) (a1 : List T7) (a2 : Int) : Option T50 :=
 (Pag.f k a0).bind fun r1 => bif !r1 then some ((0, 0, [], [], []), 0, 1) else (Pcn.f k a0).bind fun r2 => bif decide (20 < (a1.length : Int)) then some (r2, 0, 1) else (iter (X := (List T7 × T19) ⊕ T50) (Pbp.b0 k) k (a1, a2, 0, 0, 0, r2, 0, 0, [], [], [])).bind fun | .inl y => Pbp.d0 k y | .inr o => some o
theorem Pbp.ok : Yg 146 ⟨⟨[.w K2, .v K28, .v K0], [.t K2, .f K0, .f K0]⟩, Z3 Pbp.f⟩ := Yq 58 Yv (.n (.seq .c (.n (.seq .c (.seq (.n (.lp [.s 1 K28, .s 2 K0, .ptr 3 1000, .ptr 6 1001, .s 7 K0, .s 8 K0, .s 9 K0, .box 1000 53 K2 true false, .box 1001 53 K2 true false] 447 (.seq (.n (.cond .l .l)) (.seq (.blk (.n (.seq .c .l))) .l)))) (.seq (.cut [.s 1 K28, .s 2 K0, .ptr 3 1000, .ptr 6 1001, .s 7 K0, .s 8 K0, .box 1000 53 K2 true false, .box 1001 53 K2 true false] (.n (.cond .l .l))) (.seq (.cut [.s 2 K0, .ptr 3 1000, .ptr 6 1001, .s 7 K0, .s 8 K0, .box 1000 53 K2 true false, .box 1001 53 K2 true false] (.n (.cond .l .l))) (.n .l)))))))) Tryz.func146 (Yc Pag.ok (Yc Pcn.ok (Yc Pif.ok Yn)))
def Pay.c2 (y : Bool × List T7 × T0 × T25) : Option ((Bool × T0 × T25) ⊕ T40) :=
 (Pbp.f k y.2.2.1.2.2.2.2.2.2.1 y.2.1 (y.2.1.length : Int)).bind fun r1 => bif decide (r1.2.1 < (y.2.1.length : Int)) then some (.inr ((y.2.2.1.1, y.2.2.1.2.1, y.2.2.1.2.2.1, y.2.2.1.2.2.2.1, y.2.2.1.2.2.2.2.1, y.2.2.1.2.2.2.2.2.1, r1.1, y.2.2.1.2.2.2.2.2.2.2), false)) else some (.inl (y.1, (y.2.2.1.1, y.2.2.1.2.1, y.2.2.1.2.2.1, y.2.2.1.2.2.2.1, y.2.2.1.2.2.2.2.1, y.2.2.1.2.2.2.2.2.1, r1.1, y.2.2.1.2.2.2.2.2.2.2), y.2.2.2))
def Pay.c3 (k : Nat) (y : Bool × T0 × T25) : Option T40 :=
 some ((y.2.1.1, y.2.1.2.1, true, y.2.2.2.2.1, y.2.2.2.2.2, y.2.2.2.1.2.1, y.2.1.2.2.2.2.2.2), true)
def Pay.c1 (y : Bool × Int × Bool × T0 × T25) : Option T40 :=
 bif !decide (y.2.1 = 0) then some (y.2.2.2.1, false) else bif !y.2.2.1 then some (y.2.2.2.1, false) else Option.bind (α := (Bool × T0 × T25) ⊕ T40) (bif y.2.2.2.2.2.1.2.2 then (Pig.f k y.2.2.2.1.2.2.2.2.2.2.1 y.2.2.2.2.2.1.1).bind fun r1 => (Pfg.f k y.2.2.2.1.2.2.2.2.2.2.1 Zl0).bind fun r2 => Option.bind (α := (Bool × List T7 × T0 × T25) ⊕ T40) (bif r2.2 then (app? (limOf 56) ([(5, Zl0, Ze, Ze)]) r1).bind fun l3 => some (.inl (y.1, l3, y.2.2.2)) else some (.inl (y.1, r1, y.2.2.2))) fun | .inl y => Pay.c2 k y | .inr o => some (.inr o) else some (.inl (y.1, y.2.2.2))) fun | .inl y => Pay.c3 k y | .inr o => some o
def Pay.c0 (y : Bool × Int × T0 × T0 × T6) : Option T40 :=
 (Plq.f k y.2.2.1.1 y.2.2.1.2.1 y.2.2.2.2.1).bind fun r1 => (Pfv.f k).bind fun r2 => Option.bind (α := (Bool × Int × Bool × T0 × T25) ⊕ T40) (bif decide (y.2.1 = 0) then bif decide (0 < y.2.2.2.2.2.1.1) then (Pfh.f k y.2.2.2.2.2.1.2.2).bind fun r3 => bif r1.2 then some (.inl (y.1, y.2.1, r3.2, y.2.2.1, y.2.2.2.1, y.2.2.2.2, r1.1, r3.1)) else some (.inl (y.1, y.2.1, false, y.2.2.1, y.2.2.2.1, y.2.2.2.2, r1.1, r3.1)) else some (.inl (y.1, y.2.1, r1.2, y.2.2.1, y.2.2.2.1, y.2.2.2.2, r1.1, r2)) else some (.inl (y.1, y.2.1, r1.2, y.2.2.1, y.2.2.2.1, y.2.2.2.2, r1.1, r2))) fun | .inl y => Pay.c1 k y | .inr o => some o
def Pay.f (a0 : T0) : Option T40 :=
 bif a0.2.2.1 then some (a0, false) else (Pbs.f k a0.2.2.2.2.2.2.1).bind fun r1 => (Pfg.f k a0.2.2.2.2.2.2.1 Zl2).bind fun r2 => Option.bind (α := (Bool × Int × T0 × T0 × T6) ⊕ T40) (bif decide (r1.2 = 1) then bif !r2.2 then some (.inl (false, 0, a0, (0, 0, false, (0, 0, 0, 0, 0, 0, 0, 0, [], 0, [], [], []), ([], [], []), (0, 0, Ze), (0, 0, [], [], []), 0, 0, 0), (0, (-1), 0, 0, []), (0, 0, Ze), true)) else some (.inl (false, r1.2, a0, (0, 0, false, (0, 0, 0, 0, 0, 0, 0, 0, [], 0, [], [], []), ([], [], []), (0, 0, Ze), (0, 0, [], [], []), 0, 0, 0), r1.1)) else some (.inl (false, r1.2, a0, (0, 0, false, (0, 0, 0, 0, 0, 0, 0, 0, [], 0, [], [], []), ([], [], []), (0, 0, Ze), (0, 0, [], [], []), 0, 0, 0), r1.1))) fun | .inl y => Pay.c0 k y | .inr o => some o
theorem Pay.ok : Yg 64 ⟨⟨[.w K1], [⟨true, K1, false⟩, .f .bool]⟩, Pay.f⟩ := Yq 124 (Yk 169 K11 Yv) (.n (.seq .c (.n (.n (.seq (.cut [.ptr 1 1000, .ptr 2 1001, .s 3 .bool, .ptr 4 4006, .s 5 K0, .box 1000 55 K1 false false, .box 1001 55 K1 true false, .box 4006 79 K17 true false] .c) (.n (.n (.seq (.cut [.ptr 1 1000, .ptr 2 1001, .s 3 .bool, .ptr 4 4006, .s 5 K0, .ptr 8 9010, .s 9 .bool, .ptr 10 10001, .box 1000 55 K1 false false, .box 1001 55 K1 true false, .box 4006 79 K17 true false, .box 9010 43 K4 true false, .box 10001 47 K3 true false] (.n (.cond (.n (.n .l)) .l))) (.seq .c (.seq (.cut [.ptr 1 1000, .ptr 2 1001, .s 3 .bool, .ptr 4 4006, .ptr 8 9010, .ptr 10 10001, .box 1000 55 K1 false false, .box 1001 55 K1 true false, .box 4006 79 K17 true false, .box 9010 43 K4 true false, .box 10001 47 K3 true false] (.n (.cond (.n (.n (.seq (.cut [.ptr 1 1000, .ptr 2 1001, .s 3 .bool, .ptr 4 4006, .ptr 8 9010, .ptr 10 10001, .slot 13 false K28 true, .box 1000 55 K1 false false, .box 1001 55 K1 true false, .box 4006 79 K17 true false, .box 9010 43 K4 true false, .box 10001 47 K3 true false] (.n (.cond .l .l))) (.n (.n .c))))) .l))) (.m 5 .l))))))))))) Tryz.func64 (Yc Pbs.ok (Yc Pfg.ok (Yc Plq.ok (Yc Pfv.ok (Yc Pfh.ok (Yc Pig.ok (Yc Pbp.ok Yn)))))))
def Pjd.f (a0 : T0) : Option T40 :=
 (Pdb.f k a0).bind fun r1 => bif !r1 then some ((0, 0, false, (0, 0, 0, 0, 0, 0, 0, 0, [], 0, [], [], []), ([], [], []), (0, 0, Ze), (0, 0, [], [], []), 0, 0, 0), false) else (Pkl.f k a0).bind fun r2 => (Pay.f k r2).bind fun r3 => some r3
theorem Pjd.ok : Yg 19 ⟨⟨[.w K1], [⟨true, K1, false⟩, .f .bool]⟩, Pjd.f⟩ := Yq 18 Yv (.n (.seq .c (.n (.n .l)))) Tryz.func19 (Yc Pdb.ok (Yc Pkl.ok (Yc Pay.ok Yn)))
def Paa.f (k : Nat) (a0 : Int) (a1 : Int) (a2 : Int) : Option Bool :=
 bif decide (a1 ≤ a0) then some (decide (a0 ≤ a2)) else some false
theorem Paa.ok : Yg 41 ⟨⟨[.v K0, .v K0, .v K0], [.f .bool]⟩, Z3 Paa.f⟩ := Yq 15 Yv (.n (.n .l)) Tryz.func41 Yn
def Pcu.b0 (k : Nat) (s : Int × Int × List T15 × T8) : Option ((Int × Int × List T15 × T8) ⊕ T8 ⊕ Int) :=
 bif decide (s.2.2.2.2 < s.2.2.2.1) then (inb? s.2.2.1.length s.2.2.2.2).bind fun j1 => (s.2.2.1[j1]?).bind fun y2 => some (.inl (s.1, Zr (s.2.1 + (y2.2.1.size : Int)), s.2.2.1, s.2.2.2.1, Zr (s.2.2.2.2 + 1))) else some (.inr (.inl (s.1, s.2.1)))
def Pcu.d0 (k : Nat) (y : T8) : Option Int :=
 some y.2
def Pcu.f (a0 : T1) : Option Int :=
 (iter (X := T8 ⊕ Int) (Pcu.b0 k) k (0, 0, a0.2.2.1, (a0.2.2.1.length : Int), 0)).bind fun | .inl y => Pcu.d0 k y | .inr o => some o
theorem Pcu.ok : Yg 100 ⟨⟨[.w K2], [.f K0]⟩, Pcu.f⟩ := Yq 20 Yv (.n (.n (.seq (.n (.lp [.s 2 K0, .s 3 K0, .s 7 K24, .s 8 K0, .s 9 K0] 3 (.n (.seq (.cond .l .l) (.seq (.blk (.n .l)) .l))))) (.n .l)))) Tryz.func100 Yn
def Pbl.b0 (k : Nat) (s : Zb × Bool × Int) : Option ((Zb × Bool × Int) ⊕ T13 ⊕ Bool) :=
 bif decide (s.2.2 < (s.1.size : Int)) then (inb? s.1.size s.2.2).bind fun j1 => bif decide (97 ≤ Qmy s.1 j1) then bif decide (Qmy s.1 j1 ≤ 122) then some (.inl (s.1, s.2.1, Zr (s.2.2 + 1))) else bif decide (48 ≤ Qmy s.1 j1) then bif decide (Qmy s.1 j1 ≤ 57) then some (.inl (s.1, s.2.1, Zr (s.2.2 + 1))) else bif !(decide (Qmy s.1 j1 = 46)) then some (.inr (.inr false)) else some (.inl (s.1, s.2.1, Zr (s.2.2 + 1))) else bif !(decide (Qmy s.1 j1 = 46)) then some (.inr (.inr false)) else some (.inl (s.1, s.2.1, Zr (s.2.2 + 1))) else bif decide (48 ≤ Qmy s.1 j1) then bif decide (Qmy s.1 j1 ≤ 57) then some (.inl (s.1, s.2.1, Zr (s.2.2 + 1))) else bif !(decide (Qmy s.1 j1 = 46)) then some (.inr (.inr false)) else some (.inl (s.1, s.2.1, Zr (s.2.2 + 1))) else bif !(decide (Qmy s.1 j1 = 46)) then some (.inr (.inr false)) else some (.inl (s.1, s.2.1, Zr (s.2.2 + 1))) else some (.inr (.inl (s.1, s.2.1)))
def Pbl.d0 (y : T13) : Option Bool :=
 (Paa.f k (y.1.size : Int) 1 12).bind fun r1 => some r1
def Pbl.f (a0 : Zb) : Option Bool :=
 (iter (X := T13 ⊕ Bool) (Pbl.b0 k) k (a0, false, 0)).bind fun | .inl y => Pbl.d0 k y | .inr o => some o
theorem Pbl.ok : Yg 189 ⟨⟨[.v .str], [.f .bool]⟩, Pbl.f⟩ := Yq 36 Yv (.n (.seq (.n (.lp [.s 0 .str, .s 2 .bool, .s 3 K0] 3 (.seq (.n (.cond .l .l)) (.seq (.blk (.n .c)) .l)))) (.n .l))) Tryz.func189 (Yc Paa.ok Yn)
def Pht.f (k : Nat) (a0 : T15) (a1 : Int) : Option Bool :=
 some (decide (a0.1 = a1))
theorem Pht.ok : Yg 249 ⟨⟨[.w K16, .box 3 K0 false false], [.f .bool]⟩, Z2 Pht.f⟩ := Yq 8 Yv (.n (.n .l)) Tryz.func249 Yn
def Pai.b0 (s : List T15 × Int × T20) : Option ((List T15 × Int × T20) ⊕ Int ⊕ Int) :=
 bif decide (s.2.2.2.1 < s.2.2.1) then (inb? s.1.length s.2.2.2.1).bind fun j1 => (s.1[j1]?).bind fun y2 => (Pht.f k y2 s.2.2.2.2).bind fun r3 => bif r3 then some (.inr (.inr s.2.2.2.1)) else some (.inl (s.1, s.2.1, s.2.2.1, Zr (s.2.2.2.1 + 1), s.2.2.2.2)) else some (.inr (.inl s.2.1))
def Pai.d0 (k : Nat) (y : Int) : Option Int :=
 some (-1)
def Pai.f (a0 : List T15) (a1 : Int) : Option Int :=
 (iter (X := Int ⊕ Int) (Pai.b0 k) k (a0, 0, (a0.length : Int), 0, a1)).bind fun | .inl y => Pai.d0 k y | .inr o => some o
theorem Pai.ok : Yg 248 ⟨⟨[.v K24, .clo 249 false 3 K0], [.f K0]⟩, Z2 Pai.f⟩ := Yq 19 Yv (.n (.seq (.n (.lp [.s 0 K24, .fnp 1 249 false 2, .s 4 K0, .s 7 K0, .s 8 K0, .box 2 3 K0 false true] 4 (.n (.seq (.cond .l .l) (.seq (.blk (.n .c)) .l))))) (.n .l))) Tryz.func248 (Yc Pht.ok Yn)
def Pfq.f (a0 : T1) (a1 : Int) : Option Int :=
 (Pai.f k a0.2.2.1 a1).bind fun r1 => some r1
theorem Pfq.ok : Yg 190 ⟨⟨[.w K2, .v K0], [.f K0]⟩, Z2 Pfq.f⟩ := Yq 9 Yv (.n (.n .l)) Tryz.func190 (Yc Pai.ok Yn)
def Pdh.b0 (k : Nat) (s : List Int × Int × T20) : Option ((List Int × Int × T20) ⊕ Int ⊕ Int) :=
 bif decide (s.2.2.2.2 < s.2.2.2.1) then (inb? s.1.length s.2.2.2.2).bind fun j1 => (s.1[j1]?).bind fun y2 => bif decide (s.2.1 = y2) then some (.inr (.inr s.2.2.2.2)) else some (.inl (s.1, s.2.1, s.2.2.1, s.2.2.2.1, Zr (s.2.2.2.2 + 1))) else some (.inr (.inl s.2.2.1))
def Pdh.d0 (k : Nat) (y : Int) : Option Int :=
 some (-1)
def Pdh.f (a0 : List Int) (a1 : Int) : Option Int :=
 (iter (X := Int ⊕ Int) (Pdh.b0 k) k (a0, a1, 0, (a0.length : Int), 0)).bind fun | .inl y => Pdh.d0 k y | .inr o => some o
theorem Pdh.ok : Yg 250 ⟨⟨[.v K20, .v K0], [.f K0]⟩, Z2 Pdh.f⟩ := Yq 19 Yv (.n (.seq (.n (.lp [.s 0 K20, .s 1 K0, .s 4 K0, .s 7 K0, .s 8 K0] 4 (.n (.seq (.cond .l .l) (.seq (.blk (.n .c)) .l))))) (.n .l))) Tryz.func250 Yn
def Pdj.f (a0 : List Int) (a1 : Int) : Option Bool :=
 (Pdh.f k a0 a1).bind fun r1 => some (decide (0 ≤ r1))
theorem Pdj.ok : Yg 191 ⟨⟨[.v K20, .v K0], [.f .bool]⟩, Z2 Pdj.f⟩ := Yq 9 Yv (.n (.n .l)) Tryz.func191 (Yc Pdh.ok Yn)
def Pde.f (k : Nat) (a0 : List T4) : Option (List T4) :=
 (app? (limOf 24) [] a0).bind fun l1 => some l1
theorem Pde.ok : Yg 192 ⟨⟨[.v K12], [.f K12]⟩, Pde.f⟩ := Yq 5 (Yk 114 K6 Yv) (.n (.n .l)) Tryz.func192 Yn
def Pjj.f (k : Nat) (a0 : T4) (a1 : Zb) : Option Bool :=
 some (decide (a0.1 = a1))
theorem Pjj.ok : Yg 274 ⟨⟨[.w K6, .box 9 .str false false], [.f .bool]⟩, Z2 Pjj.f⟩ := Yq 8 Yv (.n (.n .l)) Tryz.func274 Yn
def Pal.b0 (s : List T4 × Int × Int × T11) : Option ((List T4 × Int × Int × T11) ⊕ Int ⊕ Int) :=
 bif decide (s.2.2.2.1 < s.2.2.1) then (inb? s.1.length s.2.2.2.1).bind fun j1 => (s.1[j1]?).bind fun y2 => (Pjj.f k y2 s.2.2.2.2).bind fun r3 => bif r3 then some (.inr (.inr s.2.2.2.1)) else some (.inl (s.1, s.2.1, s.2.2.1, Zr (s.2.2.2.1 + 1), s.2.2.2.2)) else some (.inr (.inl s.2.1))
def Pal.d0 (k : Nat) (y : Int) : Option Int :=
 some (-1)
def Pal.f (a0 : List T4) (a1 : Zb) : Option Int :=
 (iter (X := Int ⊕ Int) (Pal.b0 k) k (a0, 0, (a0.length : Int), 0, a1)).bind fun | .inl y => Pal.d0 k y | .inr o => some o
theorem Pal.ok : Yg 273 ⟨⟨[.v K12, .clo 274 false 9 .str], [.f K0]⟩, Z2 Pal.f⟩ := Yq 19 Yv (.n (.seq (.n (.lp [.s 0 K12, .fnp 1 274 false 2, .s 4 K0, .s 7 K0, .s 8 K0, .box 2 9 .str false true] 4 (.n (.seq (.cond .l .l) (.seq (.blk (.n .c)) .l))))) (.n .l))) Tryz.func273 (Yc Pjj.ok Yn)
def Pia.f (a0 : List T4) (a1 : Zb) : Option Int :=
 (Pal.f k a0 a1).bind fun r1 => some r1
theorem Pia.ok : Yg 221 ⟨⟨[.v K12, .v .str], [.f K0]⟩, Z2 Pia.f⟩ := Yq 8 Yv (.n (.n .l)) Tryz.func221 (Yc Pal.ok Yn)
section
open Go.Proofs Go.Shelf Go.RowKit Go.Lib
theorem Hand.infoLink : ∃ i : TypeInfo, Tryz.prog.info? 114 = some i ∧ i.size = 2 ∧ i.bytes = 24 ∧ ∃ z, i.zero = some z ∧ z.cells.size = 2 := by
 have h : (Tryz.prog.info? 114).map (fun i => (i.zero, i.size, i.bytes)) = some (some (.agg #[.string ⟨#[]⟩, .int .i64 0]), 2, 24) := by kernel_rfl
 cases hq : Tryz.prog.info? 114 with
 | none => rw [hq] at h; cases h
 | some i =>
  rw [hq] at h
  simp only [Option.map_some, Zj, Prod.mk.injEq] at h
  exact ⟨i, rfl, h.2.1, h.2.2, _, h.1, rfl⟩
theorem Hand.zeroLink : ∃ z : Value, (∀ w, (zeroValue 114).run Tryz.prog w = .ok z w) ∧ z.cells.size = 2 ∧ ∀ n, ∀ v ∈ (Builtin.zeroCells z.cells n).toList, v.oneCell' = true := by
 refine ⟨_, Tryz.zeroValue114, rfl, fun n v hv => ?_⟩
 simp only [Builtin.zeroCells] at hv
 obtain ⟨j, hj, rfl⟩ := List.getElem_of_mem hv
 simp [Value.cells]
 have : j % 2 = 0 ∨ j % 2 = 1 := by omega
 rcases this with h | h <;> rw [h] <;> rfl
end
def Pot (x : T4) : List Value := [.string x.1, .int .i64 x.2]
theorem Pmm (x : T4) : (Pot x).length = 2 := rfl
theorem Pws {w : World} {S : Nat → Prop} (x : T4) : RdT w S K6 x (Pot x) := by unfold Pot; exact ⟨[_], [_], rfl, rfl, rfl⟩
section
open Go.Proofs Go.Shelf Go.RowKit Go.Lib
set_option maxHeartbeats 4000000 in
set_option maxRecDepth 100000 in
theorem Hand.ins_shift_Link (w : World) (b off n c i vb voff vc : Nat) (cur curv : Array Value) (X V : List Value) (hb : w.heap[b]? = some (.cells cur 114 (0, 0))) (hv : w.heap[vb]? = some (.cells curv 114 (0, 0))) (hne : vb ≠ b)
  (hi : i < n) (hroom : n + 1 ≤ c) (hbig : (n + 1) * 24 ≤ 140737488355328) (hfit : off + c * 2 ≤ cur.size) (hfv : voff + vc * 2 ≤ curv.size) (h1c : 1 ≤ vc)
  (hXl : X.length = n * 2) (hX : ∀ (j : Nat) (v : Value), X[j]? = some v → cur[off + j]? = some v) (h1X : ∀ v ∈ X, v.oneCell' = true)
  (hVl : V.length = 2) (hV : ∀ (j : Nat) (v : Value), V[j]? = some v → curv[voff + j]? = some v) (h1V : ∀ v ∈ V, v.oneCell' = true) :
  Calls Tryz.prog 296 #[.slice (some ⟨b, off, none⟩) n c, .int .i64 i, .slice (some ⟨vb, voff, none⟩) 1 vc] w (Qhs 114 2 w (some b) (X.take (i * 2) ++ V ++ X.drop (i * 2)) (n + 1)) := by
 have hz2 : ¬ ((i : Int) = (n : Int)) := by omega
 have hov : ∀ lb cb, (callFunc 307 #[.slice (some ⟨vb, voff, none⟩) 1 vc, .slice (some ⟨b, off + (i + 1) * 2, none⟩) lb cb]).run Tryz.prog w = .ok (.value (.bool false)) w := fun lb cb => by
  rw [run_callFunc_extern Tryz.func307 (by kernel_rfl) (by kernel_rfl) (by kernel_rfl) (e := Extern.SlicesOverlaps.overlaps #[50, 50] #[4]) (by kernel_rfl),
   Lib.run_overlaps_apart w 50 4 114 Tryz.underlying50 2 Tryz.sizeOf114 ⟨vb, voff, none⟩ ⟨b, off + (i + 1) * 2, none⟩ 1 vc lb cb hne 114 114 curv.size cur.size (by simp [World.shape?, hv]) (by simp [World.shape?, hb]) (by omega) (by simp [World.frozen?, hv]) (by simp [World.frozen?, hv])]
  rfl
 have hw1 : IntKind.i64.wrap ((i : Int) + 1) = (i : Int) + 1 := by rw [IntKind.wrap_i64]; omega
 have hw2 : IntKind.i64.wrap ((n : Int) + 1) = (n : Int) + 1 := by rw [IntKind.wrap_i64]; omega
 have hb1 : (0 : Int) ≤ (i : Int) + 1 := by omega
 have hin : i ≤ n := by omega
 have htn : ((i : Int) + 1).toNat = i + 1 := by omega
 have htn2 : ((n : Int) + 1).toNat = n + 1 := by omega
 have hb2 : ¬ (c = i + 1) := by omega
 have hb3 : (i : Int) ≤ (n : Int) + 1 := by omega
 have hb4 : ¬ (c = i) := by omega
 have hb5 : ¬ ((c : Int) < (n : Int) + 1) := by omega
 have hsz : (Tryz.prog.info? 114).map (·.size) = some 2 := by kernel_rfl
 have hdl : (X.drop (i * 2)).length = (n - i) * 2 := by rw [List.length_drop, hXl, Nat.sub_mul]
 obtain ⟨A, hA⟩ : ∃ A : Array Value, A = (cur.toList.take (off + (i + 1) * 2) ++ X.drop (i * 2) ++ cur.toList.drop (off + (i + 1) * 2 + (X.drop (i * 2)).length)).toArray := ⟨_, rfl⟩
 have hcp1 : ∀ ty dc sc, (Builtin.copy_ #[50, 50] ty #[.slice (some ⟨b, off + (i + 1) * 2, none⟩) (n - i) dc, .slice (some ⟨b, off + i * 2, none⟩) (n + 1 - i) sc]).run Tryz.prog w.drew = .ok (goInt ((n - i : Nat) : Int)) (w.drew.setRow b A) := fun ty dc sc => by
  rw [hA]
  exact Qqs w.drew 50 50 ty 114 b (off + (i + 1) * 2) (n - i) dc ⟨b, off + i * 2, none⟩ (n + 1 - i) sc cur 114 (X.drop (i * 2)) 2 Tryz.underlying50 hsz hb (n - i) (by simp only [Nat.min_def]; split <;> omega) hdl
   (fun j v hj => by
    rw [List.getElem?_drop] at hj
    show w.cell? _ = _
    rw [Addr.add_lit, cell_of_row w b _ cur 114 (0, 0) hb, show off + i * 2 + j = off + (i * 2 + j) by omega]
    exact hX _ v hj) (by rw [hdl]; omega) (fun v hv => h1X v (List.mem_of_mem_drop hv))
 have hAl : A.toList = cur.toList.take (off + (i + 1) * 2) ++ X.drop (i * 2) ++ cur.toList.drop (off + (i + 1) * 2 + (X.drop (i * 2)).length) := by rw [hA]
 have hAs : A.size = cur.size := by rw [hA]; simp only [List.size_toArray, List.length_append, List.length_take, List.length_drop, Array.length_toList, hXl]; omega
 obtain ⟨B, hB⟩ : ∃ B : Array Value, B = (A.toList.take (off + i * 2) ++ V ++ A.toList.drop (off + i * 2 + V.length)).toArray := ⟨_, rfl⟩
 have hBl : B.toList = A.toList.take (off + i * 2) ++ V ++ A.toList.drop (off + i * 2 + V.length) := by rw [hB]
 have hBs : B.size = A.size := by rw [hB]; simp only [List.size_toArray, List.length_append, List.length_take, List.length_drop, Array.length_toList, hVl]; omega
 have hgA : (w.drew.setRow b A).heap[b]? = some (.cells A 114 (0, 0)) := setRow_heap w.drew b cur A 114 (0, 0) hb
 have hgv : (w.drew.setRow b A).heap[vb]? = some (.cells curv 114 (0, 0)) := (setRow_other w.drew b _ _ hne).trans hv
 have hcp2 : ∀ (W : World), W.heap = (w.drew.setRow b A).heap → ∀ ty dc, (Builtin.copy_ #[50, 50] ty #[.slice (some ⟨b, off + i * 2, none⟩) (n + 1 - i) dc, .slice (some ⟨vb, voff, none⟩) 1 vc]).run Tryz.prog W = .ok (goInt ((1 : Nat) : Int)) (W.setRow b B) := fun W hW ty dc => by
  rw [hB]
  exact Qqs W 50 50 ty 114 b (off + i * 2) (n + 1 - i) dc ⟨vb, voff, none⟩ 1 vc A 114 V 2 Tryz.underlying50 hsz (by rw [hW]; exact hgA) 1 (by simp only [Nat.min_def]; split <;> omega) hVl
   (fun j v hj => by
    rw [Addr.add_lit, cell_of_row W vb _ curv 114 (0, 0) (by rw [hW]; exact hgv)]
    exact hV _ v hj) (by rw [hVl, hAs]; omega) h1V
 have hfin : ∀ (j : Nat) (v : Value), (X.take (i * 2) ++ V ++ X.drop (i * 2))[j]? = some v → B[off + j]? = some v := by
  intro j v hj
  rw [← Array.getElem?_toList, hBl, Qke A.toList V (off + i * 2) (off + j) (by simp; omega), hVl]
  have hXt : (X.take (i * 2)).length = i * 2 := by rw [List.length_take, hXl]; omega
  by_cases c1 : j < i * 2
  ·rw [if_pos (by omega), hAl, Qke cur.toList (X.drop (i * 2)) (off + (i + 1) * 2) (off + j) (by rw [hdl]; simp; omega), if_pos (by omega)]
   rw [List.append_assoc, List.getElem?_append_left (by omega), List.getElem?_take, if_pos c1] at hj
   simpa using hX j v hj
  ·rw [if_neg (by omega)]
   rw [List.append_assoc, List.getElem?_append_right (by omega), hXt] at hj
   by_cases c2 : j < i * 2 + 2
   ·rw [if_pos (by omega)]
    rw [List.getElem?_append_left (by omega)] at hj
    rw [show off + j - (off + i * 2) = j - i * 2 by omega]; exact hj
   ·rw [if_neg (by omega), hAl, Qke cur.toList (X.drop (i * 2)) (off + (i + 1) * 2) (off + j) (by rw [hdl]; simp; omega), if_neg (by omega)]
    rw [List.getElem?_append_right (by omega), hVl] at hj
    have hlt := (List.getElem?_eq_some_iff.1 hj).1
    rw [if_pos (by omega), show off + j - (off + (i + 1) * 2) = j - i * 2 - 2 by omega]; exact hj
 have F : Aside ((w.drew.setRow b A).heap[b]? = some (.cells A 114 (0, 0)) ∧ off + c * 2 ≤ B.size ∧ ∀ (j : Nat) (v : Value), (X.take (i * 2) ++ V ++ X.drop (i * 2))[j]? = some v → B[off + j]? = some v) := ⟨hgA, by omega, hfin⟩
 clear hA hB hAl hBl hAs hBs hfin hgA hgv hX hV hdl hb hv
 have mixed : Tryz.prog.follows .mixedOrders = true := by kernel_rfl
 go_enter Tryz.func296, Tryz.ntmps296
 go_wp2_with (simp only [hov])
 go_region_law_o (refine step_copy_runI rfl _ _ 50 50 rfl _ _ (by simp [Act.eval, Act.put]) (by simp [Act.eval, Act.put]) (hcp1 _ _ _) ?_)
 go_wp2_with (at_builtin; refine wpList_copy_runI _ rfl _ _ 50 50 rfl _ _ rfl rfl (hcp2 _ rfl _ _) ?_)
 go_ret
 refine ⟨b, off, c, B, rfl, hroom, setRow_heap _ b A B 114 (0, 0) F.out.1, F.out.2.1, by simpa [List.append_assoc] using F.out.2.2, ⟨rfl, rfl, rfl, rfl, by simp [size_setRow], fun k hk hm => ?_⟩, .inl rfl⟩
 rw [setRow_other _ b _ _ (fun e => hm (by rw [e])), setRow_other _ b _ _ (fun e => hm (by rw [e]))]
 rfl
set_option maxHeartbeats 4000000 in
set_option maxRecDepth 100000 in
theorem Hand.ins_end_Link (w : World) (b : Option Addr) (n c vb voff vc : Nat) (curv : Array Value) (X V : List Value) (hb : ∀ ad, b = some ad → ad.spot = none ∧ ∃ cur, w.heap[ad.block]? = some (.cells cur 114 (0, 0)) ∧ ad.off + c * 2 ≤ cur.size ∧ ∀ (j : Nat) (v : Value), X[j]? = some v → cur[ad.off + j]? = some v)
  (hnil : b = none → n = 0 ∧ c = 0) (hv : w.heap[vb]? = some (.cells curv 114 (0, 0))) (hnc : n ≤ c) (hbig : (n + 1) * 24 ≤ 140737488355328) (hfv : voff + vc * 2 ≤ curv.size) (h1c : 1 ≤ vc)
  (hXl : X.length = n * 2) (h1X : ∀ v ∈ X, v.oneCell' = true)
  (hVl : V.length = 2) (hV : ∀ (j : Nat) (v : Value), V[j]? = some v → curv[voff + j]? = some v) (h1V : ∀ v ∈ V, v.oneCell' = true) :
  Calls Tryz.prog 296 #[.slice b n c, .int .i64 n, .slice (some ⟨vb, voff, none⟩) 1 vc] w (Qhs 114 2 w (b.map (·.block)) (X ++ V) (n + 1)) := by
 obtain ⟨i0, hi0, hz0, hbt, z, hz, hzs⟩ := Hand.infoLink
 have hVc : ∀ j u, V[j]? = some u → w.cell? ((⟨vb, voff, none⟩ : Addr).add j) = some u := fun j u hj => by
  rw [Addr.add_lit, cell_of_row w vb _ curv 114 (0, 0) hv]; exact hV j u hj
 -- what the append does
 obtain ⟨val, w1, hrun, hpost⟩ : ∃ val w1, (∀ ty, (Builtin.append_ #[50, 50] ty #[.slice b n c, .slice (some ⟨vb, voff, none⟩) 1 vc]).run Tryz.prog w = .ok val w1) ∧ Qhs 114 2 w (b.map (·.block)) (X ++ V) (n + 1) (.returned val) w1 := by
  cases b with
  | none =>
   obtain ⟨rfl, rfl⟩ := hnil rfl
   obtain rfl : X = [] := List.eq_nil_of_length_eq_zero (by simpa using hXl)
   refine ⟨_, _, fun ty => run_append_nil w 50 ty 114 i0 z Tryz.underlying50 hi0 hz ⟨vb, voff, none⟩ 1 vc V (by rw [hVl, hz0]) hVc (by omega) (by omega) (by rw [hbt]; omega), ?_⟩
   refine Qhs.new (pad := (Builtin.zeroCells z.cells (grownCap w 1 0 114 - 1)).toList) (by congr 2; apply Array.toList_inj.1; simp) (grownCap_ge w 1 0 114) ?_
   have hge := grownCap_ge w 1 0 114
   simp only [List.nil_append, hVl, Array.length_toList, size_zeroCells, hzs]
   omega
  | some ad =>
   obtain ⟨hsp, cur, hcur, hfit, hX⟩ := hb ad rfl
   obtain ⟨ab, ao, asp⟩ := ad
   simp only at hsp hcur hfit hX
   subst hsp
   by_cases hroom : n + 1 ≤ c
   ·refine ⟨_, _, fun ty => Qhm w 50 ty 114 i0 Tryz.underlying50 hi0 ab ao n c cur hcur ⟨vb, voff, none⟩ 1 vc V (by rw [hVl, hz0]) hVc h1V hroom (by rw [hz0, hVl]; omega), ?_⟩
    rw [hz0]
    refine ⟨ab, ao, c, _, rfl, hroom, setRow_heap w ab cur _ 114 (0, 0) hcur, ?_, fun j v hj => ?_, ⟨rfl, rfl, rfl, rfl, by simp [size_setRow], fun k hk hm => setRow_other w ab k _ (fun e => hm (by simp [e]))⟩, .inl rfl⟩
    ·simp only [List.size_toArray, List.length_append, List.length_take, List.length_drop, Array.length_toList, hVl]; omega
    ·simp only [List.getElem?_toArray]
     rw [Qke cur.toList V (ao + n * 2) (ao + j) (by simp [hVl]; omega), hVl]
     by_cases c1 : j < n * 2
     ·rw [if_pos (by omega)]
      rw [List.getElem?_append_left (by omega)] at hj
      simpa using hX j v hj
     ·rw [if_neg (by omega)]
      rw [List.getElem?_append_right (by omega), hXl] at hj
      have hlt := (List.getElem?_eq_some_iff.1 hj).1
      rw [if_pos (by omega), show ao + j - (ao + n * 2) = j - n * 2 by omega]; exact hj
   ·refine ⟨_, _, fun ty => run_append_grow w 50 ty 114 i0 z Tryz.underlying50 hi0 hz ⟨ab, ao, none⟩ n c X (by rw [hXl, hz0]) (fun j u hj => by rw [Addr.add_lit, cell_of_row w ab _ cur 114 (0, 0) hcur]; exact hX j u hj) ⟨vb, voff, none⟩ 1 vc V (by rw [hVl, hz0]) hVc (by omega) (by omega) (by rw [hbt]; exact growslice_fits (by omega) hbig), ?_⟩
    have hge := grownCap_ge w (n + 1) c 114
    refine Qhs.new (pad := (Builtin.zeroCells z.cells (grownCap w (n + 1) c 114 - (n + 1))).toList) (by congr 2; apply Array.toList_inj.1; simp) hge ?_
    simp only [List.length_append, hXl, hVl, Array.length_toList, size_zeroCells, hzs]
    omega
 have P := hpost
 clear hpost hb hVc hV h1X h1V
 have F : Aside (Qhs 114 2 w (b.map (·.block)) (X ++ V) (n + 1) (.returned val) w1) := P
 clear P
 have mixed : Tryz.prog.follows .mixedOrders = true := by kernel_rfl
 go_enter Tryz.func296, Tryz.ntmps296
 cases b with
 | none =>
  obtain ⟨rfl, rfl⟩ := hnil rfl
  go_wp2_with (at_builtin; refine Lib.wpList_append_run _ rfl _ _ _ _ rfl _ _ rfl rfl _ _ (hrun _) ?_)
  go_ret
  exact F.out
 | some a =>
  obtain ⟨ab, ao, asp⟩ := a
  go_wp2_with (at_builtin; refine Lib.wpList_append_run _ rfl _ _ _ _ rfl _ _ rfl rfl _ _ (hrun _) ?_)
  all_goals (go_ret; exact F.out)
set_option maxHeartbeats 4000000 in
set_option maxRecDepth 100000 in
theorem Hand.ins_grow_Link (w : World) (b off n c i vb voff vc : Nat) (cur curv : Array Value) (X V : List Value) (hb : w.heap[b]? = some (.cells cur 114 (0, 0))) (hv : w.heap[vb]? = some (.cells curv 114 (0, 0)))
  (hi : i < n) (hnc : n ≤ c) (hroom : c < n + 1) (hbig : (n + 1) * 24 ≤ 140737488355328) (hfit : off + c * 2 ≤ cur.size) (hfv : voff + vc * 2 ≤ curv.size) (h1c : 1 ≤ vc)
  (hXl : X.length = n * 2) (hX : ∀ (j : Nat) (v : Value), X[j]? = some v → cur[off + j]? = some v) (h1X : ∀ v ∈ X, v.oneCell' = true)
  (hVl : V.length = 2) (hV : ∀ (j : Nat) (v : Value), V[j]? = some v → curv[voff + j]? = some v) (h1V : ∀ v ∈ V, v.oneCell' = true) :
  Calls Tryz.prog 296 #[.slice (some ⟨b, off, none⟩) n c, .int .i64 i, .slice (some ⟨vb, voff, none⟩) 1 vc] w (Qhs 114 2 w (some b) (X.take (i * 2) ++ V ++ X.drop (i * 2)) (n + 1)) := by
 obtain ⟨i0, hi0, hz0, hbt, z, hz, hzs⟩ := Hand.infoLink
 have hz2 : ¬ ((i : Int) = (n : Int)) := by omega
 have hz3 : (c : Int) < (n : Int) + 1 := by omega
 have hsz : (Tryz.prog.info? 114).map (·.size) = some 2 := by kernel_rfl
 have hbw : b < w.heap.size := (Array.getElem?_eq_some_iff.1 hb).1
 have hvw : vb < w.heap.size := (Array.getElem?_eq_some_iff.1 hv).1
 have hkk : (n : Int) + 1 - (i : Int) = ((n + 1 - i : Nat) : Int) := by omega
 have hik : i + (n + 1 - i) = n + 1 := by omega
 have hXt : (X.take (i * 2)).length = i * 2 := by rw [List.length_take, hXl]; omega
 have hold : (Builtin.firstCells i0.size i (.slice (some ⟨b, off, none⟩) i c)).run Tryz.prog w.drew = .ok (X.take (i * 2)).toArray w.drew := by
  rw [hz0]
  exact run_firstCells_some w.drew 2 i ⟨b, off, none⟩ i c (X.take (i * 2)) hXt (fun j v hj => by
   rw [List.getElem?_take] at hj
   split at hj
   ·show w.cell? _ = _
    rw [Addr.add_lit, cell_of_row w b _ cur 114 (0, 0) hb]; exact hX j v hj
   ·cases hj)
 obtain ⟨G, hG⟩ : ∃ G, G = grownCap w (n + 1) c 114 := ⟨_, rfl⟩
 obtain ⟨ROW, hROW⟩ : ∃ ROW : Array Value, ROW = (X.take (i * 2)).toArray ++ Builtin.zeroCells z.cells (n + 1 - i) ++ Builtin.zeroCells z.cells (G - (n + 1)) := ⟨_, rfl⟩
 have hGn : n + 1 ≤ G := by rw [hG]; exact grownCap_ge w _ _ _
 have hG63 : G ≤ 9223372036854775807 := by
  have := grownCap_le_maxLen w (n + 1) c 114 (by unfold maxLen; omega)
  rw [← hG] at this
  unfold maxLen at this
  omega
 have hRs : ROW.size = G * 2 := by
  rw [hROW]; simp only [Array.size_append, size_zeroCells, hzs, List.size_toArray, hXt]; omega
 have hrz : ∀ ty, (Builtin.append_ #[50, 3] ty #[.slice (some ⟨b, off, none⟩) i c, .int .i64 ((n : Int) + 1 - (i : Int))]).run Tryz.prog w =
   .ok (.slice (some ⟨w.heap.size, 0, none⟩) (n + 1) G) (w.drew.alloc (.cells ROW 114)) := fun ty => by
  have h := Lib.run_append_grow_zeros w 50 3 ty 114 i0 z .i64 .i64 Tryz.underlying50 Tryz.underlying3 hi0 hz (some ⟨b, off, none⟩) i c (X.take (i * 2)) hold (n + 1 - i) (by omega) (by omega) (by omega) (by omega) (by rw [hbt]; omega) (by rw [hbt, hik]; exact growslice_fits hroom hbig)
  rw [hik] at h
  rw [hkk, hROW, hG]
  exact h
 have hgR : (w.drew.alloc (.cells ROW 114)).heap[w.heap.size]? = some (.cells ROW 114 (0, 0)) := by show (w.heap.push _)[w.heap.size]? = _; simp
 have hgo : ∀ k, k < w.heap.size → (w.drew.alloc (.cells ROW 114)).heap[k]? = w.heap[k]? := fun k hk => by
  show (w.heap.push _)[k]? = _
  simp [Array.getElem?_push, Nat.ne_of_lt hk]
 obtain ⟨A, hA⟩ : ∃ A : Array Value, A = (ROW.toList.take (i * 2) ++ V ++ ROW.toList.drop (i * 2 + V.length)).toArray := ⟨_, rfl⟩
 have hAl : A.toList = ROW.toList.take (i * 2) ++ V ++ ROW.toList.drop (i * 2 + V.length) := by rw [hA]
 have hAs : A.size = ROW.size := by rw [hA]; simp only [List.size_toArray, List.length_append, List.length_take, List.length_drop, Array.length_toList, hVl]; omega
 have hcpA : ∀ (W : World), W.heap = (w.drew.alloc (.cells ROW 114)).heap → ∀ ty dc, (Builtin.copy_ #[50, 50] ty #[.slice (some ⟨w.heap.size, i * 2, none⟩) (n + 1 - i) dc, .slice (some ⟨vb, voff, none⟩) 1 vc]).run Tryz.prog W = .ok (goInt ((1 : Nat) : Int)) (W.setRow w.heap.size A) := fun W hW ty dc => by
  rw [hA]
  exact Qqs W 50 50 ty 114 w.heap.size (i * 2) (n + 1 - i) dc ⟨vb, voff, none⟩ 1 vc ROW 114 V 2 Tryz.underlying50 hsz (by rw [hW]; exact hgR) 1 (by simp only [Nat.min_def]; split <;> omega) hVl
   (fun j v hj => by
    rw [Addr.add_lit, cell_of_row W vb _ curv 114 (0, 0) (by rw [hW, hgo vb hvw]; exact hv)]
    exact hV _ v hj) (by rw [hVl, hRs]; omega) h1V
 have hgA : ((w.drew.alloc (.cells ROW 114)).setRow w.heap.size A).heap[w.heap.size]? = some (.cells A 114 (0, 0)) := setRow_heap _ _ ROW A 114 (0, 0) hgR
 have hgAo : ∀ k, k < w.heap.size → ((w.drew.alloc (.cells ROW 114)).setRow w.heap.size A).heap[k]? = w.heap[k]? := fun k hk => (setRow_other _ _ _ _ (Nat.ne_of_lt hk)).trans (hgo k hk)
 have hdl : (X.drop (i * 2)).length = (n - i) * 2 := by rw [List.length_drop, hXl, Nat.sub_mul]
 obtain ⟨B, hB⟩ : ∃ B : Array Value, B = (A.toList.take ((i + 1) * 2) ++ X.drop (i * 2) ++ A.toList.drop ((i + 1) * 2 + (X.drop (i * 2)).length)).toArray := ⟨_, rfl⟩
 have hBl : B.toList = A.toList.take ((i + 1) * 2) ++ X.drop (i * 2) ++ A.toList.drop ((i + 1) * 2 + (X.drop (i * 2)).length) := by rw [hB]
 have hBs : B.size = A.size := by rw [hB]; simp only [List.size_toArray, List.length_append, List.length_take, List.length_drop, Array.length_toList, hXl]; omega
 have hcpB : ∀ (W : World), W.heap = ((w.drew.alloc (.cells ROW 114)).setRow w.heap.size A).heap → ∀ ty dc sc, (Builtin.copy_ #[50, 50] ty #[.slice (some ⟨w.heap.size, (i + 1) * 2, none⟩) (n - i) dc, .slice (some ⟨b, off + i * 2, none⟩) (n - i) sc]).run Tryz.prog W = .ok (goInt ((n - i : Nat) : Int)) (W.setRow w.heap.size B) := fun W hW ty dc sc => by
  rw [hB]
  exact Qqs W 50 50 ty 114 w.heap.size ((i + 1) * 2) (n - i) dc ⟨b, off + i * 2, none⟩ (n - i) sc A 114 (X.drop (i * 2)) 2 Tryz.underlying50 hsz (by rw [hW]; exact hgA) (n - i) (by simp only [Nat.min_def]; split <;> omega) hdl
   (fun j v hj => by
    rw [List.getElem?_drop] at hj
    rw [Addr.add_lit, cell_of_row W b _ cur 114 (0, 0) (by rw [hW, hgAo b hbw]; exact hb), show off + i * 2 + j = off + (i * 2 + j) by omega]
    exact hX _ v hj) (by rw [hdl, hAs, hRs]; omega) (fun v hv => h1X v (List.mem_of_mem_drop hv))
 have hfin : ∀ (j : Nat) (v : Value), (X.take (i * 2) ++ V ++ X.drop (i * 2))[j]? = some v → B[0 + j]? = some v := by
  intro j v hj
  have hAsz : A.toList.length = G * 2 := by rw [Array.length_toList, hAs, hRs]
  have hRsz : ROW.toList.length = G * 2 := by rw [Array.length_toList, hRs]
  rw [Nat.zero_add, ← Array.getElem?_toList, hBl, Qke A.toList (X.drop (i * 2)) ((i + 1) * 2) j (by rw [hdl]; omega), hdl]
  by_cases c1 : j < i * 2
  ·rw [if_pos (by omega), hAl, Qke ROW.toList V (i * 2) j (by omega), if_pos (by omega)]
   rw [List.append_assoc, List.getElem?_append_left (by omega)] at hj
   rw [Array.getElem?_toList, hROW, Array.append_assoc, Array.getElem?_append_left (by simp [hXt]; omega)]
   simpa using hj
  ·rw [List.append_assoc, List.getElem?_append_right (by omega), hXt] at hj
   by_cases c2 : j < i * 2 + 2
   ·rw [if_pos (by omega), hAl, Qke ROW.toList V (i * 2) j (by omega), if_neg (by omega), if_pos (by omega)]
    rw [List.getElem?_append_left (by omega)] at hj
    exact hj
   ·rw [List.getElem?_append_right (by omega), hVl] at hj
    have hlt := (List.getElem?_eq_some_iff.1 hj).1
    rw [if_neg (by omega), if_pos (by omega), show j - (i + 1) * 2 = j - i * 2 - 2 by omega]; exact hj
 have F : Aside (((w.drew.alloc (.cells ROW 114)).setRow w.heap.size A).heap[w.heap.size]? = some (.cells A 114 (0, 0)) ∧ 0 + G * 2 ≤ B.size ∧ (∀ (j : Nat) (v : Value), (X.take (i * 2) ++ V ++ X.drop (i * 2))[j]? = some v → B[0 + j]? = some v) ∧ ∀ k, k < w.heap.size → ((w.drew.alloc (.cells ROW 114)).setRow w.heap.size A).heap[k]? = w.heap[k]?) := ⟨hgA, by omega, hfin, hgAo⟩
 have hGi : ¬ (G = i) := by omega
 have hGim : ¬ (G = i + 1) := by omega
 have hci : ¬ (c = i) := by omega
 have hw1 : IntKind.i64.wrap ((i : Int) + 1) = (i : Int) + 1 := by rw [IntKind.wrap_i64]; omega
 have hw2 : IntKind.i64.wrap ((n : Int) + 1) = (n : Int) + 1 := by rw [IntKind.wrap_i64]; omega
 have hw3 : IntKind.i64.wrap ((n : Int) + 1 - (i : Int)) = (n : Int) + 1 - (i : Int) := by rw [IntKind.wrap_i64]; omega
 have hb1 : (0 : Int) ≤ (i : Int) + 1 := by omega
 have hin : i ≤ n := by omega
 have htn : ((i : Int) + 1).toNat = i + 1 := by omega
 have hb3 : (i : Int) ≤ (n : Int) := by omega
 clear hkk hik hold hROW hG hRs hgR hgo hA hAl hAs hgA hgAo hB hBl hBs hfin hdl hX hV hb hv
 have hcpA' : ∀ ty dc, (Builtin.copy_ #[50, 50] ty #[.slice (some ⟨w.heap.size, i * 2, none⟩) (n + 1 - i) dc, .slice (some ⟨vb, voff, none⟩) 1 vc]).run Tryz.prog ((w.alloc (.cells ROW 114)).drew) = .ok (goInt ((1 : Nat) : Int)) (((w.alloc (.cells ROW 114)).drew).setRow w.heap.size A) := fun ty dc => hcpA _ rfl ty dc
 clear hcpA
 have mixed : Tryz.prog.follows .mixedOrders = true := by kernel_rfl
 go_enter Tryz.func296, Tryz.ntmps296
 go_wp2_with (at_builtin; refine Lib.wpList_append_run _ rfl _ _ _ _ rfl _ _ rfl rfl _ _ (hrz _) ?_)
 go_region_law_o (refine step_copy_runI rfl _ _ 50 50 rfl (.slice (some ⟨w.heap.size, (i + 1) * 2, none⟩) (n - i) (G - (i + 1))) (.slice (some ⟨b, off + i * 2, none⟩) (n - i) (c - i)) (by simp [Act.eval, Act.put]) (by simp [Act.eval, Act.put]) (hcpB _ (by rfl) 3 (G - (i + 1)) (c - i)) ?_)
 go_wp2
 go_ret
 refine ⟨w.heap.size, 0, G, B, rfl, hGn, setRow_heap _ _ A B 114 (0, 0) F.out.1, F.out.2.1, by simpa [List.append_assoc] using F.out.2.2.1, ⟨rfl, rfl, rfl, rfl, ?_, fun k hk hm => ?_⟩, .inr (Nat.le_refl _)⟩
 ·rw [size_setRow]
  show w.heap.size ≤ (((w.alloc (.cells ROW 114)).drew.setRow w.heap.size A)).heap.size
  rw [size_setRow]
  show w.heap.size ≤ (w.heap.push _).size
  simp
 ·rw [setRow_other _ _ _ _ (Nat.ne_of_lt hk)]
  exact F.out.2.2.2 k hk
end
def Pcs.f (k : Nat) (a0 : List T4) (a1 : Int) (a2 : List T4) : Option (List T4) := insF 24 a0 a1 a2
def Pcs.sig : Sig := ⟨[.give false K12, .val false K0, .give false K12], [⟨false, K12, true⟩]⟩
def Pcs.fn : Fn := ⟨Pcs.sig, fun k (x : List T4 × T84) => Pcs.f k x.1 x.2.1 x.2.2⟩
theorem Pcs.ok (k : Nat) : FnOk Tryz.prog k 296 Pcs.fn := by
 refine ⟨Qqo Tryz.func296 (by kernel_rfl) (by kernel_rfl), ?_⟩
 intro w S vs vss rows (x : List (K6 : CK).T × Int × List (K6 : CK).T) (r : List (K6 : CK).T) hsem hargs hparts hS hbn hbn2 hbS hnd hrows hgl
 obtain ⟨xs, i, ys⟩ := x
 change Pcs.f k xs i ys = some r at hsem
 unfold Pcs.f insF at hsem
 split at hsem
 case isFalse => cases hsem
 rename_i hc
 obtain ⟨hy1, hi0, hin, hbig⟩ : ys.length = 1 ∧ 0 ≤ i ∧ i ≤ xs.length ∧ (xs.length + 1) * 24 ≤ 140737488355328 := hc
 have hsem : xs.take i.toNat ++ ys ++ xs.drop i.toNat = r := Option.some.inj hsem
 obtain ⟨n, rfl⟩ : ∃ n : Nat, i = n := ⟨i.toNat, by omega⟩
 have hsem : xs.take n ++ ys ++ xs.drop n = r := hsem
 have hin : n ≤ xs.length := by exact_mod_cast hin
 have hal := hargs.length
 obtain ⟨v0, v1, v2, rfl⟩ := list3 hal.1
 obtain ⟨l0, l1, l2, rfl⟩ := list3 hal.2
 ·obtain ⟨ha0, ha1, ha2, _⟩ := hargs
  simp only [Bool.false_eq_true, if_false] at ha0 ha1 ha2
  subst ha0; subst ha1; subst ha2
  obtain ⟨q0, qs, r1, r2, he, rfl, hp0, hp⟩ := hparts
  simp only [List.cons.injEq] at he
  obtain ⟨rfl, rfl⟩ := he
  obtain ⟨q1, qs, r3, r4, he, rfl, hp1, hp2⟩ := hp
  simp only [List.cons.injEq] at he
  obtain ⟨rfl, rfl⟩ := he
  obtain ⟨q2, he, hp2⟩ := hp2
  simp only [List.cons.injEq, and_true] at he
  subst he
  have hp0 : OwnT w S K12 xs [v0] r1 := hp0
  have hp2 : OwnT w S K12 ys [v2] r4 := hp2
  obtain ⟨hp1, rfl⟩ : RdT w S K0 (n : Int) [v1] ∧ r3 = [] := hp1
  have hv1 : v1 = .int .i64 n := by simpa [RdT] using hp1
  subst hv1
  obtain ⟨a, cap, X, hl, rfl, hcap, hnil, hXl, hX, hblk⟩ := Qrc hp0 (by decide)
  simp only [List.cons.injEq, and_true] at hl
  subst hl
  obtain ⟨a2, cap2, V, hl, rfl, hcap2, hnil2, hVl, hV, hblk2⟩ := Qrc hp2 (by decide)
  simp only [List.cons.injEq, and_true] at hl
  subst hl
  rw [hy1] at hcap2 hVl
  cases a2 with
  | none => obtain ⟨rfl, _⟩ := hnil2 rfl; simp at hy1
  | some ad2 =>
   obtain ⟨vb, voff, vsp⟩ := ad2
   obtain ⟨hsp2, curv, hcurv, hfit2, hVc⟩ := hblk2 _ rfl
   simp only at hsp2 hcurv hfit2 hVc
   subst hsp2
   rw [hy1]
   have h1X := hX.one (by decide : 0 < (K6 : CK).size) (by decide)
   have h1V := hV.one (by decide : 0 < (K6 : CK).size) (by decide)
   have key : Calls Tryz.prog 296 #[.slice a xs.length cap, .int .i64 n, .slice (some ⟨vb, voff, none⟩) 1 cap2] w (Qhs 114 2 w (a.map (·.block)) (X.take (n * 2) ++ V ++ X.drop (n * 2)) (xs.length + 1)) := by
    by_cases hend : n = xs.length
    ·subst hend
     have hXl' : X.length = xs.length * 2 := hXl
     rw [← hXl', List.take_length, List.drop_length, List.append_nil]
     exact Hand.ins_end_Link w a xs.length cap vb voff cap2 curv X V hblk (fun h => by obtain ⟨rfl, h⟩ := hnil h; exact ⟨rfl, h⟩) hcurv hcap hbig hfit2 (by omega) hXl h1X hVl hVc h1V
    ·cases a with
     | none => obtain ⟨rfl, _⟩ := hnil rfl; simp at hin hend; omega
     | some ad =>
      obtain ⟨ab, ao, asp⟩ := ad
      obtain ⟨hsp, cur, hcur, hfit, hXc⟩ := hblk _ rfl
      simp only at hsp hcur hfit hXc
      subst hsp
      have hne : vb ≠ ab := by
       simp only [Blks, Option.map_some, List.cons_append, List.nil_append, List.filterMap_cons, List.filterMap_nil, List.nodup_cons, List.mem_singleton] at hnd
       exact fun h => hnd.1 h.symm
      by_cases hroom : xs.length + 1 ≤ cap
      ·exact Hand.ins_shift_Link w ab ao xs.length cap n vb voff cap2 cur curv X V hcur hcurv hne (by omega) hroom hbig hfit hfit2 (by omega) hXl hXc h1X hVl hVc h1V
      ·exact Hand.ins_grow_Link w ab ao xs.length cap n vb voff cap2 cur curv X V hcur hcurv (by omega) hcap (by omega) hbig hfit hfit2 (by omega) hXl hXc h1X hVl hVc h1V
   refine key.mono ?_
   intro en w' hpost
   have hflat : FlatR (RdT w S K6) (K6 : CK).size r (X.take (n * 2) ++ V ++ X.drop (n * 2)) := by
    rw [← hsem]
    exact ((hX.take n).append hV).append (hX.drop n hin)
   have hrl : xs.length + 1 = r.length := by
    rw [← hsem, List.length_append, List.length_append, List.length_take, List.length_drop, hy1]; omega
   obtain ⟨rv, rows', h1, h2, h3, h4, h5, h6⟩ := Qri (e := 114) (c := K6) (rows := [(a.map (·.block), .slice a xs.length cap)] ++ ([] ++ [((some (⟨vb, voff, none⟩ : Addr)).map (·.block), .slice (some ⟨vb, voff, none⟩) ys.length cap2)])) hpost hflat hrl hS
    (fun x hx => by simp [Blks, hx]) (fun x hx => ⟨(hrows x hx).1, (hrows x hx).2.1⟩) rfl
   exact ⟨rv, S, [[rv]], [], rows', h1, h2, fun _ h => h, fun _ h => .inl h, h3, h4, ⟨rfl, trivial⟩, rfl, h5, h6⟩
def Pdu.b0 (k : Nat) (s : T68) : Option (T68 ⊕ T68 ⊕ (List T4)) :=
 bif decide (s.2.2.1 < (s.1.length : Int)) then (inb? s.1.length s.2.2.1).bind fun j1 => (s.1[j1]?).bind fun y2 => bif strLt y2.1 s.2.2.2.1 then some (.inl (s.1, s.2.1, Zr (s.2.2.1 + 1), s.2.2.2)) else some (.inr (.inl s)) else some (.inr (.inl s))
def Pdu.d0 (y : T68) : Option (List T4) :=
 (Pcs.f k y.1 y.2.2.1 ([y.2.2.2])).bind fun r1 => some r1
def Pdu.f (a0 : List T4) (a1 : T4) : Option (List T4) :=
 (iter (X := T68 ⊕ (List T4)) (Pdu.b0 k) k (a0, [], 0, a1)).bind fun | .inl y => Pdu.d0 k y | .inr o => some o
theorem Pdu.ok : Yg 251 ⟨⟨[.give false K12, .w K6], [.f K12]⟩, Z2 Pdu.f⟩ := Yq 27 (Yk 114 K6 Yv) (.n (.n (.seq (.lp [.o 0 K12, .ptr 3 1000, .o 4 K12, .s 5 K0, .box 1000 114 K6 false false] 31 (.seq (.n (.cond .l .l)) (.blk .l))) (.n .l)))) Tryz.func251 (Yc Pcs.ok Yn)
def Pdz.f (k : Nat) (a0 : T4) (a1 : T16) : Option Bool :=
 bif decide (a0.1 = a1.2.1) then some true else some (decide (a0.1 = a1.2.2.1))
def Pdz.fn : Fn := ⟨⟨[.val true K6, .box 117 K9 false false], [⟨false, .bool, true⟩]⟩, fun k (x : T4 × T16) => Pdz.f k x.1 x.2⟩
theorem Pdz.ok : Yg 253 Pdz.fn := Yq 16 Yv (.n (.n .l)) Tryz.func253 Yn
def Pac.b0 (s : List T4 × Int × Int × Int × T16) : Option ((List T4 × Int × Int × Int × T16) ⊕ Int ⊕ Int) :=
 bif decide (s.2.2.2.1 < s.2.2.1) then (inb? s.1.length s.2.2.2.1).bind fun j1 => (s.1[j1]?).bind fun y2 => (Pdz.f k y2 s.2.2.2.2).bind fun r3 => bif r3 then some (.inr (.inr s.2.2.2.1)) else some (.inl (s.1, s.2.1, s.2.2.1, Zr (s.2.2.2.1 + 1), s.2.2.2.2)) else some (.inr (.inl s.2.1))
def Pac.d0 (k : Nat) (y : Int) : Option Int :=
 some (-1)
def Pac.f (a0 : List T4) (a1 : T16) : Option Int :=
 (iter (X := Int ⊕ Int) (Pac.b0 k) k (a0, 0, (a0.length : Int), 0, a1)).bind fun | .inl y => Pac.d0 k y | .inr o => some o
def Pac.fn : Fn := ⟨⟨[.val false K12, .clo 253 false 117 K9], [⟨false, K0, true⟩]⟩, fun k (x : List T4 × T16) => Pac.f k x.1 x.2⟩
theorem Pac.ok : Yg 273 Pac.fn := Yq 19 Yv (.n (.seq (.n (.lp [.s 0 K12, .fnp 1 253 false 2, .s 4 K0, .s 7 K0, .s 8 K0, .box 2 117 K9 false true] 4 (.n (.seq (.cond .l .l) (.seq (.blk (.n .c)) .l))))) (.n .l))) Tryz.func273 (Yc Pdz.ok Yn)
section
open Go.Proofs Go.Shelf Go.RowKit Go.Lib
set_option maxHeartbeats 4000000 in
theorem Hand.dfn0_slices_DeleteFunc_Link_impl_apply_in (w : World) (b : Option Addr) (n c mb : Nat) (Q : World → Prop) (hix : Calls Tryz.prog 273 #[.slice b n c, .func (.func 253) #[] #[.pointer (some ⟨mb, 0, none⟩)]] w fun e w' => e = .returned (.int .i64 (-1)) ∧ Q w') :
  Calls Tryz.prog 252 #[.slice b n c, .func (.func 253) #[] #[.pointer (some ⟨mb, 0, none⟩)]] w (fun e w' => e = .returned (.slice b n c) ∧ Q w') := by
 have mixed : Tryz.prog.follows .mixedOrders = true := by kernel_rfl
 go_enter Tryz.func252, Tryz.ntmps252
 go_wp2_with (go_at_call 273; refine hix.mono ?_; rintro e w' ⟨rfl, hI⟩)
 go_ret
 exact ⟨rfl, hI⟩
set_option maxHeartbeats 4000000 in
set_option maxRecDepth 100000 in
theorem Hand.dfn_slices_DeleteFunc_Link_impl_apply_in (w : World) (b off n c i0 mb : Nat) (cur : Array Value) (X : List Value) (E0 : Nat → Zb) (E1 : Nat → Int) (pr : Nat → Bool) (Inv : Nat → Nat → World → Prop)
  (hix : Calls Tryz.prog 273 #[.slice (some ⟨b, off, none⟩) n c, .func (.func 253) #[] #[.pointer (some ⟨mb, 0, none⟩)]] w fun e w' => e = .returned (.int .i64 i0) ∧ Inv i0 (i0 + 1) w')
  (hi0 : i0 < n) (hn63 : n ≤ 9223372036854775806) (hnc : n ≤ c)
  (hread : ∀ i j W, Inv i j W → j < n → W.cell? ⟨b, off + j * 2, none⟩ = some (.string (E0 j)) ∧ W.cell? ⟨b, off + j * 2 + 1, none⟩ = some (.int .i64 (E1 j)))
  (hcall : ∀ i j W, Inv i j W → j < n → Calls Tryz.prog 253 #[.agg #[.string (E0 j), .int .i64 (E1 j)], .pointer (some ⟨mb, 0, none⟩)] (W.alloc (.cells #[.string (E0 j), .int .i64 (E1 j)] 114)) fun e W' => e = .returned (.bool (pr j)) ∧ Frm (W.alloc (.cells #[.string (E0 j), .int .i64 (E1 j)] 114)).heap.size (fun _ => False) (W.alloc (.cells #[.string (E0 j), .int .i64 (E1 j)] 114)) W')
  (hskip : ∀ i j W W', Inv i j W → j < n → pr j = true → Frm (W.alloc (.cells #[.string (E0 j), .int .i64 (E1 j)] 114)).heap.size (fun _ => False) (W.alloc (.cells #[.string (E0 j), .int .i64 (E1 j)] 114)) W' → Inv i (j + 1) W')
  (hrow : ∀ i j W W', Inv i j W → j < n → Frm (W.alloc (.cells #[.string (E0 j), .int .i64 (E1 j)] 114)).heap.size (fun _ => False) (W.alloc (.cells #[.string (E0 j), .int .i64 (E1 j)] 114)) W' → ∃ cur', W'.heap[b]? = some (.cells cur' 114 (0, 0)) ∧ off + c * 2 ≤ cur'.size)
  (hkeep : ∀ i j W W', Inv i j W → j < n → pr j = false → Frm (W.alloc (.cells #[.string (E0 j), .int .i64 (E1 j)] 114)).heap.size (fun _ => False) (W.alloc (.cells #[.string (E0 j), .int .i64 (E1 j)] 114)) W' →
   Inv (i + 1) (j + 1) ((W'.setCell ⟨b, off + i * 2, none⟩ (.string (E0 j))).setCell ⟨b, off + i * 2 + 1, none⟩ (.int .i64 (E1 j))))
  (Post : Nat → World → Prop)
  (hend : ∀ i W, Inv i n W → ∃ W2, (∀ ty dc, (Builtin.clear_ #[50] ty #[.slice (some ⟨b, off + i * 2, none⟩) (n - i) dc]).run Tryz.prog W = .ok (.tuple #[]) W2) ∧ Post i W2)
  (hij : ∀ i j W, Inv i j W → i < j) :
  Calls Tryz.prog 252 #[.slice (some ⟨b, off, none⟩) n c, .func (.func 253) #[] #[.pointer (some ⟨mb, 0, none⟩)]] w (fun e w' => ∃ i, e = .returned (.slice (some ⟨b, off, none⟩) i c) ∧ Post i w') := by
 have hne1 : ((i0 : Int) == -1) = false := beq_eq_false_iff_ne.2 (by omega)
 have HC : Aside _ := hcall
 have HR : Aside _ := hread
 clear hcall hread
 have HROW0 : Aside _ := hrow
 have HSK0 : Aside _ := hskip
 have HKP0 : Aside _ := hkeep
 have HEND : Aside _ := hend
 clear hrow hskip hkeep hend
 have mixed : Tryz.prog.follows .mixedOrders = true := by kernel_rfl
 go_enter Tryz.func252, Tryz.ntmps252
 go_wp2_with (go_at_call 273; refine hix.mono ?_; rintro e w' ⟨rfl, hI⟩)
 go_loopg [5, 6, 7] n (fun gg s5 s6 _ wr => ∃ (i j : Nat), s5 = .int .i64 i ∧ s6 = .int .i64 j ∧ j ≤ n ∧ n - j ≤ gg ∧ Aside (Inv i j wr))
 case atStart => exact ⟨i0, i0 + 1, rfl, by go_num, by omega, by omega, hI⟩
 case round =>
  obtain ⟨i, j, rfl, rfl, hjn, hgg, I⟩ := hrel
  by_cases hlt : j < n
  ·have hltz : (j : Int) < (n : Int) := by omega
   obtain ⟨c0, c1⟩ := HR.out i j wr I.out hlt
   have hcall := HC.out i j wr I.out hlt
   have hil := hij i j wr I.out
   have HROW : Aside _ := HROW0.out i j wr
   have HSK : Aside _ := HSK0.out i j wr
   obtain ⟨e0, C0⟩ : ∃ e, Aside (E0 j = e) := ⟨_, rfl⟩
   rw [C0.out] at c0 hcall
   obtain ⟨e1, C1⟩ : ∃ e, Aside (E1 j = e) := ⟨_, rfl⟩
   rw [C1.out] at c1 hcall
   cases hq : pr j with
   | true =>
    rw [hq] at hcall
    go_wp2_with (go_at_call 253; refine hcall.mono ?_; rintro e w' ⟨rfl, hf⟩)
    go_roundg (n - (j + 1))
    case measure => omega
    case rel =>
     refine ⟨i, j + 1, rfl, by go_num, by omega, Nat.le_refl _, HSK.out w' I.out hlt hq ?_⟩
     rw [C0.out, C1.out]
     exact hf
   | false =>
    rw [hq] at hcall
    have hpost : ∀ w', Frm (wr.alloc (.cells #[.string e0, .int .i64 e1] 114)).heap.size (fun _ => False) (wr.alloc (.cells #[.string e0, .int .i64 e1] 114)) w' →
      w'.cell? ⟨wr.heap.size, 0, none⟩ = some (.string e0) ∧ w'.cell? ⟨wr.heap.size, 1, none⟩ = some (.int .i64 e1) ∧ (∃ u, w'.cell? ⟨b, off + i * 2, none⟩ = some u) ∧ (∃ u, w'.cell? ⟨b, off + i * 2 + 1, none⟩ = some u) ∧ w'.frozen? ⟨b, off + i * 2, none⟩ = false ∧ w'.frozen? ⟨b, off + i * 2 + 1, none⟩ = false := by
     intro w' hf
     obtain ⟨cur', hcur', hfit'⟩ := HROW.out w' I.out hlt (by rw [C0.out, C1.out]; exact hf)
     have hwn : (wr.alloc (.cells #[.string e0, .int .i64 e1] 114)).heap[wr.heap.size]? = some (.cells #[.string e0, .int .i64 e1] 114 (0, 0)) := by show (wr.heap.push _)[wr.heap.size]? = _; simp
     refine ⟨hf.cell0 ?_, hf.cell0 ?_, ?_, ?_, ?_, ?_⟩
     ·rw [cell_of_row _ _ _ _ 114 (0, 0) hwn]; rfl
     ·rw [cell_of_row _ _ _ _ 114 (0, 0) hwn]; rfl
     ·exact ⟨_, by rw [cell_of_row w' b _ cur' 114 (0, 0) hcur', Array.getElem?_eq_getElem (by omega)]⟩
     ·exact ⟨_, by rw [cell_of_row w' b _ cur' 114 (0, 0) hcur', Array.getElem?_eq_getElem (by omega)]⟩
     ·simp [World.frozen?, hcur']
     ·simp [World.frozen?, hcur']
    go_wp2_with (go_at_call 253; refine hcall.mono ?_; rintro e w' ⟨rfl, hf⟩; obtain ⟨d0, d1, ⟨u0, g0⟩, ⟨u1, g1⟩, f0, f1⟩ := hpost w' hf)
    go_roundg (n - (j + 1))
    case measure => omega
    case rel =>
     refine ⟨i + 1, j + 1, by go_num, by go_num, by omega, Nat.le_refl _, (show Aside _ from ?_)⟩
     have := HKP0.out i j wr w' I.out hlt hq (by rw [C0.out, C1.out]; exact hf)
     rw [C0.out, C1.out] at this
     exact this
  ·obtain rfl : j = n := by omega
   have hltz : ¬ (j : Int) < (j : Int) := by omega
   have hil := hij i j wr I.out
   obtain ⟨W2, hcl, hp⟩ := HEND.out i wr I.out
   have HP : Aside _ := hp
   clear hp
   have hic : i ≤ c := by omega
   have hci : ¬ (c = i) := by omega
   have hij1 : (i : Int) ≤ (j : Int) := by omega
   go_wp2
   go_ret
   exact ⟨i, rfl, HP.out⟩
end
def Psk : T4 := (⟨#[]⟩, 0)
def Pad.f (a0 : List T4) (a1 : T16) : Option (List T4) := delG (Pac.f k a0 a1) (fun x => Pdz.f k x a1) a0
def Pad.sig : Sig := ⟨[.give false K12, .clo 253 false 117 K9], [⟨false, K12, true⟩]⟩
def Pad.fn : Fn := ⟨Pad.sig, fun k (x : List T4 × T16) => Pad.f k x.1 x.2⟩
theorem Pad.ok (k : Nat) : FnOk Tryz.prog k 252 Pad.fn := by
 refine ⟨Qqo Tryz.func252 (by kernel_rfl) (by kernel_rfl), ?_⟩
 intro w S vs vss rows (x : List T4 × T16) (r : List T4) hsem hargs hparts hS hbn hbn2 hbS hnd hrows hgl
 obtain ⟨xs, cap⟩ := x
 change Pad.f k xs cap = some r at hsem
 unfold Pad.f delG at hsem
 obtain ⟨idx, hidx, hsem⟩ := Option.bind_eq_some_iff.1 hsem
 have hal := hargs.length
 obtain ⟨v0, v1, rfl⟩ := list2 hal.1
 obtain ⟨l0, l1, rfl⟩ := list2 hal.2
 obtain ⟨ha0, ⟨mb, rfl, hmb⟩, _⟩ := hargs
 simp only [Bool.false_eq_true, if_false] at ha0
 subst ha0
 obtain ⟨q0, qs, r1, r2, he, rfl, hp0, hp⟩ := hparts
 simp only [List.cons.injEq] at he
 obtain ⟨rfl, rfl⟩ := he
 obtain ⟨q1, he, hp1⟩ := hp
 simp only [List.cons.injEq, and_true] at he
 subst he
 have hp0 : OwnT w S K12 xs [v0] r1 := hp0
 obtain ⟨hp1, rfl⟩ : RdT w S K9 cap l1 ∧ r2 = [] := hp1
 have hrd0 : RdT w (fun b => S b ∨ b ∈ Blks r1) K12 xs [v0] := by
  obtain ⟨a, n, cp, h1, h2, h3, _⟩ := hp0
  refine ⟨a, n, cp, h1, h3.mono (fun b hb => .inr ?_) (fun _ _ => rfl) (fun x l => RdT.mono (fun b hb => .inl hb) fun _ _ => rfl)⟩
  subst h2
  cases a with
  | none => cases hb
  | some ad => simpa [Blks] using hb.symm
 obtain ⟨a, c, X, hl, rfl, hcap, hnil, hXl, hX, hblk⟩ := Qrc hp0 (by decide)
 simp only [List.cons.injEq, and_true] at hl
 subst hl
 simp only [List.append_nil] at hnd hrows ⊢
 have hcap : xs.length ≤ c := hcap
 have hix : Calls Tryz.prog 273 #[.slice a xs.length c, .func (.func 253) #[] #[.pointer (some ⟨mb, 0, none⟩)]] w (fun e w' => e = .returned (.int .i64 idx) ∧ Frm w.heap.size (fun _ => False) w w') := by
  refine ((Pac.ok k).run w (fun b => S b ∨ b ∈ Blks [(a.map (·.block), .slice a xs.length c)]) [.slice a xs.length c, .func (.func 253) #[] #[.pointer (some ⟨mb, 0, none⟩)]] [[.slice a xs.length c], l1] [] (xs, cap) idx hidx
   ⟨rfl, ⟨mb, rfl, hmb⟩, trivial⟩ ⟨_, _, [], [], rfl, rfl, ⟨hrd0, rfl⟩, _, rfl, ⟨hp1.mono (fun b hb => .inl hb) (fun _ _ => rfl), rfl⟩⟩
   (fun b hb => hb.elim (hS b) fun hb => (hrows b hb).2.1) List.nodup_nil (fun b hb => nomatch hb) (fun b hb => ?_) List.nodup_nil (fun b hb => nomatch hb) (hgl.mono (fun b hb => .inl hb) fun _ _ => rfl)).mono ?_
  ·exact fun h => h.elim (hbS b hb) fun h => (hrows b h).2.2 hb
  ·rintro e w' ⟨rv, S', vr, vo, rows', rfl, hfrm, _, _, _, hpr, hres, ho, _, _⟩
   obtain rfl : vo = [] := ho
   match vr, hres with
   | [l], hres =>
    have h1 := hres.1
    simp only [Bool.false_eq_true, if_false] at h1
    subst h1
    have := Qrp (own := true) (.inr ⟨_, rfl⟩) hpr
    simp only [RdT, List.cons.injEq, and_true] at this
    subst this
    exact ⟨rfl, hfrm.os, hfrm.tape, hfrm.output, rfl, hfrm.size, fun b hb _ => hfrm.block b hb fun h => h.elim (fun h => nomatch h) (fun h => nomatch h)⟩
   | [], hres => exact hres.elim
   | _ :: _ :: _, hres => exact hres.2.elim
 have hmS : ¬ S mb := hbS mb (List.mem_singleton.2 rfl : mb ∈ [mb])
 by_cases hi1 : idx = -1
 ·subst hi1
  rw [if_pos rfl] at hsem
  simp only [Zj] at hsem
  subst hsem
  refine (Hand.dfn0_slices_DeleteFunc_Link_impl_apply_in w a xs.length c mb _ hix).mono ?_
  rintro en w' ⟨rfl, hfrm⟩
  refine ⟨_, S, [[_]], [], [(a.map (·.block), .slice a xs.length c)], rfl, ⟨hfrm.os, hfrm.tape, hfrm.output, rfl, hfrm.size, fun b hb _ => hfrm.block b hb id⟩, fun _ h => h, fun _ h => .inl h, fun b hb => Nat.lt_of_lt_of_le (hS b hb) hfrm.size, ⟨_, rfl, ?_⟩, ⟨rfl, trivial⟩, rfl, hnd, fun b hb => ⟨(hrows b hb).1, Nat.lt_of_lt_of_le (hrows b hb).2.1 hfrm.size, (hrows b hb).2.2, .inl hb⟩⟩
  exact OwnT.mono (fun _ h => h) (fun b hb => hfrm.block b (hS b hb) id) (fun b hb => hfrm.block b (hrows b hb).2.1 id) hp0
 have hrows : ∀ b ∈ Blks [(a.map (·.block), .slice a xs.length c)], ¬ S b ∧ b < w.heap.size ∧ b ≠ mb := fun b hb => ⟨(hrows b hb).1, (hrows b hb).2.1, fun e => (hrows b hb).2.2 (List.mem_singleton.2 e : b ∈ [mb])⟩
 rw [if_neg hi1] at hsem
 split at hsem
 case isFalse => cases hsem
 rename_i hc
 obtain ⟨h0, hlt, hbig⟩ := hc
 obtain ⟨i0, rfl⟩ : ∃ n : Nat, idx = n := ⟨idx.toNat, by omega⟩
 have hlt : i0 < xs.length := by exact_mod_cast hlt
 simp only [Zn] at hsem
 obtain ⟨rest, hrest, rfl⟩ := Option.map_eq_some_iff.1 hsem
 obtain ⟨hp, rfl⟩ := Qpz hrest
 obtain ⟨q, hq⟩ : ∃ q : T4 → Bool, q = fun x => (Pdz.f k x cap).getD false := ⟨_, rfl⟩
 have hpq : ∀ x ∈ xs.drop (i0 + 1), Pdz.f k x cap = some (q x) := fun x hx => by obtain ⟨b, hb⟩ := hp x hx; simp [hq, hb]
 have hfin : xs.take i0 ++ (xs.drop (i0 + 1)).filter (fun x => !(Pdz.f k x cap).getD false) = Qjk q xs i0 (xs.length - (i0 + 1)) := by
  unfold Qjk
  rw [List.take_of_length_le (l := xs.drop (i0 + 1)) (by rw [List.length_drop]; omega), hq]
 rw [hfin]
 cases a with
 | none => obtain ⟨rfl, _⟩ := hnil rfl; exact absurd hlt (Nat.not_lt_zero _)
 | some ad =>
  obtain ⟨b, off, asp⟩ := ad
  obtain ⟨hsp, cur, hcur, hfit, hXc⟩ := hblk _ rfl
  simp only at hsp hcur hfit hXc
  subst hsp
  have hfit : off + c * 2 ≤ cur.size := hfit
  have hXf := hX.flat (cv := Pot) Pmm (fun x l h => by obtain ⟨_, _, rfl, rfl, rfl⟩ := h; rfl)
  subst hXf
  have hbb : b ∈ Blks [((some (⟨b, off, none⟩ : Addr)).map (·.block), .slice (some ⟨b, off, none⟩) xs.length c)] := by simp [Blks]
  have hbS' := hrows b hbb
  have hmbb : mb ≠ b := fun h => hbS'.2.2 h.symm
  have hmlt : mb < w.heap.size := (Array.getElem?_eq_some_iff.1 hmb).1
  obtain ⟨z, hzv, hzs, hz1⟩ := Hand.zeroLink
  have key := Hand.dfn_slices_DeleteFunc_Link_impl_apply_in w b off xs.length c i0 mb cur [] (fun j => ((xs[j]?).getD Psk).1) (fun j => ((xs[j]?).getD Psk).2) (fun j => q ((xs[j]?).getD Psk))
   (fun i j W => ∃ d, j = i0 + 1 + d ∧ i = (Qjk q xs i0 d).length ∧ DInv 114 2 Pot w b off cur.size xs (Qjk q xs i0 d) j W)
   (hix.mono (by
    rintro e w' ⟨rfl, hf⟩
    refine ⟨rfl, 0, rfl, ?_, ⟨⟨hf.os, hf.tape, hf.output, rfl, hf.size, fun k hk _ => hf.block k hk id⟩, cur, (hf.block b hbS'.2.1 id).trans hcur, rfl, fun q v hq => ?_, fun q v _ hq => hXc q v hq⟩⟩
    ·simp [Qjk]; omega
    ·simp only [Qjk, List.take_zero, List.filter_nil, List.append_nil] at hq
     refine hXc q v ?_
     rw [← List.take_append_drop i0 xs, List.flatMap_append, List.getElem?_append_left (List.getElem?_eq_some_iff.1 hq).1]
     exact hq))
   hlt (by omega) hcap
   (fun i j W hI hj => by
    obtain ⟨d, rfl, rfl, h⟩ := hI
    have hx : xs[i0 + 1 + d]? = some xs[i0 + 1 + d] := Zg hj
    exact ⟨by have := h.read (Pmm) hx (t := 0) rfl; simpa [hx] using this, by have := h.read (Pmm) hx (t := 1) rfl; simpa [hx] using this⟩)
   (fun i j W hI hj => by
    obtain ⟨d, rfl, rfl, h⟩ := hI
    have hx : xs[i0 + 1 + d]? = some xs[i0 + 1 + d] := Zg hj
    have hpx := hpq _ (List.mem_of_getElem? (by rw [List.getElem?_drop]; exact hx))
    simp only [hx, Option.getD_some]
    have hWs := h.frm.size
    have hkeep : ∀ k, k < w.heap.size → k ≠ b → (W.alloc (.cells (Pot xs[i0 + 1 + d]).toArray 114)).heap[k]? = w.heap[k]? := fun k hk hkb => by
     show (W.heap.push _)[k]? = _
     rw [Array.getElem?_push, if_neg (by omega)]
     exact h.frm.block k hk hkb
    refine ((Pdz.ok k).run _ S [.agg (Pot xs[i0 + 1 + d]).toArray, .pointer (some ⟨mb, 0, none⟩)] [Pot xs[i0 + 1 + d], l1] [] (xs[i0 + 1 + d], cap) (q xs[i0 + 1 + d]) hpx
     ⟨rfl, ⟨mb, rfl, (hkeep mb hmlt hmbb).trans hmb⟩, trivial⟩
     ⟨_, _, [], [], rfl, rfl, ⟨Pws _, rfl⟩, _, rfl, ⟨hp1.mono (fun _ h => h) (fun s hs => hkeep s (hS s hs) fun e => hbS'.1 (e ▸ hs)), rfl⟩⟩
     (fun s hs => by have := hS s hs; show s < (W.heap.push _).size; simp; omega) List.nodup_nil (fun b hb => nomatch hb) (fun s hs => by have hs : s = mb := List.mem_singleton.1 hs; rw [hs]; exact hmS) List.nodup_nil (fun b hb => nomatch hb) (hgl.mono (fun _ h => h) (fun s hs => hkeep s (hS s hs) fun e => hbS'.1 (e ▸ hs)))).mono ?_
    rintro e w' ⟨rv, S', vr, vo, rows', rfl, hfrm, _, _, _, hpr, hres, ho, _, _⟩
    obtain rfl : vo = [] := ho
    match vr, hres with
    | [l], hres =>
     have h1 := hres.1
     simp only [Bool.false_eq_true, if_false] at h1
     subst h1
     have := Qrp (own := true) (.inl rfl) hpr
     simp only [RdT, List.cons.injEq, and_true] at this
     subst this
     exact ⟨rfl, hfrm.os, hfrm.tape, hfrm.output, rfl, hfrm.size, fun b hb _ => hfrm.block b hb fun h => h.elim (fun h => nomatch h) (fun h => nomatch h)⟩
    | [], hres => exact hres.elim
    | _ :: _ :: _, hres => exact hres.2.elim)
   (fun i j W W' hI hj hpr hf => by
    obtain ⟨d, rfl, rfl, h⟩ := hI
    have hx : xs[i0 + 1 + d]? = some xs[i0 + 1 + d] := Zg hj
    simp only [hx, Option.getD_some] at hpr
    refine ⟨d + 1, rfl, ?_, ?_⟩ <;> rw [Qqe hx, hpr, Zy]
    exact (h.call hf).skip)
   (fun i j W W' hI hj hf => by
    obtain ⟨d, rfl, rfl, h⟩ := hI
    obtain ⟨cur', h1, h2, _⟩ := (h.call hf).row
    exact ⟨cur', h1, by omega⟩)
   (fun i j W W' hI hj hpr hf => by
    obtain ⟨d, rfl, rfl, h⟩ := hI
    have hx : xs[i0 + 1 + d]? = some xs[i0 + 1 + d] := Zg hj
    simp only [hx, Option.getD_some] at hpr hf ⊢
    have hkl := Qqq (q := q) (xs := xs) (i0 := i0) (d := d)
    refine ⟨d + 1, rfl, ?_, ?_⟩ <;> rw [Qqe hx, hpr, Zz]
    ·simp
    ·exact (h.call hf).keep Pmm (c := c) xs[i0 + 1 + d] (by omega) (by omega) (by omega))
   (fun i W2 => i = (Qjk q xs i0 (xs.length - (i0 + 1))).length ∧ Frm w.heap.size (fun x => x = b) w W2 ∧ ∃ cur', W2.heap[b]? = some (.cells cur' 114 (0, 0)) ∧ cur'.size = cur.size ∧ ∀ q' v, ((Qjk q xs i0 (xs.length - (i0 + 1))).flatMap Pot)[q']? = some v → cur'[off + q']? = some v)
   (fun i W hI => by
    obtain ⟨d, hd, rfl, h⟩ := hI
    obtain rfl : d = xs.length - (i0 + 1) := by omega
    have hkl := Qqq (q := q) (xs := xs) (i0 := i0) (d := xs.length - (i0 + 1))
    obtain ⟨K, hK⟩ : ∃ K, K = Qjk q xs i0 (xs.length - (i0 + 1)) := ⟨_, rfl⟩
    rw [← hK] at h hkl ⊢
    obtain ⟨cur', h1, h2, h3, h4⟩ := h.row
    have hflat := Qnb Pmm K
    have hzl : (Builtin.zeroCells z.cells (xs.length - K.length)).toList.length = (xs.length - K.length) * 2 := by rw [Array.length_toList, size_zeroCells, hzs]
    refine ⟨_, fun ty dc => Qqm W 50 114 ty z Tryz.underlying50 hzv b (off + K.length * 2) (xs.length - K.length) dc cur' 114 h1 (by rw [hzl, h2]; omega) (hz1 _) (by omega), rfl, ?_, ?_⟩
    ·exact ⟨h.frm.os, h.frm.tape, h.frm.output, rfl, by rw [size_setRow]; exact h.frm.size, fun k hk hm => (setRow_other _ _ _ _ hm).trans (h.frm.block k hk hm)⟩
    ·refine ⟨_, setRow_heap _ b cur' _ 114 (0, 0) h1, ?_, fun q' v hv => ?_⟩
     ·simp only [List.size_toArray, List.length_append, List.length_take, List.length_drop, Array.length_toList, hzl] at *; omega
     ·have hlt' := (List.getElem?_eq_some_iff.1 hv).1
      simp only [List.getElem?_toArray]
      rw [Qke cur'.toList _ (off + K.length * 2) (off + q') (by rw [hzl]; simp; omega), if_pos (by omega)]
      simpa using h3 q' v hv)
   (fun i j W hI => by
    obtain ⟨d, rfl, rfl, h⟩ := hI
    have hkl := Qqq (q := q) (xs := xs) (i0 := i0) (d := d)
    omega)
  refine key.mono ?_
  rintro en w' ⟨i, rfl, rfl, hfrm, cur', hcur', hsz', hcells⟩
  have hkl := Qqq (q := q) (xs := xs) (i0 := i0) (d := xs.length - (i0 + 1))
  have hpost : Qhs 114 2 w (some b) ((Qjk q xs i0 (xs.length - (i0 + 1))).flatMap Pot) (Qjk q xs i0 (xs.length - (i0 + 1))).length (.returned (.slice (some ⟨b, off, none⟩) (Qjk q xs i0 (xs.length - (i0 + 1))).length c)) w' :=
   ⟨b, off, c, cur', rfl, by omega, hcur', by omega, hcells, ⟨hfrm.os, hfrm.tape, hfrm.output, rfl, hfrm.size, fun k hk hm => hfrm.block k hk fun e => hm (by rw [e])⟩, .inl rfl⟩
  obtain ⟨rv, rows', h1, h2, h3, h4, h5, h6⟩ := Qri (e := 114) (c := K6) (S := S) (rows := [((some (⟨b, off, none⟩ : Addr)).map (·.block), .slice (some ⟨b, off, none⟩) xs.length c)]) hpost (FlatR.of_flat (rd := RdT w S K6) (size := 2) Pmm (xs := Qjk q xs i0 (xs.length - (i0 + 1))) fun x _ => Pws x) rfl hS
   (fun x hx => by cases hx; exact hbb) (fun x hx => ⟨(hrows x hx).1, (hrows x hx).2.1⟩) rfl
  refine ⟨rv, S, [[rv]], [], rows', h1, ⟨h2.os, h2.tape, h2.output, rfl, h2.size, fun k hk hm => h2.block k hk fun h => h.elim (fun h => nomatch h) fun h => hm (.inr h)⟩, fun _ h => h, fun _ h => .inl h, h3, h4, ⟨rfl, trivial⟩, rfl, h5, fun x hx => ⟨(h6 x hx).1, (h6 x hx).2.1, fun h => ?_, (h6 x hx).2.2.2⟩⟩
  have hxm : x = mb := List.mem_singleton.1 h
  rcases (h6 x hx).2.2.2 with h' | h'
  ·exact (hrows x h').2.2 hxm
  ·omega
section
open Go.Proofs Go.Shelf Go.RowKit Go.Lib
set_option maxHeartbeats 4000000 in
set_option maxRecDepth 100000 in
theorem Hand.del_Link (w : World) (b off n c i j : Nat) (cur : Array Value) (X : List Value) (hb : w.heap[b]? = some (.cells cur 114 (0, 0)))
  (hij : i < j) (hj : j ≤ n) (hnc : n ≤ c) (hfit : off + c * 2 ≤ cur.size)
  (hXl : X.length = n * 2) (hX : ∀ (j : Nat) (v : Value), X[j]? = some v → cur[off + j]? = some v) (h1X : ∀ v ∈ X, v.oneCell' = true) :
  Calls Tryz.prog 254 #[.slice (some ⟨b, off, none⟩) n c, .int .i64 i, .int .i64 j] w (Qhs 114 2 w (some b) (X.take (i * 2) ++ X.drop (j * 2)) (i + (n - j))) := by
 obtain ⟨i0, hi0, hz0, hbt, _⟩ := Hand.infoLink
 obtain ⟨z, hzv, hzs, hz1⟩ := Hand.zeroLink
 have hdl : (X.drop (j * 2)).length = (n - j) * 2 := by rw [List.length_drop, hXl, Nat.sub_mul]
 obtain ⟨A, hA⟩ : ∃ A : Array Value, A = (cur.toList.take (off + i * 2) ++ X.drop (j * 2) ++ cur.toList.drop (off + i * 2 + (X.drop (j * 2)).length)).toArray := ⟨_, rfl⟩
 have hAl : A.toList = cur.toList.take (off + i * 2) ++ X.drop (j * 2) ++ cur.toList.drop (off + i * 2 + (X.drop (j * 2)).length) := by rw [hA]
 have hAs : A.size = cur.size := by rw [hA]; simp only [List.size_toArray, List.length_append, List.length_take, List.length_drop, Array.length_toList, hXl]; omega
 have hap : ∀ ty (ad : Addr), (n - j = 0 ∨ ad = ⟨b, off + j * 2, none⟩) → (Builtin.append_ #[50, 50] ty #[.slice (some ⟨b, off, none⟩) i c, .slice (some ad) (n - j) (c - j)]).run Tryz.prog w.drew = .ok (.slice (some ⟨b, off, none⟩) (i + (n - j)) c) (w.drew.setRow b A) := fun ty ad had => by
  have := Qhm w.drew 50 ty 114 i0 Tryz.underlying50 hi0 b off i c cur hb ad (n - j) (c - j) (X.drop (j * 2)) (by rw [hdl, hz0]) (fun q u hq => by
   rcases had with h0 | rfl
   ·have := (List.getElem?_eq_some_iff.1 hq).1; rw [hdl, h0] at this; omega
   ·rw [List.getElem?_drop] at hq
    show w.cell? _ = _
    rw [Addr.add_lit, cell_of_row w b _ cur 114 (0, 0) hb, show off + j * 2 + q = off + (j * 2 + q) by omega]
    exact hX _ u hq) (fun v hv => h1X v (List.mem_of_mem_drop hv)) (by omega) (by rw [hz0, hdl]; omega)
  rw [hz0, ← hA] at this
  exact this
 have hgA : (w.drew.setRow b A).heap[b]? = some (.cells A 114 (0, 0)) := setRow_heap w.drew b cur A 114 (0, 0) hb
 obtain ⟨ZZ, hZZ⟩ : ∃ ZZ, ZZ = (Builtin.zeroCells z.cells (n - (i + (n - j)))).toList := ⟨_, rfl⟩
 have hZl : ZZ.length = (j - i) * 2 := by rw [hZZ, Array.length_toList, size_zeroCells, hzs]; congr 1; omega
 obtain ⟨B, hB⟩ : ∃ B : Array Value, B = (A.toList.take (off + (i + (n - j)) * 2) ++ ZZ ++ A.toList.drop (off + (i + (n - j)) * 2 + ZZ.length)).toArray := ⟨_, rfl⟩
 have hBl : B.toList = A.toList.take (off + (i + (n - j)) * 2) ++ ZZ ++ A.toList.drop (off + (i + (n - j)) * 2 + ZZ.length) := by rw [hB]
 have hBs : B.size = A.size := by rw [hB]; simp only [List.size_toArray, List.length_append, List.length_take, List.length_drop, Array.length_toList, hZl]; omega
 have hcl : ∀ ty dc, (Builtin.clear_ #[50] ty #[.slice (some ⟨b, off + (i + (n - j)) * 2, none⟩) (n - (i + (n - j))) dc]).run Tryz.prog (w.drew.setRow b A) = .ok (.tuple #[]) ((w.drew.setRow b A).setRow b B) := fun ty dc => by
  rw [hB, hZZ]
  exact Qqm _ 50 114 ty z Tryz.underlying50 hzv b (off + (i + (n - j)) * 2) (n - (i + (n - j))) dc A 114 hgA (by rw [← hZZ, hZl, hAs]; omega) (hz1 _) (by omega)
 have hfin : ∀ (q : Nat) (v : Value), (X.take (i * 2) ++ X.drop (j * 2))[q]? = some v → B[off + q]? = some v := by
  intro q v hq
  have hXt : (X.take (i * 2)).length = i * 2 := by rw [List.length_take, hXl]; omega
  have hql : q < i * 2 + (n - j) * 2 := by
   have := (List.getElem?_eq_some_iff.1 hq).1
   rwa [List.length_append, hXt, hdl] at this
  rw [← Array.getElem?_toList, hBl, Qke A.toList ZZ _ (off + q) (by rw [hZl]; simp; omega), if_pos (by omega), hAl, Qke cur.toList (X.drop (j * 2)) (off + i * 2) (off + q) (by rw [hdl]; simp; omega), hdl]
  by_cases c1 : q < i * 2
  ·rw [if_pos (by omega)]
   rw [List.getElem?_append_left (by omega), List.getElem?_take, if_pos c1] at hq
   simpa using hX q v hq
  ·rw [if_neg (by omega), if_pos (by omega)]
   rw [List.getElem?_append_right (by omega), hXt] at hq
   rw [show off + q - (off + i * 2) = q - i * 2 by omega]; exact hq
 have F : Aside ((w.drew.setRow b A).heap[b]? = some (.cells A 114 (0, 0)) ∧ off + c * 2 ≤ B.size ∧ (∀ (q : Nat) (v : Value), (X.take (i * 2) ++ X.drop (j * 2))[q]? = some v → B[off + q]? = some v)) := ⟨hgA, by omega, hfin⟩
 have hzz : ¬ ((i : Int) = (j : Int)) := by omega
 have hci : ¬ (c = i) := by omega
 have hcl2 : ¬ (c = i + (n - j)) := by omega
 have hle1 : i ≤ j := by omega
 have hle2 : (i : Int) ≤ (j : Int) := by omega
 have hle3 : (j : Int) ≤ (n : Int) := by omega
 have hle4 : (n : Int) ≤ (c : Int) := by omega
 have hle5 : i ≤ c := by omega
 have hle6 : j ≤ c := by omega
 have hle7 : i + (n - j) ≤ n := by omega
 obtain ⟨AD, hAD, hadj⟩ : ∃ AD : Addr, (if c = j then some (⟨b, off, none⟩ : Addr) else some ⟨b, off + j * 2, none⟩) = some AD ∧ (n - j = 0 ∨ AD = ⟨b, off + j * 2, none⟩) := by
  by_cases h : c = j
  ·exact ⟨_, by rw [if_pos h], .inl (by omega)⟩
  ·exact ⟨_, by rw [if_neg h], .inr rfl⟩
 have hap' := fun ty => hap ty AD hadj
 clear hA hAl hAs hgA hB hBl hBs hfin hdl hX hb hZZ hZl hap hadj hz1
 have mixed : Tryz.prog.follows .mixedOrders = true := by kernel_rfl
 go_enter Tryz.func254, Tryz.ntmps254
 go_wp2_with fail
 go_region_law_o (refine Qof rfl (.tmp 22) (.tmp 25) 50 50 rfl (.slice (some ⟨b, off, none⟩) i c) (.slice (some AD) (n - j) (c - j)) (by simp [Act.eval, Act.put]) (by simp [Act.eval, Act.put, hAD]) (hap' _) ?_)
 go_wp2
 go_ret
 refine ⟨b, off, c, B, rfl, by omega, setRow_heap _ b A B 114 (0, 0) F.out.1, F.out.2.1, F.out.2.2, ⟨rfl, rfl, rfl, rfl, by simp [size_setRow], fun k hk hm => ?_⟩, .inl rfl⟩
 rw [setRow_other _ b _ _ (fun e => hm (by rw [e])), setRow_other _ b _ _ (fun e => hm (by rw [e]))]
 rfl
set_option maxHeartbeats 4000000 in
theorem Hand.del_eq_Link (w : World) (b : Option Addr) (n c i : Nat) (hi : i ≤ n) (hnc : n ≤ c) (hn : b = none → n = 0 ∧ c = 0) (hsp : ∀ ad, b = some ad → ad.spot = none) :
  Calls Tryz.prog 254 #[.slice b n c, .int .i64 i, .int .i64 i] w (fun e w' => e = .returned (.slice b n c) ∧ w' = w) := by
 have hle3 : (i : Int) ≤ (n : Int) := by omega
 have hle4 : (n : Int) ≤ (c : Int) := by omega
 have hle5 : i ≤ c := by omega
 cases b with
 | none =>
  obtain ⟨rfl, rfl⟩ := hn rfl
  obtain rfl : i = 0 := by omega
  go_enter Tryz.func254, Tryz.ntmps254
  go_wp2
  all_goals (go_ret; exact ⟨rfl, rfl⟩)
 | some ad =>
  obtain ⟨b, off, sp⟩ := ad
  have := hsp _ rfl
  simp only at this
  subst this
  clear hsp
  go_enter Tryz.func254, Tryz.ntmps254
  go_wp2
  all_goals (go_ret; exact ⟨rfl, rfl⟩)
end
def Pap.f (k : Nat) (a0 : List T4) (a1 : Int) (a2 : Int) : Option (List T4) := delR a0 a1 a2
def Pap.sig : Sig := ⟨[.give false K12, .val false K0, .val false K0], [⟨false, K12, true⟩]⟩
def Pap.fn : Fn := ⟨Pap.sig, fun k (x : List T4 × T8) => Pap.f k x.1 x.2.1 x.2.2⟩
theorem Pap.ok (k : Nat) : FnOk Tryz.prog k 254 Pap.fn := by
 refine ⟨Qqo Tryz.func254 (by kernel_rfl) (by kernel_rfl), ?_⟩
 intro w S vs vss rows (x : List (K6 : CK).T × T8) (r : List (K6 : CK).T) hsem hargs hparts hS hbn hbn2 hbS hnd hrows hgl
 obtain ⟨xs, i, j⟩ := x
 change Pap.f k xs i j = some r at hsem
 unfold Pap.f delR at hsem
 split at hsem
 case isFalse => cases hsem
 rename_i hc
 obtain ⟨hi0, hij, hj⟩ : 0 ≤ i ∧ i ≤ j ∧ j ≤ xs.length := hc
 have hsem : xs.take i.toNat ++ xs.drop j.toNat = r := Option.some.inj hsem
 obtain ⟨n, rfl⟩ : ∃ n : Nat, i = n := ⟨i.toNat, by omega⟩
 obtain ⟨q, rfl⟩ : ∃ n : Nat, j = n := ⟨j.toNat, by omega⟩
 have hsem : xs.take n ++ xs.drop q = r := hsem
 have hij : n ≤ q := by exact_mod_cast hij
 have hj : q ≤ xs.length := by exact_mod_cast hj
 have hal := hargs.length
 obtain ⟨v0, v1, v2, rfl⟩ := list3 hal.1
 obtain ⟨l0, l1, l2, rfl⟩ := list3 hal.2
 obtain ⟨ha0, ha1, ha2, _⟩ := hargs
 simp only [Bool.false_eq_true, if_false] at ha0 ha1 ha2
 subst ha0; subst ha1; subst ha2
 obtain ⟨q0, qs, r1, r2, he, rfl, hp0, hp⟩ := hparts
 simp only [List.cons.injEq] at he
 obtain ⟨rfl, rfl⟩ := he
 obtain ⟨q1, qs, r3, r4, he, rfl, hp1, hp2⟩ := hp
 simp only [List.cons.injEq] at he
 obtain ⟨rfl, rfl⟩ := he
 obtain ⟨q2, he, hp2⟩ := hp2
 simp only [List.cons.injEq, and_true] at he
 subst he
 have hp0 : OwnT w S K12 xs [v0] r1 := hp0
 obtain ⟨hp1, rfl⟩ : RdT w S K0 (n : Int) [v1] ∧ r3 = [] := hp1
 obtain ⟨hp2, rfl⟩ : RdT w S K0 (q : Int) [v2] ∧ r4 = [] := hp2
 have hv1 : v1 = .int .i64 n := by simpa [RdT] using hp1
 have hv2 : v2 = .int .i64 q := by simpa [RdT] using hp2
 subst hv1; subst hv2
 obtain ⟨a, cap, X, hl, rfl, hcap, hnil, hXl, hX, hblk⟩ := Qrc hp0 (by decide)
 simp only [List.cons.injEq, and_true] at hl
 subst hl
 have h1X := hX.one (by decide : 0 < (K6 : CK).size) (by decide)
 cases a with
 | none =>
  obtain ⟨rfl, rfl⟩ := hnil rfl
  obtain rfl : q = 0 := by simpa using hj
  obtain rfl : n = 0 := by omega
  refine (Hand.del_eq_Link w none 0 0 0 (Nat.le_refl _) (Nat.le_refl _) (fun _ => ⟨rfl, rfl⟩) (fun _ h => nomatch h)).mono ?_
  rintro en w' ⟨rfl, rfl⟩
  obtain rfl : r = [] := by rw [← hsem]; rfl
  obtain ⟨rv, rows', h1, h2, h3, h4, h5, h6⟩ := Qrl (e := 114) (c := K6) (w := w') (S := S) (n := 0) (cap := 0) rfl rfl hS _
  exact ⟨rv, S, [[rv]], [], rows', h1, h2, fun _ h => h, fun _ h => .inl h, h3, h4, ⟨rfl, trivial⟩, rfl, h5, fun x hx => ⟨(h6 x hx).1, (h6 x hx).2.1, (h6 x hx).2.2.1, (h6 x hx).2.2.2.imp (fun h => h.elim) id⟩⟩
 | some ad =>
  obtain ⟨hsp, cur, hcur, hfit, hXc⟩ := hblk _ rfl
  have key : Calls Tryz.prog 254 #[.slice (some ad) xs.length cap, .int .i64 n, .int .i64 q] w (Qhs 114 2 w (some ad.block) (X.take (n * 2) ++ X.drop (q * 2)) (n + (xs.length - q))) := by
   by_cases he : n = q
   ·subst he
    refine (Hand.del_eq_Link w (some ad) xs.length cap n hj hcap (fun h => nomatch h) (fun _ h => by cases h; exact hsp)).mono ?_
    rintro en w' ⟨rfl, rfl⟩
    rw [List.take_append_drop, show n + (xs.length - n) = xs.length by omega]
    exact Qhs.same hsp hcap hcur hfit hXc
   ·obtain ⟨ab, ao, asp⟩ := ad
    simp only at hsp hcur hfit hXc
    subst hsp
    exact Hand.del_Link w ab ao xs.length cap n q cur X hcur (by omega) hj hcap hfit hXl hXc h1X
  refine key.mono ?_
  intro en w' hpost
  have hflat : FlatR (RdT w S K6) (K6 : CK).size r (X.take (n * 2) ++ X.drop (q * 2)) := by
   rw [← hsem]
   exact (hX.take n).append (hX.drop q hj)
  have hrl : n + (xs.length - q) = r.length := by
   rw [← hsem, List.length_append, List.length_take, List.length_drop]; omega
  obtain ⟨rv, rows', h1, h2, h3, h4, h5, h6⟩ := Qri (e := 114) (c := K6) (rows := [(some ad.block, .slice (some ad) xs.length cap)] ++ ([] ++ [])) hpost hflat hrl hS
   (fun x hx => by simp at hx; simp [Blks, hx]) (fun x hx => ⟨(hrows x hx).1, (hrows x hx).2.1⟩) rfl
  exact ⟨rv, S, [[rv]], [], rows', h1, h2, fun _ h => h, fun _ h => .inl h, h3, h4, ⟨rfl, trivial⟩, rfl, h5, h6⟩
end Go.Proofs.YtbkcbfkehncocaaGreatDoor.Rx
