/- Functions of the program as typed functions, each with its contract, shown by the evaluator's soundness. No condition. -/
import Derived.Test.YtbkcbfkehncocaaGreatDoorRxFnsAOk
import Derived.Test.YtbkcbfkehncocaaGreatDoorProg
import Derived.KernelRfl
set_option linter.unusedVariables false
set_option linter.unusedSimpArgs false
namespace Go.Proofs.YtbkcbfkehncocaaGreatDoor.Rx
open Go.Proofs
variable (k : Nat)
def Pcn.b0 (k : Nat) (s : List T4 × List T4 × T22) : Option ((List T4 × List T4 × T22) ⊕ (List T4 × List T4 × T22) ⊕ (List T4)) :=
 bif decide (s.2.2.1 < (s.1.length : Int)) then (inb? s.1.length s.2.2.1).bind fun j1 => (s.1[j1]?).bind fun y2 => bif strLt y2.1 s.2.2.2.1 then some (.inl (s.1, s.2.1, Zr (s.2.2.1 + 1), s.2.2.2)) else some (.inr (.inl s)) else some (.inr (.inl s))
def Pcn.d0 (y : List T4 × List T4 × T22) : Option (List T4) :=
 (Pbv.f k y.1 y.2.2.1 ([y.2.2.2])).bind fun r1 => some r1
def Pcn.f (a0 : List T4) (a1 : T4) : Option (List T4) :=
 (iter (X := (List T4 × List T4 × T22) ⊕ (List T4)) (Pcn.b0 k) k (a0, [], 0, a1)).bind fun r => match r with | .inl y => Pcn.d0 k y | .inr o => some o
theorem Pcn.ok : Yg 251 ⟨⟨[.give false K11, .w K5], [.f K11]⟩, fun k (x : List T4 × T4) => Pcn.f k x.1 x.2⟩ := Yq 27 (Yk 114 K5 Yv) (.n (.n (.seq (.lp [.o 0 K11, .ptr 3 1000, .o 4 K11, .s 5 K0, .box 1000 114 K5 false false] 31 (.seq (.n (.cond .l .l)) (.blk .l))) (.n .l)))) Tryz.func251 (Yc Pbv.ok Yn)
def Pct.f (k : Nat) (a0 : T4) (a1 : T26) : Option Bool :=
 bif decide (a0.1 = a1.2.1) then some true else some (decide (a0.1 = a1.2.2.1))
def Pct.fn : Fn := ⟨⟨[.val true K5, .box 117 K15 false false], [⟨false, .bool, true⟩]⟩, fun k (x : T4 × T26) => Pct.f k x.1 x.2⟩
theorem Pct.ok : Yg 253 Pct.fn := Yq 16 Yv (.n (.n .l)) Tryz.func253 Yn
def Pab.b0 (s : List T4 × Int × Int × Int × T26) : Option ((List T4 × Int × Int × Int × T26) ⊕ Int ⊕ Int) :=
 bif decide (s.2.2.2.1 < s.2.2.1) then (inb? s.1.length s.2.2.2.1).bind fun j1 => (s.1[j1]?).bind fun y2 => (Pct.f k y2 s.2.2.2.2).bind fun r3 => bif r3 then some (.inr (.inr s.2.2.2.1)) else some (.inl (s.1, s.2.1, s.2.2.1, Zr (s.2.2.2.1 + 1), s.2.2.2.2)) else some (.inr (.inl s.2.1))
def Pab.d0 (k : Nat) (y : Int) : Option Int :=
 some (-1)
def Pab.f (a0 : List T4) (a1 : T26) : Option Int :=
 (iter (X := Int ⊕ Int) (Pab.b0 k) k (a0, 0, (a0.length : Int), 0, a1)).bind fun r => match r with | .inl y => Pab.d0 k y | .inr o => some o
def Pab.fn : Fn := ⟨⟨[.val false K11, .clo 253 false 117 K15], [⟨false, K0, true⟩]⟩, fun k (x : List T4 × T26) => Pab.f k x.1 x.2⟩
theorem Pab.ok : Yg 273 Pab.fn := Yq 19 Yv (.n (.seq (.n (.lp [.s 0 K11, .fnp 1 253 false 2, .s 4 K0, .s 7 K0, .s 8 K0, .box 2 117 K15 false true] 4 (.n (.seq (.cond .l .l) (.seq (.blk (.n .c)) .l))))) (.n .l))) Tryz.func273 (Yc Pct.ok Yn)
section
open Go.Proofs Go.Shelf Go.RowKit Go.Lib
set_option maxHeartbeats 4000000 in
theorem Hand.dfn0_slices_DeleteFunc_Link_impl_apply_in (w : World) (b : Option Addr) (n c mb : Nat) (Q : World → Prop) (hix : Calls Tryz.prog 273 #[.slice b n c, .func (.func 253) #[] #[.pointer (some ⟨mb, 0, none⟩)]] w fun e w' => e = .returned (.int .i64 (-1)) ∧ Q w') :
  Calls Tryz.prog 252 #[.slice b n c, .func (.func 253) #[] #[.pointer (some ⟨mb, 0, none⟩)]] w (fun e w' => e = .returned (.slice b n c) ∧ Q w') := by
 have mixed : Tryz.prog.follows .mixedOrders = true := by kernel_rfl
 go_enter Tryz.func252, Tryz.ntmps252
 go_wp2_with (go_at_call 273; refine hix.mono ?_; rintro e w' ⟨rfl, hI⟩)
 go_ret
 exact ⟨rfl, hI⟩
set_option maxHeartbeats 4000000 in
set_option maxRecDepth 100000 in
theorem Hand.dfn_slices_DeleteFunc_Link_impl_apply_in (w : World) (b off n c i0 mb : Nat) (cur : Array Value) (X : List Value) (E0 : Nat → Zb) (E1 : Nat → Int) (pr : Nat → Bool) (Inv : Nat → Nat → World → Prop)
  (hix : Calls Tryz.prog 273 #[.slice (some ⟨b, off, none⟩) n c, .func (.func 253) #[] #[.pointer (some ⟨mb, 0, none⟩)]] w fun e w' => e = .returned (.int .i64 i0) ∧ Inv i0 (i0 + 1) w')
  (hi0 : i0 < n) (hn63 : n ≤ 9223372036854775806) (hnc : n ≤ c)
  (hread : ∀ i j W, Inv i j W → j < n → W.cell? ⟨b, off + j * 2, none⟩ = some (.string (E0 j)) ∧ W.cell? ⟨b, off + j * 2 + 1, none⟩ = some (.int .i64 (E1 j)))
  (hcall : ∀ i j W, Inv i j W → j < n → Calls Tryz.prog 253 #[.agg #[.string (E0 j), .int .i64 (E1 j)], .pointer (some ⟨mb, 0, none⟩)] (W.alloc (.cells #[.string (E0 j), .int .i64 (E1 j)] 114)) fun e W' => e = .returned (.bool (pr j)) ∧ Frm (W.alloc (.cells #[.string (E0 j), .int .i64 (E1 j)] 114)).heap.size (fun _ => False) (W.alloc (.cells #[.string (E0 j), .int .i64 (E1 j)] 114)) W')
  (hskip : ∀ i j W W', Inv i j W → j < n → pr j = true → Frm (W.alloc (.cells #[.string (E0 j), .int .i64 (E1 j)] 114)).heap.size (fun _ => False) (W.alloc (.cells #[.string (E0 j), .int .i64 (E1 j)] 114)) W' → Inv i (j + 1) W')
  (hrow : ∀ i j W W', Inv i j W → j < n → Frm (W.alloc (.cells #[.string (E0 j), .int .i64 (E1 j)] 114)).heap.size (fun _ => False) (W.alloc (.cells #[.string (E0 j), .int .i64 (E1 j)] 114)) W' → ∃ cur', W'.heap[b]? = some (.cells cur' 114 (0, 0)) ∧ off + c * 2 ≤ cur'.size)
  (hkeep : ∀ i j W W', Inv i j W → j < n → pr j = false → Frm (W.alloc (.cells #[.string (E0 j), .int .i64 (E1 j)] 114)).heap.size (fun _ => False) (W.alloc (.cells #[.string (E0 j), .int .i64 (E1 j)] 114)) W' →
   Inv (i + 1) (j + 1) ((W'.setCell ⟨b, off + i * 2, none⟩ (.string (E0 j))).setCell ⟨b, off + i * 2 + 1, none⟩ (.int .i64 (E1 j))))
  (Post : Nat → World → Prop)
  (hend : ∀ i W, Inv i n W → ∃ W2, (∀ ty dc, (Builtin.clear_ #[50] ty #[.slice (some ⟨b, off + i * 2, none⟩) (n - i) dc]).run Tryz.prog W = .ok (.tuple #[]) W2) ∧ Post i W2)
  (hij : ∀ i j W, Inv i j W → i < j) :
  Calls Tryz.prog 252 #[.slice (some ⟨b, off, none⟩) n c, .func (.func 253) #[] #[.pointer (some ⟨mb, 0, none⟩)]] w (fun e w' => ∃ i, e = .returned (.slice (some ⟨b, off, none⟩) i c) ∧ Post i w') := by
 have hne1 : ((i0 : Int) == -1) = false := beq_eq_false_iff_ne.2 (by omega)
 have HC : Aside _ := hcall
 have HR : Aside _ := hread
 clear hcall hread
 have HROW0 : Aside _ := hrow
 have HSK0 : Aside _ := hskip
 have HKP0 : Aside _ := hkeep
 have HEND : Aside _ := hend
 clear hrow hskip hkeep hend
 have mixed : Tryz.prog.follows .mixedOrders = true := by kernel_rfl
 go_enter Tryz.func252, Tryz.ntmps252
 go_wp2_with (go_at_call 273; refine hix.mono ?_; rintro e w' ⟨rfl, hI⟩)
 go_loopg [5, 6, 7] n (fun gg s5 s6 _ wr => ∃ (i j : Nat), s5 = .int .i64 i ∧ s6 = .int .i64 j ∧ j ≤ n ∧ n - j ≤ gg ∧ Aside (Inv i j wr))
 case atStart => exact ⟨i0, i0 + 1, rfl, by go_num, by omega, by omega, hI⟩
 case round =>
  obtain ⟨i, j, rfl, rfl, hjn, hgg, I⟩ := hrel
  by_cases hlt : j < n
  ·have hltz : (j : Int) < (n : Int) := by omega
   obtain ⟨c0, c1⟩ := HR.out i j wr I.out hlt
   have hcall := HC.out i j wr I.out hlt
   have hil := hij i j wr I.out
   have HROW : Aside _ := HROW0.out i j wr
   have HSK : Aside _ := HSK0.out i j wr
   obtain ⟨e0, C0⟩ : ∃ e, Aside (E0 j = e) := ⟨_, rfl⟩
   rw [C0.out] at c0 hcall
   obtain ⟨e1, C1⟩ : ∃ e, Aside (E1 j = e) := ⟨_, rfl⟩
   rw [C1.out] at c1 hcall
   cases hq : pr j with
   | true =>
    rw [hq] at hcall
    go_wp2_with (go_at_call 253; refine hcall.mono ?_; rintro e w' ⟨rfl, hf⟩)
    go_roundg (n - (j + 1))
    case measure => omega
    case rel =>
     refine ⟨i, j + 1, rfl, by go_num, by omega, Nat.le_refl _, HSK.out w' I.out hlt hq ?_⟩
     rw [C0.out, C1.out]
     exact hf
   | false =>
    rw [hq] at hcall
    have hpost : ∀ w', Frm (wr.alloc (.cells #[.string e0, .int .i64 e1] 114)).heap.size (fun _ => False) (wr.alloc (.cells #[.string e0, .int .i64 e1] 114)) w' →
      w'.cell? ⟨wr.heap.size, 0, none⟩ = some (.string e0) ∧ w'.cell? ⟨wr.heap.size, 1, none⟩ = some (.int .i64 e1) ∧ (∃ u, w'.cell? ⟨b, off + i * 2, none⟩ = some u) ∧ (∃ u, w'.cell? ⟨b, off + i * 2 + 1, none⟩ = some u) ∧ w'.frozen? ⟨b, off + i * 2, none⟩ = false ∧ w'.frozen? ⟨b, off + i * 2 + 1, none⟩ = false := by
     intro w' hf
     obtain ⟨cur', hcur', hfit'⟩ := HROW.out w' I.out hlt (by rw [C0.out, C1.out]; exact hf)
     have hwn : (wr.alloc (.cells #[.string e0, .int .i64 e1] 114)).heap[wr.heap.size]? = some (.cells #[.string e0, .int .i64 e1] 114 (0, 0)) := by show (wr.heap.push _)[wr.heap.size]? = _; simp
     refine ⟨hf.cell0 ?_, hf.cell0 ?_, ?_, ?_, ?_, ?_⟩
     ·rw [cell_of_row _ _ _ _ 114 (0, 0) hwn]; rfl
     ·rw [cell_of_row _ _ _ _ 114 (0, 0) hwn]; rfl
     ·exact ⟨_, by rw [cell_of_row w' b _ cur' 114 (0, 0) hcur', Array.getElem?_eq_getElem (by omega)]⟩
     ·exact ⟨_, by rw [cell_of_row w' b _ cur' 114 (0, 0) hcur', Array.getElem?_eq_getElem (by omega)]⟩
     ·simp [World.frozen?, hcur']
     ·simp [World.frozen?, hcur']
    go_wp2_with (go_at_call 253; refine hcall.mono ?_; rintro e w' ⟨rfl, hf⟩; obtain ⟨d0, d1, ⟨u0, g0⟩, ⟨u1, g1⟩, f0, f1⟩ := hpost w' hf)
    go_roundg (n - (j + 1))
    case measure => omega
    case rel =>
     refine ⟨i + 1, j + 1, by go_num, by go_num, by omega, Nat.le_refl _, (show Aside _ from ?_)⟩
     have := HKP0.out i j wr w' I.out hlt hq (by rw [C0.out, C1.out]; exact hf)
     rw [C0.out, C1.out] at this
     exact this
  ·obtain rfl : j = n := by omega
   have hltz : ¬ (j : Int) < (j : Int) := by omega
   have hil := hij i j wr I.out
   obtain ⟨W2, hcl, hp⟩ := HEND.out i wr I.out
   have HP : Aside _ := hp
   clear hp
   have hic : i ≤ c := by omega
   have hci : ¬ (c = i) := by omega
   have hij1 : (i : Int) ≤ (j : Int) := by omega
   go_wp2
   go_ret
   exact ⟨i, rfl, HP.out⟩
end
def Pnu : T4 := (⟨#[]⟩, 0)
def Pac.f (a0 : List T4) (a1 : T26) : Option (List T4) := delG (Pab.f k a0 a1) (fun x => Pct.f k x a1) a0
def Pac.sig : Sig := ⟨[.give false K11, .clo 253 false 117 K15], [⟨false, K11, true⟩]⟩
def Pac.fn : Fn := ⟨Pac.sig, fun k (x : List T4 × T26) => Pac.f k x.1 x.2⟩
theorem Pac.ok (k : Nat) : FnOk Tryz.prog k 252 Pac.fn := by
 refine ⟨Qqo Tryz.func252 (by kernel_rfl) (by kernel_rfl), ?_⟩
 intro w S vs vss rows (x : List T4 × T26) (r : List T4) hsem hargs hparts hS hbn hbn2 hbS hnd hrows hgl
 obtain ⟨xs, cap⟩ := x
 change Pac.f k xs cap = some r at hsem
 unfold Pac.f delG at hsem
 obtain ⟨idx, hidx, hsem⟩ := Option.bind_eq_some_iff.1 hsem
 have hal := hargs.length
 obtain ⟨v0, v1, rfl⟩ := list2 hal.1
 obtain ⟨l0, l1, rfl⟩ := list2 hal.2
 obtain ⟨ha0, ⟨mb, rfl, hmb⟩, _⟩ := hargs
 simp only [Bool.false_eq_true, if_false] at ha0
 subst ha0
 obtain ⟨q0, qs, r1, r2, he, rfl, hp0, hp⟩ := hparts
 simp only [List.cons.injEq] at he
 obtain ⟨rfl, rfl⟩ := he
 obtain ⟨q1, he, hp1⟩ := hp
 simp only [List.cons.injEq, and_true] at he
 subst he
 have hp0 : OwnT w S K11 xs [v0] r1 := hp0
 obtain ⟨hp1, rfl⟩ : RdT w S K15 cap l1 ∧ r2 = [] := hp1
 have hrd0 : RdT w (fun b => S b ∨ b ∈ Blks r1) K11 xs [v0] := by
  obtain ⟨a, n, cp, h1, h2, h3, _⟩ := hp0
  refine ⟨a, n, cp, h1, h3.mono (fun b hb => .inr ?_) (fun _ _ => rfl) (fun x l => RdT.mono (fun b hb => .inl hb) fun _ _ => rfl)⟩
  subst h2
  cases a with
  | none => cases hb
  | some ad => simpa [Blks] using hb.symm
 obtain ⟨a, c, X, hl, rfl, hcap, hnil, hXl, hX, hblk⟩ := Qrc hp0 (by decide)
 simp only [List.cons.injEq, and_true] at hl
 subst hl
 simp only [List.append_nil] at hnd hrows ⊢
 have hcap : xs.length ≤ c := hcap
 have hix : Calls Tryz.prog 273 #[.slice a xs.length c, .func (.func 253) #[] #[.pointer (some ⟨mb, 0, none⟩)]] w (fun e w' => e = .returned (.int .i64 idx) ∧ Frm w.heap.size (fun _ => False) w w') := by
  refine ((Pab.ok k).run w (fun b => S b ∨ b ∈ Blks [(a.map (·.block), .slice a xs.length c)]) [.slice a xs.length c, .func (.func 253) #[] #[.pointer (some ⟨mb, 0, none⟩)]] [[.slice a xs.length c], l1] [] (xs, cap) idx hidx
   ⟨rfl, ⟨mb, rfl, hmb⟩, trivial⟩ ⟨_, _, [], [], rfl, rfl, ⟨hrd0, rfl⟩, _, rfl, ⟨hp1.mono (fun b hb => .inl hb) (fun _ _ => rfl), rfl⟩⟩
   (fun b hb => hb.elim (hS b) fun hb => (hrows b hb).2.1) List.nodup_nil (fun b hb => nomatch hb) (fun b hb => ?_) List.nodup_nil (fun b hb => nomatch hb) (hgl.mono (fun b hb => .inl hb) fun _ _ => rfl)).mono ?_
  ·exact fun h => h.elim (hbS b hb) fun h => (hrows b h).2.2 hb
  ·rintro e w' ⟨rv, S', vr, vo, rows', rfl, hfrm, _, _, _, hpr, hres, ho, _, _⟩
   obtain rfl : vo = [] := ho
   match vr, hres with
   | [l], hres =>
    have h1 := hres.1
    simp only [Bool.false_eq_true, if_false] at h1
    subst h1
    have := Qrp (own := true) (.inr ⟨_, rfl⟩) hpr
    simp only [RdT, List.cons.injEq, and_true] at this
    subst this
    exact ⟨rfl, hfrm.os, hfrm.tape, hfrm.output, rfl, hfrm.size, fun b hb _ => hfrm.block b hb fun h => h.elim (fun h => nomatch h) (fun h => nomatch h)⟩
   | [], hres => exact hres.elim
   | _ :: _ :: _, hres => exact hres.2.elim
 have hmS : ¬ S mb := hbS mb (List.mem_singleton.2 rfl : mb ∈ [mb])
 by_cases hi1 : idx = -1
 ·subst hi1
  rw [if_pos rfl] at hsem
  simp only [Zj] at hsem
  subst hsem
  refine (Hand.dfn0_slices_DeleteFunc_Link_impl_apply_in w a xs.length c mb _ hix).mono ?_
  rintro en w' ⟨rfl, hfrm⟩
  refine ⟨_, S, [[_]], [], [(a.map (·.block), .slice a xs.length c)], rfl, ⟨hfrm.os, hfrm.tape, hfrm.output, rfl, hfrm.size, fun b hb _ => hfrm.block b hb id⟩, fun _ h => h, fun _ h => .inl h, fun b hb => Nat.lt_of_lt_of_le (hS b hb) hfrm.size, ⟨_, rfl, ?_⟩, ⟨rfl, trivial⟩, rfl, hnd, fun b hb => ⟨(hrows b hb).1, Nat.lt_of_lt_of_le (hrows b hb).2.1 hfrm.size, (hrows b hb).2.2, .inl hb⟩⟩
  exact OwnT.mono (fun _ h => h) (fun b hb => hfrm.block b (hS b hb) id) (fun b hb => hfrm.block b (hrows b hb).2.1 id) hp0
 have hrows : ∀ b ∈ Blks [(a.map (·.block), .slice a xs.length c)], ¬ S b ∧ b < w.heap.size ∧ b ≠ mb := fun b hb => ⟨(hrows b hb).1, (hrows b hb).2.1, fun e => (hrows b hb).2.2 (List.mem_singleton.2 e : b ∈ [mb])⟩
 rw [if_neg hi1] at hsem
 split at hsem
 case isFalse => cases hsem
 rename_i hc
 obtain ⟨h0, hlt, hbig⟩ := hc
 obtain ⟨i0, rfl⟩ : ∃ n : Nat, idx = n := ⟨idx.toNat, by omega⟩
 have hlt : i0 < xs.length := by exact_mod_cast hlt
 simp only [Zn] at hsem
 obtain ⟨rest, hrest, rfl⟩ := Option.map_eq_some_iff.1 hsem
 obtain ⟨hp, rfl⟩ := Qpz hrest
 obtain ⟨q, hq⟩ : ∃ q : T4 → Bool, q = fun x => (Pct.f k x cap).getD false := ⟨_, rfl⟩
 have hpq : ∀ x ∈ xs.drop (i0 + 1), Pct.f k x cap = some (q x) := fun x hx => by obtain ⟨b, hb⟩ := hp x hx; simp [hq, hb]
 have hfin : xs.take i0 ++ (xs.drop (i0 + 1)).filter (fun x => !(Pct.f k x cap).getD false) = Qjk q xs i0 (xs.length - (i0 + 1)) := by
  unfold Qjk
  rw [List.take_of_length_le (l := xs.drop (i0 + 1)) (by rw [List.length_drop]; omega), hq]
 rw [hfin]
 cases a with
 | none => obtain ⟨rfl, _⟩ := hnil rfl; exact absurd hlt (Nat.not_lt_zero _)
 | some ad =>
  obtain ⟨b, off, asp⟩ := ad
  obtain ⟨hsp, cur, hcur, hfit, hXc⟩ := hblk _ rfl
  simp only at hsp hcur hfit hXc
  subst hsp
  have hfit : off + c * 2 ≤ cur.size := hfit
  have hXf := hX.flat (cv := Pkz) Pjk (fun x l h => by obtain ⟨_, _, rfl, rfl, rfl⟩ := h; rfl)
  subst hXf
  have hbb : b ∈ Blks [((some (⟨b, off, none⟩ : Addr)).map (·.block), .slice (some ⟨b, off, none⟩) xs.length c)] := by simp [Blks]
  have hbS' := hrows b hbb
  have hmbb : mb ≠ b := fun h => hbS'.2.2 h.symm
  have hmlt : mb < w.heap.size := (Array.getElem?_eq_some_iff.1 hmb).1
  obtain ⟨z, hzv, hzs, hz1⟩ := Hand.zeroLink
  have key := Hand.dfn_slices_DeleteFunc_Link_impl_apply_in w b off xs.length c i0 mb cur [] (fun j => ((xs[j]?).getD Pnu).1) (fun j => ((xs[j]?).getD Pnu).2) (fun j => q ((xs[j]?).getD Pnu))
   (fun i j W => ∃ d, j = i0 + 1 + d ∧ i = (Qjk q xs i0 d).length ∧ DInv 114 2 Pkz w b off cur.size xs (Qjk q xs i0 d) j W)
   (hix.mono (by
    rintro e w' ⟨rfl, hf⟩
    refine ⟨rfl, 0, rfl, ?_, ⟨⟨hf.os, hf.tape, hf.output, rfl, hf.size, fun k hk _ => hf.block k hk id⟩, cur, (hf.block b hbS'.2.1 id).trans hcur, rfl, fun q v hq => ?_, fun q v _ hq => hXc q v hq⟩⟩
    ·simp [Qjk]; omega
    ·simp only [Qjk, List.take_zero, List.filter_nil, List.append_nil] at hq
     refine hXc q v ?_
     rw [← List.take_append_drop i0 xs, List.flatMap_append, List.getElem?_append_left (List.getElem?_eq_some_iff.1 hq).1]
     exact hq))
   hlt (by omega) hcap
   (fun i j W hI hj => by
    obtain ⟨d, rfl, rfl, h⟩ := hI
    have hx : xs[i0 + 1 + d]? = some xs[i0 + 1 + d] := Zg hj
    exact ⟨by have := h.read (Pjk) hx (t := 0) rfl; simpa [hx] using this, by have := h.read (Pjk) hx (t := 1) rfl; simpa [hx] using this⟩)
   (fun i j W hI hj => by
    obtain ⟨d, rfl, rfl, h⟩ := hI
    have hx : xs[i0 + 1 + d]? = some xs[i0 + 1 + d] := Zg hj
    have hpx := hpq _ (List.mem_of_getElem? (by rw [List.getElem?_drop]; exact hx))
    simp only [hx, Option.getD_some]
    have hWs := h.frm.size
    have hkeep : ∀ k, k < w.heap.size → k ≠ b → (W.alloc (.cells (Pkz xs[i0 + 1 + d]).toArray 114)).heap[k]? = w.heap[k]? := fun k hk hkb => by
     show (W.heap.push _)[k]? = _
     rw [Array.getElem?_push, if_neg (by omega)]
     exact h.frm.block k hk hkb
    refine ((Pct.ok k).run _ S [.agg (Pkz xs[i0 + 1 + d]).toArray, .pointer (some ⟨mb, 0, none⟩)] [Pkz xs[i0 + 1 + d], l1] [] (xs[i0 + 1 + d], cap) (q xs[i0 + 1 + d]) hpx
     ⟨rfl, ⟨mb, rfl, (hkeep mb hmlt hmbb).trans hmb⟩, trivial⟩
     ⟨_, _, [], [], rfl, rfl, ⟨Prh _, rfl⟩, _, rfl, ⟨hp1.mono (fun _ h => h) (fun s hs => hkeep s (hS s hs) fun e => hbS'.1 (e ▸ hs)), rfl⟩⟩
     (fun s hs => by have := hS s hs; show s < (W.heap.push _).size; simp; omega) List.nodup_nil (fun b hb => nomatch hb) (fun s hs => by have hs : s = mb := List.mem_singleton.1 hs; rw [hs]; exact hmS) List.nodup_nil (fun b hb => nomatch hb) (hgl.mono (fun _ h => h) (fun s hs => hkeep s (hS s hs) fun e => hbS'.1 (e ▸ hs)))).mono ?_
    rintro e w' ⟨rv, S', vr, vo, rows', rfl, hfrm, _, _, _, hpr, hres, ho, _, _⟩
    obtain rfl : vo = [] := ho
    match vr, hres with
    | [l], hres =>
     have h1 := hres.1
     simp only [Bool.false_eq_true, if_false] at h1
     subst h1
     have := Qrp (own := true) (.inl rfl) hpr
     simp only [RdT, List.cons.injEq, and_true] at this
     subst this
     exact ⟨rfl, hfrm.os, hfrm.tape, hfrm.output, rfl, hfrm.size, fun b hb _ => hfrm.block b hb fun h => h.elim (fun h => nomatch h) (fun h => nomatch h)⟩
    | [], hres => exact hres.elim
    | _ :: _ :: _, hres => exact hres.2.elim)
   (fun i j W W' hI hj hpr hf => by
    obtain ⟨d, rfl, rfl, h⟩ := hI
    have hx : xs[i0 + 1 + d]? = some xs[i0 + 1 + d] := Zg hj
    simp only [hx, Option.getD_some] at hpr
    refine ⟨d + 1, rfl, ?_, ?_⟩ <;> rw [Qqe hx, hpr, Zy]
    exact (h.call hf).skip)
   (fun i j W W' hI hj hf => by
    obtain ⟨d, rfl, rfl, h⟩ := hI
    obtain ⟨cur', h1, h2, _⟩ := (h.call hf).row
    exact ⟨cur', h1, by omega⟩)
   (fun i j W W' hI hj hpr hf => by
    obtain ⟨d, rfl, rfl, h⟩ := hI
    have hx : xs[i0 + 1 + d]? = some xs[i0 + 1 + d] := Zg hj
    simp only [hx, Option.getD_some] at hpr hf ⊢
    have hkl := Qqq (q := q) (xs := xs) (i0 := i0) (d := d)
    refine ⟨d + 1, rfl, ?_, ?_⟩ <;> rw [Qqe hx, hpr, Zz]
    ·simp
    ·exact (h.call hf).keep Pjk (c := c) xs[i0 + 1 + d] (by omega) (by omega) (by omega))
   (fun i W2 => i = (Qjk q xs i0 (xs.length - (i0 + 1))).length ∧ Frm w.heap.size (fun x => x = b) w W2 ∧ ∃ cur', W2.heap[b]? = some (.cells cur' 114 (0, 0)) ∧ cur'.size = cur.size ∧ ∀ q' v, ((Qjk q xs i0 (xs.length - (i0 + 1))).flatMap Pkz)[q']? = some v → cur'[off + q']? = some v)
   (fun i W hI => by
    obtain ⟨d, hd, rfl, h⟩ := hI
    obtain rfl : d = xs.length - (i0 + 1) := by omega
    have hkl := Qqq (q := q) (xs := xs) (i0 := i0) (d := xs.length - (i0 + 1))
    obtain ⟨K, hK⟩ : ∃ K, K = Qjk q xs i0 (xs.length - (i0 + 1)) := ⟨_, rfl⟩
    rw [← hK] at h hkl ⊢
    obtain ⟨cur', h1, h2, h3, h4⟩ := h.row
    have hflat := Qnb Pjk K
    have hzl : (Builtin.zeroCells z.cells (xs.length - K.length)).toList.length = (xs.length - K.length) * 2 := by rw [Array.length_toList, size_zeroCells, hzs]
    refine ⟨_, fun ty dc => Qqm W 50 114 ty z Tryz.underlying50 hzv b (off + K.length * 2) (xs.length - K.length) dc cur' 114 h1 (by rw [hzl, h2]; omega) (hz1 _) (by omega), rfl, ?_, ?_⟩
    ·exact ⟨h.frm.os, h.frm.tape, h.frm.output, rfl, by rw [size_setRow]; exact h.frm.size, fun k hk hm => (setRow_other _ _ _ _ hm).trans (h.frm.block k hk hm)⟩
    ·refine ⟨_, setRow_heap _ b cur' _ 114 (0, 0) h1, ?_, fun q' v hv => ?_⟩
     ·simp only [List.size_toArray, List.length_append, List.length_take, List.length_drop, Array.length_toList, hzl] at *; omega
     ·have hlt' := (List.getElem?_eq_some_iff.1 hv).1
      simp only [List.getElem?_toArray]
      rw [Qke cur'.toList _ (off + K.length * 2) (off + q') (by rw [hzl]; simp; omega), if_pos (by omega)]
      simpa using h3 q' v hv)
   (fun i j W hI => by
    obtain ⟨d, rfl, rfl, h⟩ := hI
    have hkl := Qqq (q := q) (xs := xs) (i0 := i0) (d := d)
    omega)
  refine key.mono ?_
  rintro en w' ⟨i, rfl, rfl, hfrm, cur', hcur', hsz', hcells⟩
  have hkl := Qqq (q := q) (xs := xs) (i0 := i0) (d := xs.length - (i0 + 1))
  have hpost : Qhs 114 2 w (some b) ((Qjk q xs i0 (xs.length - (i0 + 1))).flatMap Pkz) (Qjk q xs i0 (xs.length - (i0 + 1))).length (.returned (.slice (some ⟨b, off, none⟩) (Qjk q xs i0 (xs.length - (i0 + 1))).length c)) w' :=
   ⟨b, off, c, cur', rfl, by omega, hcur', by omega, hcells, ⟨hfrm.os, hfrm.tape, hfrm.output, rfl, hfrm.size, fun k hk hm => hfrm.block k hk fun e => hm (by rw [e])⟩, .inl rfl⟩
  obtain ⟨rv, rows', h1, h2, h3, h4, h5, h6⟩ := Qri (e := 114) (c := K5) (S := S) (rows := [((some (⟨b, off, none⟩ : Addr)).map (·.block), .slice (some ⟨b, off, none⟩) xs.length c)]) hpost (FlatR.of_flat (rd := RdT w S K5) (size := 2) Pjk (xs := Qjk q xs i0 (xs.length - (i0 + 1))) fun x _ => Prh x) rfl hS
   (fun x hx => by cases hx; exact hbb) (fun x hx => ⟨(hrows x hx).1, (hrows x hx).2.1⟩) rfl
  refine ⟨rv, S, [[rv]], [], rows', h1, ⟨h2.os, h2.tape, h2.output, rfl, h2.size, fun k hk hm => h2.block k hk fun h => h.elim (fun h => nomatch h) fun h => hm (.inr h)⟩, fun _ h => h, fun _ h => .inl h, h3, h4, ⟨rfl, trivial⟩, rfl, h5, fun x hx => ⟨(h6 x hx).1, (h6 x hx).2.1, fun h => ?_, (h6 x hx).2.2.2⟩⟩
  have hxm : x = mb := List.mem_singleton.1 h
  rcases (h6 x hx).2.2.2 with h' | h'
  ·exact (hrows x h').2.2 hxm
  ·omega
section
open Go.Proofs Go.Shelf Go.RowKit Go.Lib
set_option maxHeartbeats 4000000 in
set_option maxRecDepth 100000 in
theorem Hand.del_Link (w : World) (b off n c i j : Nat) (cur : Array Value) (X : List Value) (hb : w.heap[b]? = some (.cells cur 114 (0, 0)))
  (hij : i < j) (hj : j ≤ n) (hnc : n ≤ c) (hfit : off + c * 2 ≤ cur.size)
  (hXl : X.length = n * 2) (hX : ∀ (j : Nat) (v : Value), X[j]? = some v → cur[off + j]? = some v) (h1X : ∀ v ∈ X, v.oneCell' = true) :
  Calls Tryz.prog 254 #[.slice (some ⟨b, off, none⟩) n c, .int .i64 i, .int .i64 j] w (Qhs 114 2 w (some b) (X.take (i * 2) ++ X.drop (j * 2)) (i + (n - j))) := by
 obtain ⟨i0, hi0, hz0, hbt, _⟩ := Hand.infoLink
 obtain ⟨z, hzv, hzs, hz1⟩ := Hand.zeroLink
 have hdl : (X.drop (j * 2)).length = (n - j) * 2 := by rw [List.length_drop, hXl, Nat.sub_mul]
 obtain ⟨A, hA⟩ : ∃ A : Array Value, A = (cur.toList.take (off + i * 2) ++ X.drop (j * 2) ++ cur.toList.drop (off + i * 2 + (X.drop (j * 2)).length)).toArray := ⟨_, rfl⟩
 have hAl : A.toList = cur.toList.take (off + i * 2) ++ X.drop (j * 2) ++ cur.toList.drop (off + i * 2 + (X.drop (j * 2)).length) := by rw [hA]
 have hAs : A.size = cur.size := by rw [hA]; simp only [List.size_toArray, List.length_append, List.length_take, List.length_drop, Array.length_toList, hXl]; omega
 have hap : ∀ ty (ad : Addr), (n - j = 0 ∨ ad = ⟨b, off + j * 2, none⟩) → (Builtin.append_ #[50, 50] ty #[.slice (some ⟨b, off, none⟩) i c, .slice (some ad) (n - j) (c - j)]).run Tryz.prog w.drew = .ok (.slice (some ⟨b, off, none⟩) (i + (n - j)) c) (w.drew.setRow b A) := fun ty ad had => by
  have := Qhm w.drew 50 ty 114 i0 Tryz.underlying50 hi0 b off i c cur hb ad (n - j) (c - j) (X.drop (j * 2)) (by rw [hdl, hz0]) (fun q u hq => by
   rcases had with h0 | rfl
   ·have := (List.getElem?_eq_some_iff.1 hq).1; rw [hdl, h0] at this; omega
   ·rw [List.getElem?_drop] at hq
    show w.cell? _ = _
    rw [Addr.add_lit, cell_of_row w b _ cur 114 (0, 0) hb, show off + j * 2 + q = off + (j * 2 + q) by omega]
    exact hX _ u hq) (fun v hv => h1X v (List.mem_of_mem_drop hv)) (by omega) (by rw [hz0, hdl]; omega)
  rw [hz0, ← hA] at this
  exact this
 have hgA : (w.drew.setRow b A).heap[b]? = some (.cells A 114 (0, 0)) := setRow_heap w.drew b cur A 114 (0, 0) hb
 obtain ⟨ZZ, hZZ⟩ : ∃ ZZ, ZZ = (Builtin.zeroCells z.cells (n - (i + (n - j)))).toList := ⟨_, rfl⟩
 have hZl : ZZ.length = (j - i) * 2 := by rw [hZZ, Array.length_toList, size_zeroCells, hzs]; congr 1; omega
 obtain ⟨B, hB⟩ : ∃ B : Array Value, B = (A.toList.take (off + (i + (n - j)) * 2) ++ ZZ ++ A.toList.drop (off + (i + (n - j)) * 2 + ZZ.length)).toArray := ⟨_, rfl⟩
 have hBl : B.toList = A.toList.take (off + (i + (n - j)) * 2) ++ ZZ ++ A.toList.drop (off + (i + (n - j)) * 2 + ZZ.length) := by rw [hB]
 have hBs : B.size = A.size := by rw [hB]; simp only [List.size_toArray, List.length_append, List.length_take, List.length_drop, Array.length_toList, hZl]; omega
 have hcl : ∀ ty dc, (Builtin.clear_ #[50] ty #[.slice (some ⟨b, off + (i + (n - j)) * 2, none⟩) (n - (i + (n - j))) dc]).run Tryz.prog (w.drew.setRow b A) = .ok (.tuple #[]) ((w.drew.setRow b A).setRow b B) := fun ty dc => by
  rw [hB, hZZ]
  exact Qqm _ 50 114 ty z Tryz.underlying50 hzv b (off + (i + (n - j)) * 2) (n - (i + (n - j))) dc A 114 hgA (by rw [← hZZ, hZl, hAs]; omega) (hz1 _) (by omega)
 have hfin : ∀ (q : Nat) (v : Value), (X.take (i * 2) ++ X.drop (j * 2))[q]? = some v → B[off + q]? = some v := by
  intro q v hq
  have hXt : (X.take (i * 2)).length = i * 2 := by rw [List.length_take, hXl]; omega
  have hql : q < i * 2 + (n - j) * 2 := by
   have := (List.getElem?_eq_some_iff.1 hq).1
   rwa [List.length_append, hXt, hdl] at this
  rw [← Array.getElem?_toList, hBl, Qke A.toList ZZ _ (off + q) (by rw [hZl]; simp; omega), if_pos (by omega), hAl, Qke cur.toList (X.drop (j * 2)) (off + i * 2) (off + q) (by rw [hdl]; simp; omega), hdl]
  by_cases c1 : q < i * 2
  ·rw [if_pos (by omega)]
   rw [List.getElem?_append_left (by omega), List.getElem?_take, if_pos c1] at hq
   simpa using hX q v hq
  ·rw [if_neg (by omega), if_pos (by omega)]
   rw [List.getElem?_append_right (by omega), hXt] at hq
   rw [show off + q - (off + i * 2) = q - i * 2 by omega]; exact hq
 have F : Aside ((w.drew.setRow b A).heap[b]? = some (.cells A 114 (0, 0)) ∧ off + c * 2 ≤ B.size ∧ (∀ (q : Nat) (v : Value), (X.take (i * 2) ++ X.drop (j * 2))[q]? = some v → B[off + q]? = some v)) := ⟨hgA, by omega, hfin⟩
 have hzz : ¬ ((i : Int) = (j : Int)) := by omega
 have hci : ¬ (c = i) := by omega
 have hcl2 : ¬ (c = i + (n - j)) := by omega
 have hle1 : i ≤ j := by omega
 have hle2 : (i : Int) ≤ (j : Int) := by omega
 have hle3 : (j : Int) ≤ (n : Int) := by omega
 have hle4 : (n : Int) ≤ (c : Int) := by omega
 have hle5 : i ≤ c := by omega
 have hle6 : j ≤ c := by omega
 have hle7 : i + (n - j) ≤ n := by omega
 obtain ⟨AD, hAD, hadj⟩ : ∃ AD : Addr, (if c = j then some (⟨b, off, none⟩ : Addr) else some ⟨b, off + j * 2, none⟩) = some AD ∧ (n - j = 0 ∨ AD = ⟨b, off + j * 2, none⟩) := by
  by_cases h : c = j
  ·exact ⟨_, by rw [if_pos h], .inl (by omega)⟩
  ·exact ⟨_, by rw [if_neg h], .inr rfl⟩
 have hap' := fun ty => hap ty AD hadj
 clear hA hAl hAs hgA hB hBl hBs hfin hdl hX hb hZZ hZl hap hadj hz1
 have mixed : Tryz.prog.follows .mixedOrders = true := by kernel_rfl
 go_enter Tryz.func254, Tryz.ntmps254
 go_wp2_with fail
 go_region_law_o (refine Qof rfl (.tmp 22) (.tmp 25) 50 50 rfl (.slice (some ⟨b, off, none⟩) i c) (.slice (some AD) (n - j) (c - j)) (by simp [Act.eval, Act.put]) (by simp [Act.eval, Act.put, hAD]) (hap' _) ?_)
 go_wp2
 go_ret
 refine ⟨b, off, c, B, rfl, by omega, setRow_heap _ b A B 114 (0, 0) F.out.1, F.out.2.1, F.out.2.2, ⟨rfl, rfl, rfl, rfl, by simp [size_setRow], fun k hk hm => ?_⟩, .inl rfl⟩
 rw [setRow_other _ b _ _ (fun e => hm (by rw [e])), setRow_other _ b _ _ (fun e => hm (by rw [e]))]
 rfl
set_option maxHeartbeats 4000000 in
theorem Hand.del_eq_Link (w : World) (b : Option Addr) (n c i : Nat) (hi : i ≤ n) (hnc : n ≤ c) (hn : b = none → n = 0 ∧ c = 0) (hsp : ∀ ad, b = some ad → ad.spot = none) :
  Calls Tryz.prog 254 #[.slice b n c, .int .i64 i, .int .i64 i] w (fun e w' => e = .returned (.slice b n c) ∧ w' = w) := by
 have hle3 : (i : Int) ≤ (n : Int) := by omega
 have hle4 : (n : Int) ≤ (c : Int) := by omega
 have hle5 : i ≤ c := by omega
 cases b with
 | none =>
  obtain ⟨rfl, rfl⟩ := hn rfl
  obtain rfl : i = 0 := by omega
  go_enter Tryz.func254, Tryz.ntmps254
  go_wp2
  all_goals (go_ret; exact ⟨rfl, rfl⟩)
 | some ad =>
  obtain ⟨b, off, sp⟩ := ad
  have := hsp _ rfl
  simp only at this
  subst this
  clear hsp
  go_enter Tryz.func254, Tryz.ntmps254
  go_wp2
  all_goals (go_ret; exact ⟨rfl, rfl⟩)
end
def Pak.f (k : Nat) (a0 : List T4) (a1 : Int) (a2 : Int) : Option (List T4) := delR a0 a1 a2
def Pak.sig : Sig := ⟨[.give false K11, .val false K0, .val false K0], [⟨false, K11, true⟩]⟩
def Pak.fn : Fn := ⟨Pak.sig, fun k (x : List T4 × T6) => Pak.f k x.1 x.2.1 x.2.2⟩
theorem Pak.ok (k : Nat) : FnOk Tryz.prog k 254 Pak.fn := by
 refine ⟨Qqo Tryz.func254 (by kernel_rfl) (by kernel_rfl), ?_⟩
 intro w S vs vss rows (x : List (K5 : CK).T × T6) (r : List (K5 : CK).T) hsem hargs hparts hS hbn hbn2 hbS hnd hrows hgl
 obtain ⟨xs, i, j⟩ := x
 change Pak.f k xs i j = some r at hsem
 unfold Pak.f delR at hsem
 split at hsem
 case isFalse => cases hsem
 rename_i hc
 obtain ⟨hi0, hij, hj⟩ : 0 ≤ i ∧ i ≤ j ∧ j ≤ xs.length := hc
 have hsem : xs.take i.toNat ++ xs.drop j.toNat = r := Option.some.inj hsem
 obtain ⟨n, rfl⟩ : ∃ n : Nat, i = n := ⟨i.toNat, by omega⟩
 obtain ⟨q, rfl⟩ : ∃ n : Nat, j = n := ⟨j.toNat, by omega⟩
 have hsem : xs.take n ++ xs.drop q = r := hsem
 have hij : n ≤ q := by exact_mod_cast hij
 have hj : q ≤ xs.length := by exact_mod_cast hj
 have hal := hargs.length
 obtain ⟨v0, v1, v2, rfl⟩ := list3 hal.1
 obtain ⟨l0, l1, l2, rfl⟩ := list3 hal.2
 obtain ⟨ha0, ha1, ha2, _⟩ := hargs
 simp only [Bool.false_eq_true, if_false] at ha0 ha1 ha2
 subst ha0; subst ha1; subst ha2
 obtain ⟨q0, qs, r1, r2, he, rfl, hp0, hp⟩ := hparts
 simp only [List.cons.injEq] at he
 obtain ⟨rfl, rfl⟩ := he
 obtain ⟨q1, qs, r3, r4, he, rfl, hp1, hp2⟩ := hp
 simp only [List.cons.injEq] at he
 obtain ⟨rfl, rfl⟩ := he
 obtain ⟨q2, he, hp2⟩ := hp2
 simp only [List.cons.injEq, and_true] at he
 subst he
 have hp0 : OwnT w S K11 xs [v0] r1 := hp0
 obtain ⟨hp1, rfl⟩ : RdT w S K0 (n : Int) [v1] ∧ r3 = [] := hp1
 obtain ⟨hp2, rfl⟩ : RdT w S K0 (q : Int) [v2] ∧ r4 = [] := hp2
 have hv1 : v1 = .int .i64 n := by simpa [RdT] using hp1
 have hv2 : v2 = .int .i64 q := by simpa [RdT] using hp2
 subst hv1; subst hv2
 obtain ⟨a, cap, X, hl, rfl, hcap, hnil, hXl, hX, hblk⟩ := Qrc hp0 (by decide)
 simp only [List.cons.injEq, and_true] at hl
 subst hl
 have h1X := hX.one (by decide : 0 < (K5 : CK).size) (by decide)
 cases a with
 | none =>
  obtain ⟨rfl, rfl⟩ := hnil rfl
  obtain rfl : q = 0 := by simpa using hj
  obtain rfl : n = 0 := by omega
  refine (Hand.del_eq_Link w none 0 0 0 (Nat.le_refl _) (Nat.le_refl _) (fun _ => ⟨rfl, rfl⟩) (fun _ h => nomatch h)).mono ?_
  rintro en w' ⟨rfl, rfl⟩
  obtain rfl : r = [] := by rw [← hsem]; rfl
  obtain ⟨rv, rows', h1, h2, h3, h4, h5, h6⟩ := Qrl (e := 114) (c := K5) (w := w') (S := S) (n := 0) (cap := 0) rfl rfl hS _
  exact ⟨rv, S, [[rv]], [], rows', h1, h2, fun _ h => h, fun _ h => .inl h, h3, h4, ⟨rfl, trivial⟩, rfl, h5, fun x hx => ⟨(h6 x hx).1, (h6 x hx).2.1, (h6 x hx).2.2.1, (h6 x hx).2.2.2.imp (fun h => h.elim) id⟩⟩
 | some ad =>
  obtain ⟨hsp, cur, hcur, hfit, hXc⟩ := hblk _ rfl
  have key : Calls Tryz.prog 254 #[.slice (some ad) xs.length cap, .int .i64 n, .int .i64 q] w (Qhs 114 2 w (some ad.block) (X.take (n * 2) ++ X.drop (q * 2)) (n + (xs.length - q))) := by
   by_cases he : n = q
   ·subst he
    refine (Hand.del_eq_Link w (some ad) xs.length cap n hj hcap (fun h => nomatch h) (fun _ h => by cases h; exact hsp)).mono ?_
    rintro en w' ⟨rfl, rfl⟩
    rw [List.take_append_drop, show n + (xs.length - n) = xs.length by omega]
    exact Qhs.same hsp hcap hcur hfit hXc
   ·obtain ⟨ab, ao, asp⟩ := ad
    simp only at hsp hcur hfit hXc
    subst hsp
    exact Hand.del_Link w ab ao xs.length cap n q cur X hcur (by omega) hj hcap hfit hXl hXc h1X
  refine key.mono ?_
  intro en w' hpost
  have hflat : FlatR (RdT w S K5) (K5 : CK).size r (X.take (n * 2) ++ X.drop (q * 2)) := by
   rw [← hsem]
   exact (hX.take n).append (hX.drop q hj)
  have hrl : n + (xs.length - q) = r.length := by
   rw [← hsem, List.length_append, List.length_take, List.length_drop]; omega
  obtain ⟨rv, rows', h1, h2, h3, h4, h5, h6⟩ := Qri (e := 114) (c := K5) (rows := [(some ad.block, .slice (some ad) xs.length cap)] ++ ([] ++ [])) hpost hflat hrl hS
   (fun x hx => by simp at hx; simp [Blks, hx]) (fun x hx => ⟨(hrows x hx).1, (hrows x hx).2.1⟩) rfl
  exact ⟨rv, S, [[rv]], [], rows', h1, h2, fun _ h => h, fun _ h => .inl h, h3, h4, ⟨rfl, trivial⟩, rfl, h5, h6⟩
def Phm.f (a0 : List T4) (a1 : T26) : Option (List T4 × Bool) :=
 (Pcx.f k a0).bind fun r1 => (Pga.f k a0 a1.2.1).bind fun r2 => bif decide (a1.1 = 1) then bif decide (a1.2.2.1 = Ze) then bif decide (r2 < 0) then (Pcn.f k r1 (a1.2.1, a1.2.2.2)).bind fun r3 => some (r3, true) else bif decide (a1.1 = 2) then bif decide (a1.2.2.2 = 0) then bif decide (0 ≤ r2) then bif !decide (a1.2.2.1 = a1.2.1) then (Pch.f k a1.2.2.1).bind fun r4 => bif r4 then (Pac.f k r1 a1).bind fun r5 => (inb? a0.length r2).bind fun j6 => (a0[j6]?).bind fun y7 => (Pcn.f k r5 (a1.2.2.1, y7.2)).bind fun r8 => some (r8, true) else bif decide (a1.1 = 3) then bif decide (a1.2.2.1 = Ze) then bif decide (a1.2.2.2 = 0) then bif decide (0 ≤ r2) then (Pak.f k r1 r2 (Zr (r2 + 1))).bind fun r9 => some (r9, true) else some (r1, false) else some (r1, false) else some (r1, false) else some (r1, false) else bif decide (a1.1 = 3) then bif decide (a1.2.2.1 = Ze) then bif decide (a1.2.2.2 = 0) then bif decide (0 ≤ r2) then (Pak.f k r1 r2 (Zr (r2 + 1))).bind fun r10 => some (r10, true) else some (r1, false) else some (r1, false) else some (r1, false) else some (r1, false) else bif decide (a1.1 = 3) then bif decide (a1.2.2.1 = Ze) then bif decide (a1.2.2.2 = 0) then bif decide (0 ≤ r2) then (Pak.f k r1 r2 (Zr (r2 + 1))).bind fun r11 => some (r11, true) else some (r1, false) else some (r1, false) else some (r1, false) else some (r1, false) else bif decide (a1.1 = 3) then bif decide (a1.2.2.1 = Ze) then bif decide (a1.2.2.2 = 0) then bif decide (0 ≤ r2) then (Pak.f k r1 r2 (Zr (r2 + 1))).bind fun r12 => some (r12, true) else some (r1, false) else some (r1, false) else some (r1, false) else some (r1, false) else bif decide (a1.1 = 3) then bif decide (a1.2.2.1 = Ze) then bif decide (a1.2.2.2 = 0) then bif decide (0 ≤ r2) then (Pak.f k r1 r2 (Zr (r2 + 1))).bind fun r13 => some (r13, true) else some (r1, false) else some (r1, false) else some (r1, false) else some (r1, false) else bif decide (a1.1 = 2) then bif decide (a1.2.2.2 = 0) then bif decide (0 ≤ r2) then bif !decide (a1.2.2.1 = a1.2.1) then (Pch.f k a1.2.2.1).bind fun r14 => bif r14 then (Pac.f k r1 a1).bind fun r15 => (inb? a0.length r2).bind fun j16 => (a0[j16]?).bind fun y17 => (Pcn.f k r15 (a1.2.2.1, y17.2)).bind fun r18 => some (r18, true) else bif decide (a1.1 = 3) then bif decide (a1.2.2.1 = Ze) then bif decide (a1.2.2.2 = 0) then bif decide (0 ≤ r2) then (Pak.f k r1 r2 (Zr (r2 + 1))).bind fun r19 => some (r19, true) else some (r1, false) else some (r1, false) else some (r1, false) else some (r1, false) else bif decide (a1.1 = 3) then bif decide (a1.2.2.1 = Ze) then bif decide (a1.2.2.2 = 0) then bif decide (0 ≤ r2) then (Pak.f k r1 r2 (Zr (r2 + 1))).bind fun r20 => some (r20, true) else some (r1, false) else some (r1, false) else some (r1, false) else some (r1, false) else bif decide (a1.1 = 3) then bif decide (a1.2.2.1 = Ze) then bif decide (a1.2.2.2 = 0) then bif decide (0 ≤ r2) then (Pak.f k r1 r2 (Zr (r2 + 1))).bind fun r21 => some (r21, true) else some (r1, false) else some (r1, false) else some (r1, false) else some (r1, false) else bif decide (a1.1 = 3) then bif decide (a1.2.2.1 = Ze) then bif decide (a1.2.2.2 = 0) then bif decide (0 ≤ r2) then (Pak.f k r1 r2 (Zr (r2 + 1))).bind fun r22 => some (r22, true) else some (r1, false) else some (r1, false) else some (r1, false) else some (r1, false) else bif decide (a1.1 = 3) then bif decide (a1.2.2.1 = Ze) then bif decide (a1.2.2.2 = 0) then bif decide (0 ≤ r2) then (Pak.f k r1 r2 (Zr (r2 + 1))).bind fun r23 => some (r23, true) else some (r1, false) else some (r1, false) else some (r1, false) else some (r1, false) else bif decide (a1.1 = 2) then bif decide (a1.2.2.2 = 0) then bif decide (0 ≤ r2) then bif !decide (a1.2.2.1 = a1.2.1) then (Pch.f k a1.2.2.1).bind fun r24 => bif r24 then (Pac.f k r1 a1).bind fun r25 => (inb? a0.length r2).bind fun j26 => (a0[j26]?).bind fun y27 => (Pcn.f k r25 (a1.2.2.1, y27.2)).bind fun r28 => some (r28, true) else bif decide (a1.1 = 3) then bif decide (a1.2.2.1 = Ze) then bif decide (a1.2.2.2 = 0) then bif decide (0 ≤ r2) then (Pak.f k r1 r2 (Zr (r2 + 1))).bind fun r29 => some (r29, true) else some (r1, false) else some (r1, false) else some (r1, false) else some (r1, false) else bif decide (a1.1 = 3) then bif decide (a1.2.2.1 = Ze) then bif decide (a1.2.2.2 = 0) then bif decide (0 ≤ r2) then (Pak.f k r1 r2 (Zr (r2 + 1))).bind fun r30 => some (r30, true) else some (r1, false) else some (r1, false) else some (r1, false) else some (r1, false) else bif decide (a1.1 = 3) then bif decide (a1.2.2.1 = Ze) then bif decide (a1.2.2.2 = 0) then bif decide (0 ≤ r2) then (Pak.f k r1 r2 (Zr (r2 + 1))).bind fun r31 => some (r31, true) else some (r1, false) else some (r1, false) else some (r1, false) else some (r1, false) else bif decide (a1.1 = 3) then bif decide (a1.2.2.1 = Ze) then bif decide (a1.2.2.2 = 0) then bif decide (0 ≤ r2) then (Pak.f k r1 r2 (Zr (r2 + 1))).bind fun r32 => some (r32, true) else some (r1, false) else some (r1, false) else some (r1, false) else some (r1, false) else bif decide (a1.1 = 3) then bif decide (a1.2.2.1 = Ze) then bif decide (a1.2.2.2 = 0) then bif decide (0 ≤ r2) then (Pak.f k r1 r2 (Zr (r2 + 1))).bind fun r33 => some (r33, true) else some (r1, false) else some (r1, false) else some (r1, false) else some (r1, false)
theorem Phm.ok : Yg 193 ⟨⟨[.v K11, .w K15], [.f K11, .f .bool]⟩, fun k (x : List T4 × T26) => Phm.f k x.1 x.2⟩ := Yq 96 Yv (.m 3 (.seq (.blk (.n (.cond (.n .l) (.n (.cond (.n (.n .l)) .c))))) (.n .l))) Tryz.func193 (Yc Pcx.ok (Yc Pga.ok (Yc Pcn.ok (Yc Pch.ok (Yc Pac.ok (Yc Pak.ok Yn))))))
def Pam.c0 (k : Nat) (y : Bool × List Int × List T4 × Int × Int × T1 × T4) : Option T39 :=
 (app? (limOf 8) y.2.1 ([y.2.2.2.2.2.2.2])).bind fun l1 => some (.inl (y.1, l1, y.2.2.1, y.2.2.2.1, Zr (y.2.2.2.2.1 + 1), y.2.2.2.2.2.1))
def Pam.b0 (s : Bool × List Int × List T4 × Int × Int × T1) : Option T39 :=
 bif decide (s.2.2.2.2.1 < s.2.2.2.1) then (inb? s.2.2.1.length s.2.2.2.2.1).bind fun j1 => (s.2.2.1[j1]?).bind fun y2 => Option.bind (α := (Bool × List Int × List T4 × Int × Int × T1 × T4) ⊕ Bool) ((Pch.f k y2.1).bind fun r3 => bif !r3 then some (.inr false) else bif decide (0 < s.2.2.2.2.1) then (inb? s.2.2.2.2.2.2.2.2.1.length (Zr (s.2.2.2.2.1 - 1))).bind fun j4 => (s.2.2.2.2.2.2.2.2.1[j4]?).bind fun y5 => bif !strLt y5.1 y2.1 then some (.inr false) else (Pdz.f k s.2.2.2.2.2 y2.2).bind fun r6 => bif decide (r6 < 0) then some (.inr false) else (Pci.f k s.2.1 y2.2).bind fun r7 => bif r7 then some (.inr false) else some (.inl (s.1, s.2.1, s.2.2.1, s.2.2.2.1, s.2.2.2.2.1, s.2.2.2.2.2, y2)) else (Pdz.f k s.2.2.2.2.2 y2.2).bind fun r8 => bif decide (r8 < 0) then some (.inr false) else (Pci.f k s.2.1 y2.2).bind fun r9 => bif r9 then some (.inr false) else some (.inl (s.1, s.2.1, s.2.2.1, s.2.2.2.1, s.2.2.2.2.1, s.2.2.2.2.2, y2))) fun r => match r with | .inl y => Pam.c0 k y | .inr o => some (.inr (.inr o)) else some (.inr (.inl (s.1, s.2.1, s.2.2.2.2.2)))
def Pam.b1 (s : Bool × List Int × List T4 × List T26 × Int × Int × T1) : Option ((Bool × List Int × List T4 × List T26 × Int × Int × T1) ⊕ (Bool × List Int × T1) ⊕ Bool) :=
 bif decide (s.2.2.2.2.2.1 < s.2.2.2.2.1) then (inb? s.2.2.2.1.length s.2.2.2.2.2.1).bind fun j1 => (s.2.2.2.1[j1]?).bind fun y2 => (Phm.f k s.2.2.1 y2).bind fun r3 => bif !r3.2 then some (.inr (.inr false)) else (Pch.f k y2.2.1).bind fun r4 => bif !r4 then some (.inr (.inr false)) else bif decide (y2.1 = 1) then (Pdz.f k s.2.2.2.2.2.2 y2.2.2.2).bind fun r5 => bif decide (r5 < 0) then some (.inr (.inr false)) else (Pci.f k s.2.1 y2.2.2.2).bind fun r6 => bif r6 then some (.inr (.inr false)) else (app? (limOf 8) s.2.1 ([y2.2.2.2])).bind fun l7 => some (.inl (s.1, l7, r3.1, s.2.2.2.1, s.2.2.2.2.1, Zr (s.2.2.2.2.2.1 + 1), s.2.2.2.2.2.2)) else some (.inl (s.1, s.2.1, r3.1, s.2.2.2.1, s.2.2.2.2.1, Zr (s.2.2.2.2.2.1 + 1), s.2.2.2.2.2.2)) else some (.inr (.inl (s.1, s.2.1, s.2.2.2.2.2.2)))
def Pam.d1 (k : Nat) (y : Bool × List Int × T1) : Option Bool :=
 some (decide ((y.2.1.length : Int) = (y.2.2.2.2.1.length : Int)))
def Pam.d0 (y : Bool × List Int × T1) : Option Bool :=
 (Pcx.f k y.2.2.2.2.2.1).bind fun r1 => (iter (X := (Bool × List Int × T1) ⊕ Bool) (Pam.b1 k) k (y.1, y.2.1, r1, y.2.2.2.2.2.2, (y.2.2.2.2.2.2.length : Int), 0, y.2.2)).bind fun r => match r with | .inl y => Pam.d1 k y | .inr o => some o
def Pam.f (a0 : T1) : Option Bool :=
 (iter (X := (Bool × List Int × T1) ⊕ Bool) (Pam.b0 k) k (false, [], a0.2.2.2.1, (a0.2.2.2.1.length : Int), 0, a0)).bind fun r => match r with | .inl y => Pam.d0 k y | .inr o => some o
theorem Pam.ok : Yg 101 ⟨⟨[.w K2], [.f .bool]⟩, fun k (x : T1) => Pam.f k x⟩ := Yq 110 (Yk 3 K0 Yv) (.n (.n (.seq (.n (.lp [.ptr 1 1000, .s 2 .bool, .o 3 K18, .s 13 K11, .s 14 K0, .s 15 K0, .box 1000 53 K2 false false] 71 (.n (.seq (.cond .l .l) (.seq (.blk (.n (.seq (.cut [.ptr 1 1000, .s 2 .bool, .o 3 K18, .ptr 5 5003, .s 13 K11, .s 14 K0, .s 15 K0, .box 1000 53 K2 false false, .box 5003 114 K5 false false] .c) .l))) .l))))) (.n (.seq (.n (.lp [.ptr 1 1000, .s 2 .bool, .o 3 K18, .o 6 K11, .s 63 K29, .s 64 K0, .s 65 K0, .box 1000 53 K2 false false] 135 (.n (.seq (.cond .l .l) (.seq (.blk (.n (.n (.seq .c (.seq (.n (.cond (.seq .c .l) .l)) .l))))) .l))))) (.n .l)))))) Tryz.func101 (Yc Pch.ok (Yc Pdz.ok (Yc Pci.ok (Yc Pcx.ok (Yc Phm.ok Yn)))))
def Pcg.b0 (s : Bool × List T22 × Int × Int × T1) : Option ((Bool × List T22 × Int × Int × T1) ⊕ (Bool × T1) ⊕ Bool) :=
 bif decide (s.2.2.2.1 < s.2.2.1) then (inb? s.2.1.length s.2.2.2.1).bind fun j1 => (s.2.1[j1]?).bind fun y2 => (Paa.f k y2.1 1 (Zr (s.2.2.2.2.2.1 - 1))).bind fun r3 => bif !r3 then some (.inr (.inr false)) else bif decide (0 < s.2.2.2.1) then (inb? s.2.2.2.2.2.2.1.length (Zr (s.2.2.2.1 - 1))).bind fun j4 => (s.2.2.2.2.2.2.1[j4]?).bind fun y5 => bif decide (y2.1 ≤ y5.1) then some (.inr (.inr false)) else (Paa.f k y2.2.2 0 (y2.2.1.size : Int)).bind fun r6 => bif !r6 then some (.inr (.inr false)) else some (.inl (s.1, s.2.1, s.2.2.1, Zr (s.2.2.2.1 + 1), s.2.2.2.2)) else (Paa.f k y2.2.2 0 (y2.2.1.size : Int)).bind fun r7 => bif !r7 then some (.inr (.inr false)) else some (.inl (s.1, s.2.1, s.2.2.1, Zr (s.2.2.2.1 + 1), s.2.2.2.2)) else some (.inr (.inl (s.1, s.2.2.2.2)))
def Pcg.d0 (y : Bool × T1) : Option Bool :=
 (Pam.f k y.2).bind fun r1 => some r1
def Pcg.f (a0 : T1) : Option Bool :=
 (Paa.f k a0.1 0 1048576).bind fun r1 => bif !r1 then some false else (Paa.f k a0.2.1 1 1000000).bind fun r2 => bif !r2 then some false else bif decide (10 < (a0.2.2.1.length : Int)) then some false else (Pcl.f k a0).bind fun r3 => bif decide (a0.1 < r3) then some false else bif decide (20 < (a0.2.2.2.2.length : Int)) then some false else (iter (X := (Bool × T1) ⊕ Bool) (Pcg.b0 k) k (false, a0.2.2.1, (a0.2.2.1.length : Int), 0, a0)).bind fun r => match r with | .inl y => Pcg.d0 k y | .inr o => some o
theorem Pcg.ok : Yg 42 ⟨⟨[.w K2], [.f .bool]⟩, fun k (x : T1) => Pcg.f k x⟩ := Yq 77 Yv (.n (.seq .c (.seq (.n (.lp [.ptr 1 1000, .s 2 .bool, .s 35 K28, .s 36 K0, .s 37 K0, .box 1000 53 K2 false false] 35 (.n (.seq (.cond .l .l) (.seq (.blk (.n .c)) .l))))) (.n .l)))) Tryz.func42 (Yc Paa.ok (Yc Pcl.ok (Yc Pam.ok Yn)))
def Pjs.f (a0 : Int) (a1 : Int) : Option Bool :=
 (Paa.f k a0 0 20).bind fun r1 => bif r1 then (Paa.f k a1 0 1048576).bind fun r2 => some r2 else some false
theorem Pjs.ok : Yg 43 ⟨⟨[.v K0, .v K0], [.f .bool]⟩, fun k (x : T6) => Pjs.f k x.1 x.2⟩ := Yq 11 Yv (.n (.n .l)) Tryz.func43 (Yc Paa.ok Yn)
def Pbh.f (k : Nat) (a0 : List T11) : Option (List T11) :=
 (app? (limOf 24) [] a0).bind fun l1 => some l1
theorem Pbh.ok : Yg 211 ⟨⟨[.v K22], [.f K22]⟩, fun k (x : List T11) => Pbh.f k x⟩ := Yq 5 (Yk 145 K8 Yv) (.n (.n .l)) Tryz.func211 Yn
def Pdi.f (a0 : T3) : Option T2 :=
 (Pbh.f k a0.2.2.2.2.2.2.2.2.1).bind fun r1 => some (a0.2.2.1, a0.2.2.2.1, a0.2.2.2.2.2.2.1, a0.2.2.2.2.2.2.2.1, r1)
theorem Pdi.ok : Yg 108 ⟨⟨[.box 43 K3 false false], [.t K4]⟩, fun k (x : T3) => Pdi.f k x⟩ := Yq 25 Yv (.n (.n .l)) Tryz.func108 (Yc Pbh.ok Yn)
def Pfy.f (a0 : Int) : Option Bool :=
 (Paa.f k a0 0 100000).bind fun r1 => some r1
theorem Pfy.ok : Yg 255 ⟨⟨[.v K0], [.f .bool]⟩, fun k (x : Int) => Pfy.f k x⟩ := Yq 5 Yv (.n (.n .l)) Tryz.func255 (Yc Paa.ok Yn)
def Pfz.f (a0 : Int) : Option Bool :=
 (Paa.f k a0 (-1) 4).bind fun r1 => some r1
theorem Pfz.ok : Yg 256 ⟨⟨[.v K0], [.f .bool]⟩, fun k (x : Int) => Pfz.f k x⟩ := Yq 5 Yv (.n (.n .l)) Tryz.func256 (Yc Paa.ok Yn)
def Pfj.f (a0 : Int) (a1 : Int) : Option Bool :=
 bif decide (a0 = 0) then bif decide (a1 = 0) then some true else (Paa.f k a0 1 100000).bind fun r1 => bif r1 then (Paa.f k a1 1 100000).bind fun r2 => some r2 else some false else (Paa.f k a0 1 100000).bind fun r3 => bif r3 then (Paa.f k a1 1 100000).bind fun r4 => some r4 else some false
theorem Pfj.ok : Yg 257 ⟨⟨[.v K0, .v K0], [.f .bool]⟩, fun k (x : T6) => Pfj.f k x.1 x.2⟩ := Yq 19 Yv (.n (.n .l)) Tryz.func257 (Yc Paa.ok Yn)
def Pej.f (k : Nat) (a0 : T2) : Option Int :=
 some (Zr (a0.2.2.1 + (a0.2.2.2.2.length : Int)))
theorem Pej.ok : Yg 258 ⟨⟨[.w K4], [.f K0]⟩, fun k (x : T2) => Pej.f k x⟩ := Yq 9 Yv (.n (.n .l)) Tryz.func258 Yn
def Pea.b0 (s : Bool × Int × List T11 × Int × Int × T2) : Option ((Bool × Int × List T11 × Int × Int × T2) ⊕ Bool ⊕ Bool) :=
 bif decide (s.2.2.2.2.1 < s.2.2.2.1) then (inb? s.2.2.1.length s.2.2.2.2.1).bind fun j1 => (s.2.2.1[j1]?).bind fun y2 => bif decide (900 < (y2.2.size : Int)) then some (.inr (.inr false)) else (Paa.f k y2.1 s.2.1 s.2.2.2.2.2.1).bind fun r3 => bif !r3 then some (.inr (.inr false)) else some (.inl (s.1, y2.1, s.2.2.1, s.2.2.2.1, Zr (s.2.2.2.2.1 + 1), s.2.2.2.2.2)) else some (.inr (.inl s.1))
def Pea.d0 (k : Nat) (y : Bool) : Option Bool :=
 some true
def Pea.f (a0 : T2) : Option Bool :=
 (Pfy.f k a0.1).bind fun r1 => bif !r1 then some false else (Pfz.f k a0.2.1).bind fun r2 => bif !r2 then some false else (Pfj.f k a0.2.2.1 a0.2.2.2.1).bind fun r3 => bif !r3 then some false else bif decide (a0.1 < a0.2.2.2.1) then some false else bif decide (60 < (a0.2.2.2.2.length : Int)) then some false else (Pej.f k a0).bind fun r4 => bif decide (100000 < r4) then some false else (iter (X := Bool ⊕ Bool) (Pea.b0 k) k (false, (if a0.2.2.2.1 > 1 then a0.2.2.2.1 else 1), a0.2.2.2.2, (a0.2.2.2.2.length : Int), 0, a0)).bind fun r => match r with | .inl y => Pea.d0 k y | .inr o => some o
theorem Pea.ok : Yg 194 ⟨⟨[.w K4], [.f .bool]⟩, fun k (x : T2) => Pea.f k x⟩ := Yq 68 Yv (.n (.seq .c (.n (.seq (.n (.lp [.ptr 1 1000, .s 2 .bool, .s 3 K0, .s 46 K22, .s 47 K0, .s 48 K0, .box 1000 77 K4 false false] 2 (.n (.seq (.cond .l .l) (.seq (.blk (.n (.seq .c .l))) .l))))) (.n .l))))) Tryz.func194 (Yc Pfy.ok (Yc Pfz.ok (Yc Pfj.ok (Yc Pej.ok (Yc Paa.ok Yn)))))
def Pdf.f (k : Nat) (a0 : T3) : Option Int :=
 some (Zr (a0.2.2.2.2.2.2.1 + (a0.2.2.2.2.2.2.2.2.1.length : Int)))
theorem Pdf.ok : Yg 195 ⟨⟨[.box 43 K3 false false], [.f K0]⟩, fun k (x : T3) => Pdf.f k x⟩ := Yq 13 Yv (.n (.n .l)) Tryz.func195 Yn
def Pha.f (k : Nat) (a0 : T3) (a1 : Int) : Option Bool :=
 some (decide (a0.2.1 < Zr (2 * a1)))
theorem Pha.ok : Yg 259 ⟨⟨[.box 43 K3 false false, .v K0], [.f .bool]⟩, fun k (x : T3 × Int) => Pha.f k x.1 x.2⟩ := Yq 12 Yv (.n (.n .l)) Tryz.func259 Yn
def Pbu.b0 (s : Bool × List Int × Int × Int × T3) : Option ((Bool × List Int × Int × Int × T3) ⊕ (Bool × T3) ⊕ Bool) :=
 bif decide (s.2.2.2.1 < s.2.2.1) then (inb? s.2.1.length s.2.2.2.1).bind fun j1 => (s.2.1[j1]?).bind fun y2 => (Paa.f k y2 0 (Zr (s.2.2.2.2.2.1 - 1))).bind fun r3 => bif !r3 then some (.inr (.inr false)) else bif decide (0 < s.2.2.2.1) then (inb? s.2.2.2.2.2.2.2.2.2.2.2.2.2.2.1.length (Zr (s.2.2.2.1 - 1))).bind fun j4 => (s.2.2.2.2.2.2.2.2.2.2.2.2.2.2.1[j4]?).bind fun y5 => bif decide (y2 ≤ y5) then some (.inr (.inr false)) else some (.inl (s.1, s.2.1, s.2.2.1, Zr (s.2.2.2.1 + 1), s.2.2.2.2)) else some (.inl (s.1, s.2.1, s.2.2.1, Zr (s.2.2.2.1 + 1), s.2.2.2.2)) else some (.inr (.inl (s.1, s.2.2.2.2)))
def Pbu.d0 (y : Bool × T3) : Option Bool :=
 (Pci.f k y.2.2.2.2.2.2.2.2.2.2.2.1 y.2.1).bind fun r1 => bif r1 then (Pha.f k y.2 (y.2.2.2.2.2.2.2.2.2.2.2.1.length : Int)).bind fun r2 => some (!r2) else some false
def Pbu.f (a0 : T3) : Option Bool :=
 (iter (X := (Bool × T3) ⊕ Bool) (Pbu.b0 k) k (false, a0.2.2.2.2.2.2.2.2.2.2.1, (a0.2.2.2.2.2.2.2.2.2.2.1.length : Int), 0, a0)).bind fun r => match r with | .inl y => Pbu.d0 k y | .inr o => some o
theorem Pbu.ok : Yg 196 ⟨⟨[.box 43 K3 false false], [.f .bool]⟩, fun k (x : T3) => Pbu.f k x⟩ := Yq 59 Yv (.n (.seq (.n (.lp [.ptr 0 1, .s 2 .bool, .s 8 K18, .s 9 K0, .s 10 K0, .box 1 43 K3 false true] 35 (.n (.seq (.cond .l .l) (.seq (.blk (.n .c)) .l))))) (.n .l))) Tryz.func196 (Yc Paa.ok (Yc Pci.ok (Yc Pha.ok Yn)))
def Pbs.b0 (s : Bool × List Int × Int × Int × T3) : Option ((Bool × List Int × Int × Int × T3) ⊕ (Bool × T3) ⊕ Bool) :=
 bif decide (s.2.2.2.1 < s.2.2.1) then (inb? s.2.1.length s.2.2.2.1).bind fun j1 => (s.2.1[j1]?).bind fun y2 => bif decide (y2 < 0) then some (.inr (.inr false)) else (inb? s.2.2.2.2.2.2.2.2.2.2.2.2.2.2.2.1.length s.2.2.2.1).bind fun j3 => (s.2.2.2.2.2.2.2.2.2.2.2.2.2.2.2.1[j3]?).bind fun y4 => bif decide (y4 ≤ y2) then some (.inr (.inr false)) else (inb? s.2.2.2.2.2.2.2.2.2.2.2.2.2.2.2.1.length s.2.2.2.1).bind fun j5 => (s.2.2.2.2.2.2.2.2.2.2.2.2.2.2.2.1[j5]?).bind fun y6 => (Pdf.f k s.2.2.2.2).bind fun r7 => bif decide (Zr (r7 + 1) < y6) then some (.inr (.inr false)) else some (.inl (s.1, s.2.1, s.2.2.1, Zr (s.2.2.2.1 + 1), s.2.2.2.2)) else some (.inr (.inl (s.1, s.2.2.2.2)))
def Pbs.d0 (y : Bool × T3) : Option Bool :=
 (inb? y.2.2.2.2.2.2.2.2.2.2.2.2.2.length y.2.1).bind fun j1 => (y.2.2.2.2.2.2.2.2.2.2.2.2.2[j1]?).bind fun y2 => (Pdf.f k y.2).bind fun r3 => some (decide (y2 = r3))
def Pbs.f (a0 : T3) : Option Bool :=
 bif decide (0 < (a0.2.2.2.2.2.2.2.2.2.2.1.length : Int)) then some false else bif !decide ((a0.2.2.2.2.2.2.2.2.2.2.2.1.length : Int) = a0.2.1) then some false else bif !decide ((a0.2.2.2.2.2.2.2.2.2.2.2.2.length : Int) = a0.2.1) then some false else (iter (X := (Bool × T3) ⊕ Bool) (Pbs.b0 k) k (false, a0.2.2.2.2.2.2.2.2.2.2.2.2, (a0.2.2.2.2.2.2.2.2.2.2.2.2.length : Int), 0, a0)).bind fun r => match r with | .inl y => Pbs.d0 k y | .inr o => some o
theorem Pbs.ok : Yg 197 ⟨⟨[.box 43 K3 false false], [.f .bool]⟩, fun k (x : T3) => Pbs.f k x⟩ := Yq 85 Yv (.n (.seq .c (.seq (.n (.lp [.ptr 0 1, .s 2 .bool, .s 38 K18, .s 39 K0, .s 40 K0, .box 1 43 K3 false true] 35 (.n (.seq (.cond .l .l) (.seq (.blk (.n .c)) .l))))) (.n .l)))) Tryz.func197 (Yc Pdf.ok Yn)
def Pie.f (a0 : T3) : Option Bool :=
 (Paa.f k a0.2.1 1 5).bind fun r1 => bif !r1 then some false else (Paa.f k a0.1 0 (Zr (a0.2.1 - 1))).bind fun r2 => bif !r2 then some false else (Pdi.f k a0).bind fun r3 => (Pea.f k r3).bind fun r4 => bif !r4 then some false else bif decide (a0.2.1 ≤ a0.2.2.2.1) then some false else (Pdf.f k a0).bind fun r5 => (Paa.f k a0.2.2.2.2.2.2.2.2.2.1 a0.2.2.2.2.2.2.1 r5).bind fun r6 => bif !r6 then some false else bif decide (a0.2.2.2.2.1 = 1) then (Paa.f k a0.2.2.2.2.2.1 (-1) (Zr (a0.2.1 - 1))).bind fun r7 => bif r7 then bif !decide (a0.2.2.2.2.2.1 = a0.1) then some (decide (Zr ((Zr ((a0.2.2.2.2.2.2.2.2.2.2.1.length : Int) + (a0.2.2.2.2.2.2.2.2.2.2.2.1.length : Int))) + (a0.2.2.2.2.2.2.2.2.2.2.2.2.length : Int)) = 0)) else some false else some false else bif decide (a0.2.2.2.2.1 = 2) then bif decide (1 ≤ a0.2.2.1) then bif decide (a0.2.2.2.1 = a0.1) then bif decide (a0.2.2.2.2.2.1 = (-1)) then (Pbu.f k a0).bind fun r8 => bif r8 then some (decide (Zr ((a0.2.2.2.2.2.2.2.2.2.2.2.1.length : Int) + (a0.2.2.2.2.2.2.2.2.2.2.2.2.length : Int)) = 0)) else some false else some false else some false else some false else bif decide (a0.2.2.2.2.1 = 3) then bif decide (1 ≤ a0.2.2.1) then bif decide (a0.2.2.2.1 = a0.1) then bif decide (a0.2.2.2.2.2.1 = a0.1) then (Pbs.f k a0).bind fun r9 => some r9 else some false else some false else some false else some false
theorem Pie.ok : Yg 102 ⟨⟨[.w K3], [.f .bool]⟩, fun k (x : T3) => Pie.f k x⟩ := Yq 120 Yv (.n (.seq .c (.seq (.n (.blk (.n (.cond (.n .l) (.n (.cond (.n .l) .c)))))) (.n .l)))) Tryz.func102 (Yc Paa.ok (Yc Pdi.ok (Yc Pea.ok (Yc Pdf.ok (Yc Pbu.ok (Yc Pbs.ok Yn))))))
def Pcy.f (a0 : T13) (a1 : Int) : Option (Zb × T13) :=
 bif a0.2 then some (Ze, a0.1, true) else (Paa.f k a1 0 (a0.1.size : Int)).bind fun r1 => bif !r1 then some (Ze, a0.1, true) else (cut? a0.1.size 0 a1).bind fun p2 => (cut? a0.1.size a1 a0.1.size).bind fun p3 => some (a0.1.extract p2.1 p2.2, a0.1.extract p3.1 p3.2, a0.2)
theorem Pcy.ok : Yg 260 ⟨⟨[.box 249 K24 false true, .v K0], [.f .str]⟩, fun k (x : T13 × Int) => Pcy.f k x.1 x.2⟩ := Yq 39 Yv (.n (.seq (.n (.cond (.n (.n .l)) .l)) (.m 3 .l))) Tryz.func260 (Yc Paa.ok Yn)
def Pbt.b0 (k : Nat) (s : Int × T15) : Option ((Int × T15) ⊕ (Int × T15) ⊕ Zb) :=
 bif decide (127 < s.1) then (app? (limOf 1) s.2.2 ([IntKind.wrap .u8 (bits .or .i64 (bits .and .i64 s.1 127) 128)])).bind fun l1 => some (.inl (Int.fdiv s.1 (2 ^ (min (7 : Int).toNat (IntKind.bits .i64))), s.2.1, l1)) else some (.inr (.inl s))
def Pbt.d0 (k : Nat) (y : Int × T15) : Option Zb :=
 (app? (limOf 1) y.2.2 ([IntKind.wrap .u8 (y.1)])).bind fun l1 => some (strOfNums l1)
def Pbt.f (a0 : Int) : Option Zb :=
 (Paa.f k a0 0 562949953421311).bind fun r1 => bif !r1 then some Ze else (iter (X := (Int × T15) ⊕ Zb) (Pbt.b0 k) k (a0, Ze, [])).bind fun r => match r with | .inl y => Pbt.d0 k y | .inr o => some o
theorem Pbt.ok : Yg 235 ⟨⟨[.v K0], [.f .str]⟩, fun k (x : Int) => Pbt.f k x⟩ := Yq 25 (Yk 5 K27 Yv) (.n (.seq .c (.n (.seq (.lp [.s 0 K0, .s 2 .str, .o 3 (.sl 5 K27)] 7 (.seq (.n (.cond .l .l)) (.blk (.n .l)))) (.n .l))))) Tryz.func235 (Yc Paa.ok Yn)
def Pcm.b0 (s : T33) : Option (T33 ⊕ T6 ⊕ T6) :=
 bif decide (s.2.2.2.2 < (s.1.size : Int)) then bif decide (s.2.2.2.2 < 7) then (inb? s.1.size s.2.2.2.2).bind fun j1 => if Zr (7 * s.2.2.2.2) < 0 then none else (inb? s.1.size s.2.2.2.2).bind fun j2 => bif decide (Qmy s.1 j2 < 128) then (Pbt.f k (bits .or .i64 s.2.2.2.1 (Zr ((Zr (bits .and .u8 (Qmy s.1 j1) 127)) * 2 ^ (min (Zr (7 * s.2.2.2.2)).toNat (IntKind.bits .i64)))))).bind fun r3 => (cut? s.1.size 0 (Zr (s.2.2.2.2 + 1))).bind fun p4 => bif !decide (r3 = s.1.extract p4.1 p4.2) then some (.inr (.inr (0, 0))) else some (.inr (.inr (bits .or .i64 s.2.2.2.1 (Zr ((Zr (bits .and .u8 (Qmy s.1 j1) 127)) * 2 ^ (min (Zr (7 * s.2.2.2.2)).toNat (IntKind.bits .i64)))), Zr (s.2.2.2.2 + 1)))) else some (.inl (s.1, s.2.1, s.2.2.1, bits .or .i64 s.2.2.2.1 (Zr ((Zr (bits .and .u8 (Qmy s.1 j1) 127)) * 2 ^ (min (Zr (7 * s.2.2.2.2)).toNat (IntKind.bits .i64)))), Zr (s.2.2.2.2 + 1))) else some (.inr (.inl (s.2.1, s.2.2.1))) else some (.inr (.inl (s.2.1, s.2.2.1)))
def Pcm.d0 (k : Nat) (y : T6) : Option T6 :=
 some (0, 0)
def Pcm.f (a0 : Zb) : Option T6 :=
 (iter (X := T6 ⊕ T6) (Pcm.b0 k) k (a0, 0, 0, 0, 0)).bind fun r => match r with | .inl y => Pcm.d0 k y | .inr o => some o
theorem Pcm.ok : Yg 266 ⟨⟨[.v .str], [.f K0, .f K0]⟩, fun k (x : Zb) => Pcm.f k x⟩ := Yq 40 Yv (.n (.n (.seq (.n (.lp [.s 0 .str, .s 2 K0, .s 3 K0, .s 4 K0, .s 5 K0] 6 (.seq (.n (.cond .l .l)) (.seq (.blk (.n (.n (.cond (.seq .c (.n .l)) .l)))) .l)))) (.n .l)))) Tryz.func266 (Yc Pbt.ok Yn)
def Pat.f (a0 : T13) : Option (Int × T13) :=
 (Pcm.f k a0.1).bind fun r1 => bif a0.2 then some (0, a0.1, true) else bif decide (r1.2 = 0) then some (0, a0.1, true) else (cut? a0.1.size r1.2 a0.1.size).bind fun p2 => some (r1.1, a0.1.extract p2.1 p2.2, a0.2)
theorem Pat.ok : Yg 206 ⟨⟨[.box 249 K24 false true], [.f K0]⟩, fun k (x : T13) => Pat.f k x⟩ := Yq 34 Yv (.n (.n (.seq (.n (.cond (.n (.n .l)) .l)) (.n (.n .l))))) Tryz.func206 (Yc Pcm.ok Yn)
def Pcc.c0 (k : Nat) (y : Int × Int × T13) : Option (Int × T13) :=
 bif y.2.2.2 then some (0, y.2.2) else some y.2
def Pcc.f (a0 : T13) (a1 : Int) : Option (Int × T13) :=
 (Pat.f k a0).bind fun r1 => Option.bind (α := (Int × Int × T13) ⊕ (Int × T13)) (bif decide (a1 < r1.1) then some (.inl (0, r1.1, r1.2.1, true)) else some (.inl (0, r1))) fun r => match r with | .inl y => Pcc.c0 k y | .inr o => some o
theorem Pcc.ok : Yg 203 ⟨⟨[.box 249 K24 false true, .v K0], [.f K0]⟩, fun k (x : T13 × Int) => Pcc.f k x.1 x.2⟩ := Yq 19 Yv (.n (.n (.seq (.cut [.ptr 0 1, .s 4 K0, .s 5 K0, .box 1 249 K24 false false] (.n (.cond .l .l))) (.seq .c (.n .l))))) Tryz.func203 (Yc Pat.ok Yn)
def Phn.f (k : Nat) (a0 : List Zb) (a1 : Int) : Option Zb :=
 bif decide (a1 < 256) then some (strOfNums ([IntKind.wrap .u8 (a1)])) else (inb? a0.length (Zr (a1 - 256))).bind fun j1 => (a0[j1]?).bind fun y2 => some y2
theorem Phn.ok : Yg 312 ⟨⟨[.v K21, .v K0], [.f .str]⟩, fun k (x : T16) => Phn.f k x.1 x.2⟩ := Yq 16 (Yk 5 K27 Yv) (.n (.seq .c (.n .l))) Tryz.func312 Yn
def Pbm.b0 (k : Nat) (s : List Zb × T17) : Option ((List Zb × T17) ⊕ Int ⊕ Int) :=
 bif decide (s.2.2.2.2 < s.2.2.2.1) then (inb? s.1.length s.2.2.2.2).bind fun j1 => (s.1[j1]?).bind fun y2 => bif decide (s.2.1 = y2) then some (.inr (.inr s.2.2.2.2)) else some (.inl (s.1, s.2.1, s.2.2.1, s.2.2.2.1, Zr (s.2.2.2.2 + 1))) else some (.inr (.inl s.2.2.1))
def Pbm.d0 (k : Nat) (y : Int) : Option Int :=
 some (-1)
def Pbm.f (a0 : List Zb) (a1 : Zb) : Option Int :=
 (iter (X := Int ⊕ Int) (Pbm.b0 k) k (a0, a1, 0, (a0.length : Int), 0)).bind fun r => match r with | .inl y => Pbm.d0 k y | .inr o => some o
theorem Pbm.ok : Yg 315 ⟨⟨[.v K21, .v .str], [.f K0]⟩, fun k (x : List Zb × Zb) => Pbm.f k x.1 x.2⟩ := Yq 19 Yv (.n (.seq (.n (.lp [.s 0 K21, .s 1 .str, .s 4 K0, .s 7 K0, .s 8 K0] 4 (.n (.seq (.cond .l .l) (.seq (.blk (.n .c)) .l))))) (.n .l))) Tryz.func315 Yn
def Pcw.f (a0 : List Zb) (a1 : Zb) : Option Bool :=
 (Pbm.f k a0 a1).bind fun r1 => some (decide (0 ≤ r1))
theorem Pcw.ok : Yg 313 ⟨⟨[.v K21, .v .str], [.f .bool]⟩, fun k (x : List Zb × Zb) => Pcw.f k x.1 x.2⟩ := Yq 9 Yv (.n (.n .l)) Tryz.func313 (Yc Pbm.ok Yn)
def Pdm.b0 (s : List Zb × Bool × List Zb × List T6 × T6) : Option ((List Zb × Bool × List Zb × List T6 × T6) ⊕ T25 ⊕ T18) :=
 bif decide (s.2.2.2.2.2 < s.2.2.2.2.1) then (inb? s.2.2.2.1.length s.2.2.2.2.2).bind fun j1 => (s.2.2.2.1[j1]?).bind fun y2 => (Paa.f k y2.1 0 (Zr (255 + s.2.2.2.2.2))).bind fun r3 => bif !r3 then some (.inr (.inr (s.2.2.1, false))) else (Paa.f k y2.2 0 (Zr (255 + s.2.2.2.2.2))).bind fun r4 => bif !r4 then some (.inr (.inr (s.2.2.1, false))) else (Phn.f k s.2.2.1 y2.1).bind fun r5 => (Phn.f k s.2.2.1 y2.2).bind fun r6 => (cat? r5 r6).bind fun s7 => bif decide (24 < (s7.size : Int)) then some (.inr (.inr (s.2.2.1, false))) else (Pcw.f k s.2.2.1 s7).bind fun r8 => bif r8 then some (.inr (.inr (s.2.2.1, false))) else (app? (limOf 16) s.2.2.1 ([s7])).bind fun l9 => some (.inl (s.1, s.2.1, l9, s.2.2.2.1, s.2.2.2.2.1, Zr (s.2.2.2.2.2 + 1))) else some (.inr (.inl (s.1, s.2.1, s.2.2.1)))
def Pdm.d0 (k : Nat) (y : T25) : Option T18 :=
 some (y.2.2, true)
def Pdm.f (a0 : List T6) : Option T18 :=
 bif decide (60 < (a0.length : Int)) then some ([], false) else (iter (X := T25 ⊕ T18) (Pdm.b0 k) k ([], false, [], a0, (a0.length : Int), 0)).bind fun r => match r with | .inl y => Pdm.d0 k y | .inr o => some o
theorem Pdm.ok : Yg 309 ⟨⟨[.v K16], [.f K21, .f .bool]⟩, fun k (x : List T6) => Pdm.f k x⟩ := Yq 59 (Yk 9 .str Yv) (.n (.n (.seq .c (.seq (.n (.lp [.o 2 K21, .s 3 .bool, .o 4 K21, .s 13 K16, .s 14 K0, .s 15 K0] 7 (.n (.seq (.cond .l .l) (.seq (.blk (.n (.seq .c (.n (.seq .c .l))))) .l))))) (.n .l))))) Tryz.func309 (Yc Paa.ok (Yc Phn.ok (Yc Pcw.ok Yn)))
def Phl.f (a0 : List T6) : Option Bool :=
 (Pdm.f k a0).bind fun r1 => some r1.2
theorem Phl.ok : Yg 297 ⟨⟨[.w K16], [.f .bool]⟩, fun k (x : List T6) => Phl.f k x⟩ := Yq 12 Yv (.m 3 .l) Tryz.func297 (Yc Pdm.ok Yn)
def Pdv.b0 (s : Zb × Zb × List T6 × T6) : Option ((Zb × Zb × List T6 × T6) ⊕ T14 ⊕ Zb) :=
 bif decide (s.2.2.2.2 < s.2.2.2.1) then (inb? s.2.2.1.length s.2.2.2.2).bind fun j1 => (s.2.2.1[j1]?).bind fun y2 => (Pbt.f k y2.1).bind fun r3 => (cat? s.2.1 r3).bind fun s4 => (Pbt.f k y2.2).bind fun r5 => (cat? s4 r5).bind fun s6 => some (.inl (s.1, s6, s.2.2.1, s.2.2.2.1, Zr (s.2.2.2.2 + 1))) else some (.inr (.inl (s.1, s.2.1)))
def Pdv.d0 (k : Nat) (y : T14) : Option Zb :=
 some y.2
def Pdv.f (a0 : List T6) : Option Zb :=
 (Phl.f k a0).bind fun r1 => bif !r1 then some Ze else (Pbt.f k (a0.length : Int)).bind fun r2 => (cat? Zl1 r2).bind fun s3 => (iter (X := T14 ⊕ Zb) (Pdv.b0 k) k (Ze, s3, a0, (a0.length : Int), 0)).bind fun r => match r with | .inl y => Pdv.d0 k y | .inr o => some o
theorem Pdv.ok : Yg 261 ⟨⟨[.w K16], [.f .str]⟩, fun k (x : List T6) => Pdv.f k x⟩ := Yq 32 Yv (.n (.seq .c (.n (.seq (.n (.lp [.s 2 .str, .s 3 .str, .s 15 K16, .s 16 K0, .s 17 K0] 3 (.n (.seq (.cond .l .l) (.seq (.blk (.n .l)) .l))))) (.n .l))))) Tryz.func261 (Yc Phl.ok (Yc Pbt.ok Yn))
def Pbp.b0 (s : Zb × Bool × Int × Int × List T6 × T13 × List T6) : Option ((Zb × Bool × Int × Int × List T6 × T13 × List T6) ⊕ (Zb × Bool × List T6 × T13 × List T6) ⊕ T34) :=
 bif decide (s.2.2.2.1 < s.2.2.1) then (Pat.f k s.2.2.2.2.2.1).bind fun r1 => (Pat.f k r1.2).bind fun r2 => (app? (limOf 16) s.2.2.2.2.2.2 ([(r1.1, r2.1)])).bind fun l3 => some (.inl (s.1, s.2.1, s.2.2.1, Zr (s.2.2.2.1 + 1), s.2.2.2.2.1, r2.2, l3)) else some (.inr (.inl (s.1, s.2.1, s.2.2.2.2)))
def Pbp.d0 (y : Zb × Bool × List T6 × T13 × List T6) : Option T34 :=
 bif y.2.2.2.1.2 then some ([], false) else bif decide (y.1 = Ze) then some ([], false) else (Pdv.f k y.2.2.2.2).bind fun r1 => bif !decide (r1 = y.1) then some ([], false) else some (y.2.2.2.2, true)
def Pbp.f (a0 : Zb) : Option T34 :=
 (Pcy.f k (a0, false) 3).bind fun r1 => (Pcc.f k r1.2 60).bind fun r2 => (iter (X := (Zb × Bool × List T6 × T13 × List T6) ⊕ T34) (Pbp.b0 k) k (a0, false, r2.1, 0, [], r2.2, [])).bind fun r => match r with | .inl y => Pbp.d0 k y | .inr o => some o
theorem Pbp.ok : Yg 198 ⟨⟨[.v .str], [.t K16, .f .bool]⟩, fun k (x : Zb) => Pbp.f k x⟩ := Yq 48 (Yk 208 (.pair K0 K0) Yv) (.m 5 (.seq (.n (.lp [.s 0 .str, .ptr 2 1000, .s 3 .bool, .ptr 4 2002, .ptr 6 5001, .s 16 K0, .s 17 K0, .box 1000 127 K16 true false, .box 2002 249 K24 false false, .box 5001 127 K16 true false] 927 (.n (.seq (.cond .l .l) (.seq (.blk (.n (.n .l))) .l))))) (.seq .c (.n .l)))) Tryz.func198 (Yc Pcy.ok (Yc Pcc.ok (Yc Pat.ok (Yc Pdv.ok Yn))))
def Pbo.b0 (k : Nat) (s : Int × Zb × T29) : Option ((Int × Zb × T29) ⊕ T15 ⊕ Zb) :=
 bif decide (0 ≤ s.2.2.2) then (inb? s.2.2.1.length s.2.2.2).bind fun j1 => (s.2.2.1[j1]?).bind fun y2 => some (.inl (Int.fdiv s.1 (2 ^ (min (8 : Int).toNat (IntKind.bits .i64))), s.2.1, s.2.2.1.set j1 (IntKind.wrap .u8 (bits .and .i64 s.1 255)), Zr (s.2.2.2 - 1))) else some (.inr (.inl (s.2.1, s.2.2.1)))
def Pbo.d0 (k : Nat) (y : T15) : Option Zb :=
 some (strOfNums y.2)
def Pbo.f (a0 : Int) (a1 : Int) : Option Zb :=
 (Paa.f k a1 1 7).bind fun r1 => bif !r1 then some Ze else bif decide (a0 < 0) then some Ze else if Zr (8 * a1) < 0 then none else bif decide (Zr (1 * 2 ^ (min (Zr (8 * a1)).toNat (IntKind.bits .i64))) ≤ a0) then some Ze else (mk? (limOf 1) a1 (0 : Int)).bind fun l2 => (iter (X := T15 ⊕ Zb) (Pbo.b0 k) k (a0, Ze, l2, Zr (a1 - 1))).bind fun r => match r with | .inl y => Pbo.d0 k y | .inr o => some o
theorem Pbo.ok : Yg 262 ⟨⟨[.v K0, .v K0], [.f .str]⟩, fun k (x : T6) => Pbo.f k x.1 x.2⟩ := Yq 39 (Yk 5 K27 Yv) (.n (.seq .c (.n (.seq (.n (.lp [.s 0 K0, .s 4 .str, .o 5 (.sl 5 K27), .s 6 K0] 6 (.seq (.n (.cond .l .l)) (.seq (.blk (.n .l)) .l)))) (.n .l))))) Tryz.func262 (Yc Paa.ok Yn)
def Pfm.f (k : Nat) (a0 : Zb) : Option Int :=
 (inb? a0.size 0).bind fun j1 => (inb? a0.size 1).bind fun j2 => (inb? a0.size 2).bind fun j3 => (inb? a0.size 3).bind fun j4 => some (bits .or .u32 (bits .or .u32 (bits .or .u32 (IntKind.wrap .u32 ((IntKind.wrap .u32 (Qmy a0 j1)) * 2 ^ (min (24 : Int).toNat (IntKind.bits .u32)))) (IntKind.wrap .u32 ((IntKind.wrap .u32 (Qmy a0 j2)) * 2 ^ (min (16 : Int).toNat (IntKind.bits .u32))))) (IntKind.wrap .u32 ((IntKind.wrap .u32 (Qmy a0 j3)) * 2 ^ (min (8 : Int).toNat (IntKind.bits .u32))))) (IntKind.wrap .u32 (Qmy a0 j4)))
theorem Pfm.ok : Yg 298 ⟨⟨[.v .str], [.f K32]⟩, fun k (x : Zb) => Pfm.f k x⟩ := Yq 21 Yv (.n (.n .l)) Tryz.func298 Yn
def Pae.f (k : Nat) (a0 : Int) (a1 : Int) : Option Int :=
 if bits .and .u64 (IntKind.wrap .u64 (a1)) 31 < 0 then none else if IntKind.wrap .u64 (32 - (bits .and .u64 (IntKind.wrap .u64 (a1)) 31)) < 0 then none else some (bits .or .u32 (IntKind.wrap .u32 (a0 * 2 ^ (min (bits .and .u64 (IntKind.wrap .u64 (a1)) 31).toNat (IntKind.bits .u32)))) (Int.fdiv a0 (2 ^ (min (IntKind.wrap .u64 (32 - (bits .and .u64 (IntKind.wrap .u64 (a1)) 31))).toNat (IntKind.bits .u32)))))
theorem Pae.ok : Yg 299 ⟨⟨[.v K32, .v K0], [.f K32]⟩, fun k (x : T6) => Pae.f k x.1 x.2⟩ := Yq 17 Yv (.m 3 .l) Tryz.func299 Yn
def Pah.b0 (s : Zb × Int × T10) : Option ((Zb × Int × T10) ⊕ T10 ⊕ (List Int)) :=
 bif decide (s.2.1 < 16) then (cut? s.1.size (Zr (4 * s.2.1)) s.1.size).bind fun p1 => (Pfm.f k (s.1.extract p1.1 p1.2)).bind fun r2 => (inb? 64 s.2.1).bind fun j3 => some (.inl (s.1, Zr (s.2.1 + 1), arrL 8 s.2.2.1, arrL 8 s.2.2.2.1, arrL 64 ((arrL 64 s.2.2.2.2).set j3 r2))) else some (.inr (.inl (arrL 8 s.2.2.1, arrL 8 s.2.2.2.1, arrL 64 s.2.2.2.2)))
def Pah.b1 (s : Int × T10) : Option ((Int × T10) ⊕ T10 ⊕ (List Int)) :=
 bif decide (s.1 < 64) then (inb? 64 (Zr (s.1 - 15))).bind fun j1 => (inb? 64 (Zr (s.1 - 2))).bind fun j2 => (Pae.f k ((arrL 64 s.2.2.2).getD j1 0) (-7)).bind fun r3 => (Pae.f k ((arrL 64 s.2.2.2).getD j1 0) (-18)).bind fun r4 => (Pae.f k ((arrL 64 s.2.2.2).getD j2 0) (-17)).bind fun r5 => (Pae.f k ((arrL 64 s.2.2.2).getD j2 0) (-19)).bind fun r6 => (inb? 64 (Zr (s.1 - 16))).bind fun j7 => (inb? 64 (Zr (s.1 - 7))).bind fun j8 => (inb? 64 s.1).bind fun j9 => some (.inl (Zr (s.1 + 1), arrL 8 s.2.1, arrL 8 s.2.2.1, arrL 64 ((arrL 64 s.2.2.2).set j9 (IntKind.wrap .u32 ((IntKind.wrap .u32 ((IntKind.wrap .u32 (((arrL 64 s.2.2.2).getD j7 0) + (bits .xor .u32 (bits .xor .u32 r3 r4) (Int.fdiv ((arrL 64 s.2.2.2).getD j1 0) (2 ^ (min (3 : Int).toNat (IntKind.bits .u32))))))) + ((arrL 64 s.2.2.2).getD j8 0))) + (bits .xor .u32 (bits .xor .u32 r5 r6) (Int.fdiv ((arrL 64 s.2.2.2).getD j2 0) (2 ^ (min (10 : Int).toNat (IntKind.bits .u32)))))))))) else some (.inr (.inl (arrL 8 s.2.1, arrL 8 s.2.2.1, arrL 64 s.2.2.2)))
def Pah.b2 (s : Int × List Int × T10) : Option ((Int × List Int × T10) ⊕ T10 ⊕ (List Int)) :=
 bif decide (s.1 < 64) then (Pae.f k (s.2.2.2.2.getD 4 0) (-6)).bind fun r1 => (Pae.f k (s.2.2.2.2.getD 4 0) (-11)).bind fun r2 => (Pae.f k (s.2.2.2.2.getD 4 0) (-25)).bind fun r3 => (inb? 64 s.1).bind fun j4 => (Qlr[j4]?).bind fun y5 => (inb? 64 s.1).bind fun j6 => (Pae.f k (s.2.2.2.2.getD 0 0) (-2)).bind fun r7 => (Pae.f k (s.2.2.2.2.getD 0 0) (-13)).bind fun r8 => (Pae.f k (s.2.2.2.2.getD 0 0) (-22)).bind fun r9 => some (.inl (Zr (s.1 + 1), arrL 8 s.2.1, arrL 8 s.2.2.1, arrL 64 s.2.2.2.1, [IntKind.wrap .u32 ((IntKind.wrap .u32 ((IntKind.wrap .u32 ((IntKind.wrap .u32 ((IntKind.wrap .u32 ((IntKind.wrap .u32 ((s.2.2.2.2.getD 7 0) + (bits .xor .u32 (bits .xor .u32 r1 r2) r3))) + (bits .xor .u32 (bits .and .u32 (s.2.2.2.2.getD 4 0) (s.2.2.2.2.getD 5 0)) (bits .and .u32 (bits .xor .u32 (if IntKind.signed .u32 then -1 else IntKind.max .u32) (s.2.2.2.2.getD 4 0)) (s.2.2.2.2.getD 6 0))))) + y5)) + ((arrL 64 s.2.2.2.1).getD j6 0))) + (bits .xor .u32 (bits .xor .u32 r7 r8) r9))) + (bits .xor .u32 (bits .xor .u32 (bits .and .u32 (s.2.2.2.2.getD 0 0) (s.2.2.2.2.getD 1 0)) (bits .and .u32 (s.2.2.2.2.getD 0 0) (s.2.2.2.2.getD 2 0))) (bits .and .u32 (s.2.2.2.2.getD 1 0) (s.2.2.2.2.getD 2 0)))), s.2.2.2.2.getD 0 0, s.2.2.2.2.getD 1 0, s.2.2.2.2.getD 2 0, IntKind.wrap .u32 ((s.2.2.2.2.getD 3 0) + (IntKind.wrap .u32 ((IntKind.wrap .u32 ((IntKind.wrap .u32 ((IntKind.wrap .u32 ((s.2.2.2.2.getD 7 0) + (bits .xor .u32 (bits .xor .u32 r1 r2) r3))) + (bits .xor .u32 (bits .and .u32 (s.2.2.2.2.getD 4 0) (s.2.2.2.2.getD 5 0)) (bits .and .u32 (bits .xor .u32 (if IntKind.signed .u32 then -1 else IntKind.max .u32) (s.2.2.2.2.getD 4 0)) (s.2.2.2.2.getD 6 0))))) + y5)) + ((arrL 64 s.2.2.2.1).getD j6 0)))), s.2.2.2.2.getD 4 0, s.2.2.2.2.getD 5 0, s.2.2.2.2.getD 6 0])) else some (.inr (.inl (arrL 8 s.2.1, arrL 8 s.2.2.1, arrL 8 s.2.2.2.2)))
def Pah.b3 (k : Nat) (s : Int × T10) : Option ((Int × T10) ⊕ (List Int × List Int) ⊕ (List Int)) :=
 bif decide (s.1 < 8) then (inb? 8 s.1).bind fun j1 => (inb? 8 s.1).bind fun j2 => (inb? 8 s.1).bind fun j3 => some (.inl (Zr (s.1 + 1), arrL 8 ((arrL 8 s.2.1).set j3 (IntKind.wrap .u32 (((arrL 8 s.2.1).getD j1 0) + ((arrL 8 s.2.2.2).getD j2 0)))), arrL 8 s.2.2.1, arrL 8 s.2.2.2)) else some (.inr (.inl (arrL 8 s.2.1, arrL 8 s.2.2.1)))
def Pah.d3 (k : Nat) (y : List Int × List Int) : Option (List Int) :=
 some (arrL 8 y.1)
def Pah.d2 (y : T10) : Option (List Int) :=
 (iter (X := (List Int × List Int) ⊕ (List Int)) (Pah.b3 k) k (0, arrL 8 y.1, arrL 8 y.2.1, arrL 8 y.2.2)).bind fun r => match r with | .inl y => Pah.d3 k y | .inr o => some o
def Pah.d1 (y : T10) : Option (List Int) :=
 (iter (X := T10 ⊕ (List Int)) (Pah.b2 k) k (0, arrL 8 y.1, arrL 8 y.2.1, arrL 64 y.2.2, arrL 8 y.1)).bind fun r => match r with | .inl y => Pah.d2 k y | .inr o => some o
def Pah.d0 (y : T10) : Option (List Int) :=
 (iter (X := T10 ⊕ (List Int)) (Pah.b1 k) k (16, arrL 8 y.1, arrL 8 y.2.1, arrL 64 y.2.2)).bind fun r => match r with | .inl y => Pah.d1 k y | .inr o => some o
def Pah.f (a0 : List Int) (a1 : Zb) : Option (List Int) :=
 (iter (X := T10 ⊕ (List Int)) (Pah.b0 k) k (a1, 0, arrL 8 a0, List.replicate 8 0, List.replicate 64 0)).bind fun r => match r with | .inl y => Pah.d0 k y | .inr o => some o
theorem Pah.ok : Yg 263 ⟨⟨[.w K25, .v .str], [.t K25]⟩, fun k (x : List Int × Zb) => Pah.f k x.1 x.2⟩ := Yq 176 Yv (.n (.n (.seq (.n (.lp [.s 1 .str, .ptr 2 1000, .ptr 4 1001, .ptr 5 2000, .s 22 K0, .box 1000 281 K25 false false, .box 1001 281 K25 false false, .box 2000 296 (.arr .u32 64) false false] 238 (.n (.seq (.cond .l .l) (.seq (.blk (.n .l)) .l))))) (.seq (.n (.lp [.ptr 2 1000, .ptr 4 1001, .ptr 5 2000, .s 7 K0, .box 1000 281 K25 false false, .box 1001 281 K25 false false, .box 2000 296 (.arr .u32 64) false false] 119 (.seq (.n (.cond .l .l)) (.seq (.blk (.m 3 .l)) .l)))) (.n (.seq (.n (.lp [.ptr 2 1000, .ptr 4 1001, .ptr 5 2000, .ptr 12 15001, .s 77 K0, .box 1000 281 K25 false false, .box 1001 281 K25 false false, .box 2000 296 (.arr .u32 64) false false, .box 15001 281 K25 false false] 363 (.n (.seq (.cond .l .l) (.seq (.blk (.m 7 .l)) .l))))) (.seq (.n (.lp [.ptr 2 1000, .ptr 4 1001, .ptr 12 15001, .s 162 K0, .box 1000 281 K25 false false, .box 1001 281 K25 false false, .box 15001 281 K25 false false] 51 (.n (.seq (.cond .l .l) (.seq (.blk (.n .l)) .l))))) (.n .l)))))))) Tryz.func263 (Yc Pfm.ok (Yc Pae.ok Yn))
def Pcq.b0 (s : Zb × Zb × Int × List Int) : Option ((Zb × Zb × Int × List Int) ⊕ T15 ⊕ Zb) :=
 bif decide (s.2.2.1 < (s.2.1.size : Int)) then (cut? s.2.1.size s.2.2.1 (Zr (s.2.2.1 + 64))).bind fun p1 => (Pah.f k (arrL 8 s.2.2.2) (s.2.1.extract p1.1 p1.2)).bind fun r2 => some (.inl (s.1, s.2.1, Zr (s.2.2.1 + 64), arrL 8 r2)) else some (.inr (.inl (s.1, arrL 8 s.2.2.2)))
def Pcq.b1 (s : Zb × Zb × T29) : Option ((Zb × Zb × T29) ⊕ T14 ⊕ Zb) :=
 bif decide (s.2.2.2 < 8) then (inb? 8 s.2.2.2).bind fun j1 => (Pbo.f k (Zr ((arrL 8 s.2.2.1).getD j1 0)) 4).bind fun r2 => (cat? s.2.1 r2).bind fun s3 => some (.inl (s.1, s3, arrL 8 s.2.2.1, Zr (s.2.2.2 + 1))) else some (.inr (.inl (s.1, s.2.1)))
def Pcq.d1 (k : Nat) (y : T14) : Option Zb :=
 some y.2
def Pcq.d0 (y : T15) : Option Zb :=
 (iter (X := T14 ⊕ Zb) (Pcq.b1 k) k (y.1, Ze, arrL 8 y.2, 0)).bind fun r => match r with | .inl y => Pcq.d1 k y | .inr o => some o
def Pcq.f (a0 : Zb) : Option Zb :=
 (cat? a0 (⟨#[128]⟩ : Zb)).bind fun s1 => (mk? (limOf 1) (Zr ((Int.tmod (Zr (64 - (Int.tmod (Zr ((a0.size : Int) + 9)) 64))) 64) + 1)) (0 : Int)).bind fun l2 => (cat? s1 (strOfNums l2)).bind fun s3 => (Pbo.f k (Zr (8 * (a0.size : Int))) 7).bind fun r4 => (cat? s3 r4).bind fun s5 => (iter (X := T15 ⊕ Zb) (Pcq.b0 k) k (Ze, s5, 0, [1779033703, 3144134277, 1013904242, 2773480762, 1359893119, 2600822924, 528734635, 1541459225])).bind fun r => match r with | .inl y => Pcq.d0 k y | .inr o => some o
theorem Pcq.ok : Yg 199 ⟨⟨[.v .str], [.f .str]⟩, fun k (x : Zb) => Pcq.f k x⟩ := Yq 55 (Yk 5 K27 Yv) (.m 5 (.seq (.n (.lp [.s 2 .str, .s 5 .str, .ptr 6 5001, .s 7 K0, .box 5001 281 K25 false false] 21 (.seq (.n (.cond .l .l)) (.seq (.blk .l) .l)))) (.n (.seq (.n (.lp [.s 2 .str, .s 8 .str, .slot 44 true K25 false, .s 45 K0] 3 (.n (.seq (.cond .l .l) (.seq (.blk (.n .l)) .l))))) (.n .l))))) Tryz.func199 (Yc Pbo.ok (Yc Pah.ok Yn))
def Pfw.f (k : Nat) (a0 : T9) (a1 : Zb) : Option Bool :=
 some (decide (a0.1 = a1))
theorem Pfw.ok : Yg 265 ⟨⟨[.w K10, .box 9 .str false false], [.f .bool]⟩, fun k (x : T9 × Zb) => Pfw.f k x.1 x.2⟩ := Yq 8 Yv (.n (.n .l)) Tryz.func265 Yn
def Pad.b0 (s : List T9 × Int × T5) : Option ((List T9 × Int × T5) ⊕ Int ⊕ Int) :=
 bif decide (s.2.2.2.1 < s.2.2.1) then (inb? s.1.length s.2.2.2.1).bind fun j1 => (s.1[j1]?).bind fun y2 => (Pfw.f k y2 s.2.2.2.2).bind fun r3 => bif r3 then some (.inr (.inr s.2.2.2.1)) else some (.inl (s.1, s.2.1, s.2.2.1, Zr (s.2.2.2.1 + 1), s.2.2.2.2)) else some (.inr (.inl s.2.1))
def Pad.d0 (k : Nat) (y : Int) : Option Int :=
 some (-1)
def Pad.f (a0 : List T9) (a1 : Zb) : Option Int :=
 (iter (X := Int ⊕ Int) (Pad.b0 k) k (a0, 0, (a0.length : Int), 0, a1)).bind fun r => match r with | .inl y => Pad.d0 k y | .inr o => some o
theorem Pad.ok : Yg 264 ⟨⟨[.v K26, .clo 265 false 9 .str], [.f K0]⟩, fun k (x : List T9 × Zb) => Pad.f k x.1 x.2⟩ := Yq 19 Yv (.n (.seq (.n (.lp [.s 0 K26, .fnp 1 265 false 2, .s 4 K0, .s 7 K0, .s 8 K0, .box 2 9 .str false true] 4 (.n (.seq (.cond .l .l) (.seq (.blk (.n .c)) .l))))) (.n .l))) Tryz.func264 (Yc Pfw.ok Yn)
def Phj.f (a0 : T0) (a1 : Zb) : Option Int :=
 (Pad.f k a0.1 a1).bind fun r1 => some (Zr (1 + r1))
theorem Phj.ok : Yg 200 ⟨⟨[.w K1, .v .str], [.f K0]⟩, fun k (x : T0 × Zb) => Phj.f k x.1 x.2⟩ := Yq 10 Yv (.n (.n .l)) Tryz.func200 (Yc Pad.ok Yn)
def Pbk.b0 (k : Nat) (s : Int × Bool × Int × List Int × T6) : Option ((Int × Bool × Int × List Int × T6) ⊕ (Bool × Int) ⊕ Bool) :=
 bif decide (s.2.2.2.2.2 < s.2.2.2.2.1) then (inb? s.2.2.2.1.length s.2.2.2.2.2).bind fun j1 => (s.2.2.2.1[j1]?).bind fun y2 => bif decide (y2 = s.1) then some (.inl (s.1, s.2.1, Zr (s.2.2.1 + 1), s.2.2.2.1, s.2.2.2.2.1, Zr (s.2.2.2.2.2 + 1))) else some (.inl (s.1, s.2.1, s.2.2.1, s.2.2.2.1, s.2.2.2.2.1, Zr (s.2.2.2.2.2 + 1))) else some (.inr (.inl (s.2.1, s.2.2.1)))
def Pbk.d0 (k : Nat) (y : Bool × Int) : Option Bool :=
 some (decide (y.2 = 1))
def Pbk.f (a0 : T0) (a1 : Int) : Option Bool :=
 (iter (X := (Bool × Int) ⊕ Bool) (Pbk.b0 k) k (a1, false, 0, a0.2.1, (a0.2.1.length : Int), 0)).bind fun r => match r with | .inl y => Pbk.d0 k y | .inr o => some o
theorem Pbk.ok : Yg 201 ⟨⟨[.w K1, .v K0], [.f .bool]⟩, fun k (x : T0 × Int) => Pbk.f k x.1 x.2⟩ := Yq 23 Yv (.n (.n (.seq (.n (.lp [.s 1 K0, .s 4 .bool, .s 5 K0, .s 9 K18, .s 10 K0, .s 11 K0] 6 (.n (.seq (.cond .l .l) (.seq (.blk (.n (.n (.cond .l .l)))) .l))))) (.n .l)))) Tryz.func201 Yn
def Pei.f (a0 : T27) : Option Bool :=
 (Paa.f k a0.1 0 5).bind fun r1 => bif r1 then (Paa.f k a0.2.1 0 6).bind fun r2 => bif r2 then (Paa.f k a0.2.2.1 0 4).bind fun r3 => bif r3 then bif decide ((a0.2.2.2.1.size : Int) = 0) then (Paa.f k a0.2.2.2.2.1 0 250).bind fun r4 => bif r4 then (Paa.f k a0.2.2.2.2.2 0 100000).bind fun r5 => some r5 else some false else bif decide ((a0.2.2.2.1.size : Int) = 32) then (Paa.f k a0.2.2.2.2.1 0 250).bind fun r6 => bif r6 then (Paa.f k a0.2.2.2.2.2 0 100000).bind fun r7 => some r7 else some false else some false else some false else some false else some false
theorem Pei.ok : Yg 202 ⟨⟨[.w K6], [.f .bool]⟩, fun k (x : T27) => Pei.f k x⟩ := Yq 38 Yv (.n (.n .l)) Tryz.func202 (Yc Paa.ok Yn)
def Pba.b0 (s : Bool × List T9 × Int × Int × T0) : Option ((Bool × List T9 × Int × Int × T0) ⊕ (Bool × T0) ⊕ Bool) :=
 bif decide (s.2.2.2.1 < s.2.2.1) then (inb? s.2.1.length s.2.2.2.1).bind fun j1 => (s.2.1[j1]?).bind fun y2 => (Pbp.f k y2.1).bind fun r3 => bif !r3.2 then some (.inr (.inr false)) else (Pcq.f k y2.1).bind fun r4 => bif !decide (y2.2.1 = r4) then some (.inr (.inr false)) else (Paa.f k y2.2.2 1 4).bind fun r5 => bif !r5 then some (.inr (.inr false)) else (Phj.f k s.2.2.2.2 y2.1).bind fun r6 => bif !decide (r6 = Zr (s.2.2.2.1 + 1)) then some (.inr (.inr false)) else bif decide (y2.2.2 = 2) then (Pbk.f k s.2.2.2.2 (Zr (s.2.2.2.1 + 1))).bind fun r7 => bif !r7 then some (.inr (.inr false)) else some (.inl (s.1, s.2.1, s.2.2.1, Zr (s.2.2.2.1 + 1), s.2.2.2.2)) else some (.inl (s.1, s.2.1, s.2.2.1, Zr (s.2.2.2.1 + 1), s.2.2.2.2)) else some (.inr (.inl (s.1, s.2.2.2.2)))
def Pba.b1 (s : Bool × List Int × Int × Int × T0) : Option ((Bool × List Int × Int × Int × T0) ⊕ (Bool × T0) ⊕ Bool) :=
 bif decide (s.2.2.2.1 < s.2.2.1) then (inb? s.2.1.length s.2.2.2.1).bind fun j1 => (s.2.1[j1]?).bind fun y2 => (Paa.f k y2 0 (s.2.2.2.2.1.length : Int)).bind fun r3 => bif !r3 then some (.inr (.inr false)) else bif decide (0 < y2) then (inb? s.2.2.2.2.1.length (Zr (y2 - 1))).bind fun j4 => (s.2.2.2.2.1[j4]?).bind fun y5 => bif !decide (y5.2.2 = 2) then some (.inr (.inr false)) else some (.inl (s.1, s.2.1, s.2.2.1, Zr (s.2.2.2.1 + 1), s.2.2.2.2)) else some (.inl (s.1, s.2.1, s.2.2.1, Zr (s.2.2.2.1 + 1), s.2.2.2.2)) else some (.inr (.inl (s.1, s.2.2.2.2)))
def Pba.b2 (s : Bool × List T8 × Int × Int × T0) : Option ((Bool × List T8 × Int × Int × T0) ⊕ Bool ⊕ Bool) :=
 bif decide (s.2.2.2.1 < s.2.2.1) then (inb? s.2.1.length s.2.2.2.1).bind fun j1 => (s.2.1[j1]?).bind fun y2 => (Paa.f k y2.1 1 6).bind fun r3 => bif !r3 then some (.inr (.inr false)) else bif decide (0 < s.2.2.2.1) then (inb? s.2.2.2.2.2.2.length (Zr (s.2.2.2.1 - 1))).bind fun j4 => (s.2.2.2.2.2.2[j4]?).bind fun y5 => bif decide (y2.1 ≤ y5.1) then some (.inr (.inr false)) else (Paa.f k y2.2.1 1 1000000).bind fun r6 => bif !r6 then some (.inr (.inr false)) else (Pei.f k y2.2.2).bind fun r7 => bif !r7 then some (.inr (.inr false)) else some (.inl (s.1, s.2.1, s.2.2.1, Zr (s.2.2.2.1 + 1), s.2.2.2.2)) else (Paa.f k y2.2.1 1 1000000).bind fun r8 => bif !r8 then some (.inr (.inr false)) else (Pei.f k y2.2.2).bind fun r9 => bif !r9 then some (.inr (.inr false)) else some (.inl (s.1, s.2.1, s.2.2.1, Zr (s.2.2.2.1 + 1), s.2.2.2.2)) else some (.inr (.inl s.1))
def Pba.d2 (k : Nat) (y : Bool) : Option Bool :=
 some true
def Pba.d1 (y : Bool × T0) : Option Bool :=
 (iter (X := Bool ⊕ Bool) (Pba.b2 k) k (y.1, y.2.2.2, (y.2.2.2.length : Int), 0, y.2)).bind fun r => match r with | .inl y => Pba.d2 k y | .inr o => some o
def Pba.d0 (y : Bool × T0) : Option Bool :=
 (iter (X := (Bool × T0) ⊕ Bool) (Pba.b1 k) k (y.1, y.2.2.1, (y.2.2.1.length : Int), 0, y.2)).bind fun r => match r with | .inl y => Pba.d1 k y | .inr o => some o
def Pba.f (a0 : T0) : Option Bool :=
 bif decide (6 < (a0.1.length : Int)) then some false else bif !decide ((a0.2.1.length : Int) = 3) then some false else bif decide (6 < (a0.2.2.length : Int)) then some false else (iter (X := (Bool × T0) ⊕ Bool) (Pba.b0 k) k (false, a0.1, (a0.1.length : Int), 0, a0)).bind fun r => match r with | .inl y => Pba.d0 k y | .inr o => some o
theorem Pba.ok : Yg 103 ⟨⟨[.w K1], [.f .bool]⟩, fun k (x : T0) => Pba.f k x⟩ := Yq 148 Yv (.n (.seq .c (.seq (.n (.lp [.ptr 1 1000, .s 2 .bool, .s 28 K26, .s 29 K0, .s 30 K0, .box 1000 47 K1 false false] 35 (.n (.seq (.cond .l .l) (.seq (.blk (.n (.n .c))) .l))))) (.seq (.n (.lp [.ptr 1 1000, .s 2 .bool, .s 80 K18, .s 81 K0, .s 82 K0, .box 1000 47 K1 false false] 35 (.n (.seq (.cond .l .l) (.seq (.blk (.n .c)) .l))))) (.seq (.n (.lp [.ptr 1 1000, .s 2 .bool, .s 108 K30, .s 109 K0, .s 110 K0, .box 1000 47 K1 false false] 2 (.n (.seq (.cond .l .l) (.seq (.blk (.n .c)) .l))))) (.n .l)))))) Tryz.func103 (Yc Pbp.ok (Yc Pcq.ok (Yc Paa.ok (Yc Phj.ok (Yc Pbk.ok (Yc Pei.ok Yn))))))
def Pfx.f (a0 : T5) : Option Bool :=
 bif decide (a0.1 = 0) && (decide (a0.2.1 = 0) && (decide (a0.2.2 = Ze) && true)) then some true else (Paa.f k a0.1 1 100000).bind fun r1 => bif r1 then (Paa.f k a0.2.1 1 100000).bind fun r2 => bif r2 then some (decide ((a0.2.2.size : Int) ≤ 8000)) else some false else some false
theorem Pfx.ok : Yg 104 ⟨⟨[.w K14], [.f .bool]⟩, fun k (x : T5) => Pfx.f k x⟩ := Yq 22 Yv (.n (.n .l)) Tryz.func104 (Yc Paa.ok Yn)
def Pcs.f (a0 : T13) : Option (Int × T13) :=
 (Pcy.f k a0 1).bind fun r1 => bif decide (r1.1 = Ze) then some (0, r1.2) else (inb? r1.1.size 0).bind fun j2 => some (Zr (Qmy r1.1 j2), r1.2)
theorem Pcs.ok : Yg 204 ⟨⟨[.box 249 K24 false true], [.f K0]⟩, fun k (x : T13) => Pcs.f k x⟩ := Yq 11 Yv (.n (.n (.seq .c (.n .l)))) Tryz.func204 (Yc Pcy.ok Yn)
def Pds.f (a0 : T13) : Option (Zb × T13) :=
 (Pat.f k a0).bind fun r1 => (Pcy.f k r1.2 r1.1).bind fun r2 => some r2
theorem Pds.ok : Yg 205 ⟨⟨[.box 249 K24 false true], [.f .str]⟩, fun k (x : T13) => Pds.f k x⟩ := Yq 9 Yv (.m 3 .l) Tryz.func205 (Yc Pat.ok (Yc Pcy.ok Yn))
def Pdl.f (a0 : T27) : Option Zb :=
 (Pei.f k a0).bind fun r1 => bif !r1 then some Ze else (Pbt.f k a0.1).bind fun r2 => (Pbt.f k a0.2.1).bind fun r3 => (cat? r2 r3).bind fun s4 => (Pbt.f k a0.2.2.1).bind fun r5 => (cat? s4 r5).bind fun s6 => (Pbt.f k a0.2.2.2.2.1).bind fun r7 => (cat? s6 r7).bind fun s8 => (Pbt.f k a0.2.2.2.2.2).bind fun r9 => (cat? s8 r9).bind fun s10 => (cat? s10 a0.2.2.2.1).bind fun s11 => some s11
theorem Pdl.ok : Yg 237 ⟨⟨[.w K6], [.f .str]⟩, fun k (x : T27) => Pdl.f k x⟩ := Yq 28 Yv (.n (.seq .c (.n .l))) Tryz.func237 (Yc Pei.ok (Yc Pbt.ok Yn))
def Pdj.f (a0 : Zb) : Option (T27 × Bool) :=
 (Pat.f k (a0, false)).bind fun r1 => (Pat.f k r1.2).bind fun r2 => (Pat.f k r2.2).bind fun r3 => (Pat.f k r3.2).bind fun r4 => (Pat.f k r4.2).bind fun r5 => bif r5.2.2 then some ((0, 0, 0, Ze, 0, 0), false) else bif decide (a0 = Ze) then some ((0, 0, 0, Ze, 0, 0), false) else (Pdl.f k (r1.1, r2.1, r3.1, r5.2.1, r4.1, r5.1)).bind fun r6 => bif !decide (r6 = a0) then some ((0, 0, 0, Ze, 0, 0), false) else some ((r1.1, r2.1, r3.1, r5.2.1, r4.1, r5.1), true)
theorem Pdj.ok : Yg 207 ⟨⟨[.v .str], [.t K6, .f .bool]⟩, fun k (x : Zb) => Pdj.f k x⟩ := Yq 45 Yv (.m 8 (.seq .c (.n .l))) Tryz.func207 (Yc Pat.ok (Yc Pdl.ok Yn))
def Pif.f (a0 : Zb) : Option Zb :=
 (Pbt.f k (a0.size : Int)).bind fun r1 => (cat? r1 a0).bind fun s2 => some s2
theorem Pif.ok : Yg 236 ⟨⟨[.v .str], [.f .str]⟩, fun k (x : Zb) => Pif.f k x⟩ := Yq 8 Yv (.n (.n .l)) Tryz.func236 (Yc Pbt.ok Yn)
def Pax.b0 (s : Zb × Zb × List T9 × Int × Int × T0) : Option ((Zb × Zb × List T9 × Int × Int × T0) ⊕ T21 ⊕ Zb) :=
 bif decide (s.2.2.2.2.1 < s.2.2.2.1) then (inb? s.2.2.1.length s.2.2.2.2.1).bind fun j1 => (s.2.2.1[j1]?).bind fun y2 => (cat? s.2.1 (strOfNums ([IntKind.wrap .u8 (y2.2.2)]))).bind fun s3 => (Pif.f k y2.1).bind fun r4 => (cat? s3 r4).bind fun s5 => some (.inl (s.1, s5, s.2.2.1, s.2.2.2.1, Zr (s.2.2.2.2.1 + 1), s.2.2.2.2.2)) else some (.inr (.inl (s.1, s.2.1, s.2.2.2.2.2)))
def Pax.b1 (s : Zb × Zb × List Int × Int × Int × T0) : Option ((Zb × Zb × List Int × Int × Int × T0) ⊕ T21 ⊕ Zb) :=
 bif decide (s.2.2.2.2.1 < s.2.2.2.1) then (inb? s.2.2.1.length s.2.2.2.2.1).bind fun j1 => (s.2.2.1[j1]?).bind fun y2 => (Pbt.f k y2).bind fun r3 => (cat? s.2.1 r3).bind fun s4 => some (.inl (s.1, s4, s.2.2.1, s.2.2.2.1, Zr (s.2.2.2.2.1 + 1), s.2.2.2.2.2)) else some (.inr (.inl (s.1, s.2.1, s.2.2.2.2.2)))
def Pax.b2 (s : Zb × Zb × List T8 × T6) : Option ((Zb × Zb × List T8 × T6) ⊕ T14 ⊕ Zb) :=
 bif decide (s.2.2.2.2 < s.2.2.2.1) then (inb? s.2.2.1.length s.2.2.2.2).bind fun j1 => (s.2.2.1[j1]?).bind fun y2 => (Pbt.f k y2.1).bind fun r3 => (cat? s.2.1 r3).bind fun s4 => (Pbt.f k y2.2.1).bind fun r5 => (cat? s4 r5).bind fun s6 => (Pdl.f k y2.2.2).bind fun r7 => (Pif.f k r7).bind fun r8 => (cat? s6 r8).bind fun s9 => some (.inl (s.1, s9, s.2.2.1, s.2.2.2.1, Zr (s.2.2.2.2 + 1))) else some (.inr (.inl (s.1, s.2.1)))
def Pax.d2 (k : Nat) (y : T14) : Option Zb :=
 some y.2
def Pax.d1 (y : T21) : Option Zb :=
 (Pbt.f k (y.2.2.2.2.length : Int)).bind fun r1 => (cat? y.2.1 r1).bind fun s2 => (iter (X := T14 ⊕ Zb) (Pax.b2 k) k (y.1, s2, y.2.2.2.2, (y.2.2.2.2.length : Int), 0)).bind fun r => match r with | .inl y => Pax.d2 k y | .inr o => some o
def Pax.d0 (y : T21) : Option Zb :=
 (iter (X := T21 ⊕ Zb) (Pax.b1 k) k (y.1, y.2.1, y.2.2.2.1, (y.2.2.2.1.length : Int), 0, y.2.2)).bind fun r => match r with | .inl y => Pax.d1 k y | .inr o => some o
def Pax.f (a0 : T0) : Option Zb :=
 (Pba.f k a0).bind fun r1 => bif !r1 then some Ze else (Pbt.f k (a0.1.length : Int)).bind fun r2 => (iter (X := T21 ⊕ Zb) (Pax.b0 k) k (Ze, r2, a0.1, (a0.1.length : Int), 0, a0)).bind fun r => match r with | .inl y => Pax.d0 k y | .inr o => some o
theorem Pax.ok : Yg 151 ⟨⟨[.w K1], [.f .str]⟩, fun k (x : T0) => Pax.f k x⟩ := Yq 77 (Yk 5 K27 Yv) (.n (.seq .c (.n (.seq (.n (.lp [.ptr 1 1000, .s 2 .str, .s 3 .str, .s 18 K26, .s 19 K0, .s 20 K0, .box 1000 47 K1 false false] 71 (.n (.seq (.cond .l .l) (.seq (.blk (.n .l)) .l))))) (.seq (.n (.lp [.ptr 1 1000, .s 2 .str, .s 3 .str, .s 37 K18, .s 38 K0, .s 39 K0, .box 1000 47 K1 false false] 71 (.n (.seq (.cond .l .l) (.seq (.blk (.n .l)) .l))))) (.n (.seq (.n (.lp [.s 2 .str, .s 3 .str, .s 55 K30, .s 56 K0, .s 57 K0] 3 (.n (.seq (.cond .l .l) (.seq (.blk (.n .l)) .l))))) (.n .l)))))))) Tryz.func151 (Yc Pba.ok (Yc Pbt.ok (Yc Pif.ok (Yc Pdl.ok Yn))))
def Pag.b0 (s : Zb × Bool × Int × Int × T0 × T13 × T0) : Option T43 :=
 bif decide (s.2.2.2.1 < s.2.2.1) then (Pcs.f k s.2.2.2.2.2.1).bind fun r1 => (Pds.f k r1.2).bind fun r2 => (Pcq.f k r2.1).bind fun r3 => (app? (limOf 40) s.2.2.2.2.2.2.1 ([(r2.1, r3, r1.1)])).bind fun l4 => some (.inl (s.1, s.2.1, s.2.2.1, Zr (s.2.2.2.1 + 1), s.2.2.2.2.1, r2.2, l4, s.2.2.2.2.2.2.2)) else some (.inr (.inl (s.1, s.2.1, s.2.2.2.2)))
def Pag.b1 (s : Zb × Bool × Int × T0 × T13 × T0) : Option ((Zb × Bool × Int × T0 × T13 × T0) ⊕ T19 ⊕ T23) :=
 bif decide (s.2.2.1 < 3) then (Pat.f k s.2.2.2.2.1).bind fun r1 => (app? (limOf 8) s.2.2.2.2.2.2.1 ([r1.1])).bind fun l2 => some (.inl (s.1, s.2.1, Zr (s.2.2.1 + 1), s.2.2.2.1, r1.2, s.2.2.2.2.2.1, l2, s.2.2.2.2.2.2.2)) else some (.inr (.inl (s.1, s.2.1, s.2.2.2)))
def Pag.b2 (s : Zb × Bool × Int × Int × T0 × T13 × T0) : Option T43 :=
 bif decide (s.2.2.2.1 < s.2.2.1) then (Pat.f k s.2.2.2.2.2.1).bind fun r1 => (Pat.f k r1.2).bind fun r2 => (Pds.f k r2.2).bind fun r3 => (Pdj.f k r3.1).bind fun r4 => (app? (limOf 72) s.2.2.2.2.2.2.2.2 ([(r1.1, r2.1, r4.1)])).bind fun l5 => some (.inl (s.1, s.2.1, s.2.2.1, Zr (s.2.2.2.1 + 1), s.2.2.2.2.1, r3.2, s.2.2.2.2.2.2.1, s.2.2.2.2.2.2.2.1, l5)) else some (.inr (.inl (s.1, s.2.1, s.2.2.2.2)))
def Pag.d2 (y : T19) : Option T23 :=
 bif y.2.2.2.1.2 then some (([], [], []), false) else bif decide (y.1 = Ze) then some (([], [], []), false) else (Pax.f k y.2.2.2.2).bind fun r1 => bif !decide (r1 = y.1) then some (([], [], []), false) else some (y.2.2.2.2, true)
def Pag.d1 (y : T19) : Option T23 :=
 (Pcc.f k y.2.2.2.1 6).bind fun r1 => (iter (X := T19 ⊕ T23) (Pag.b2 k) k (y.1, y.2.1, r1.1, 0, y.2.2.1, r1.2, y.2.2.2.2)).bind fun r => match r with | .inl y => Pag.d2 k y | .inr o => some o
def Pag.d0 (y : T19) : Option T23 :=
 (iter (X := T19 ⊕ T23) (Pag.b1 k) k (y.1, y.2.1, 0, y.2.2)).bind fun r => match r with | .inl y => Pag.d1 k y | .inr o => some o
def Pag.f (a0 : Zb) : Option T23 :=
 (Pcc.f k (a0, false) 6).bind fun r1 => (iter (X := T19 ⊕ T23) (Pag.b0 k) k (a0, false, r1.1, 0, ([], [], []), r1.2, [], [], [])).bind fun r => match r with | .inl y => Pag.d0 k y | .inr o => some o
theorem Pag.ok : Yg 105 ⟨⟨[.v .str], [.t K1, .f .bool]⟩, fun k (x : Zb) => Pag.f k x⟩ := Yq 90 (Yk 3 K0 (Yk 124 K10 (Yk 135 K13 Yv))) (.m 4 (.seq (.n (.lp [.s 0 .str, .ptr 2 1000, .s 3 .bool, .ptr 4 2002, .ptr 5 3001, .s 17 K0, .s 18 K0, .box 1000 47 K1 true false, .box 2002 249 K24 false false, .box 3001 47 K1 true false] 927 (.n (.seq (.cond .l .l) (.seq (.blk (.m 3 .l)) .l))))) (.seq (.n (.lp [.s 0 .str, .ptr 2 1000, .s 3 .bool, .ptr 4 2002, .ptr 5 3001, .s 37 K0, .box 1000 47 K1 true false, .box 2002 249 K24 false false, .box 3001 47 K1 true false] 479 (.n (.seq (.cond .l .l) (.seq (.blk (.n .l)) .l))))) (.n (.seq (.n (.lp [.s 0 .str, .ptr 2 1000, .s 3 .bool, .ptr 4 2002, .ptr 5 3001, .s 50 K0, .s 51 K0, .box 1000 47 K1 true false, .box 2002 249 K24 false false, .box 3001 47 K1 true false] 927 (.n (.seq (.cond .l .l) (.seq (.blk (.m 4 .l)) .l))))) (.seq .c (.n .l))))))) Tryz.func105 (Yc Pcc.ok (Yc Pcs.ok (Yc Pds.ok (Yc Pcq.ok (Yc Pat.ok (Yc Pdj.ok (Yc Pax.ok Yn)))))))
def Pbz.b0 (s : List T4 × List T4 × List T26 × T6) : Option ((List T4 × List T4 × List T26 × T6) ⊕ T35 ⊕ (List T4)) :=
 bif decide (s.2.2.2.2 < s.2.2.2.1) then (inb? s.2.2.1.length s.2.2.2.2).bind fun j1 => (s.2.2.1[j1]?).bind fun y2 => (Phm.f k s.2.1 y2).bind fun r3 => some (.inl (s.1, r3.1, s.2.2.1, s.2.2.2.1, Zr (s.2.2.2.2 + 1))) else some (.inr (.inl (s.1, s.2.1)))
def Pbz.d0 (k : Nat) (y : T35) : Option (List T4) :=
 some y.2
def Pbz.f (a0 : T1) (a1 : Int) : Option (List T4) :=
 (Pcx.f k a0.2.2.2.1).bind fun r1 => (cut? a0.2.2.2.2.length 0 a1).bind fun p2 => (iter (X := T35 ⊕ (List T4)) (Pbz.b0 k) k ([], r1, (a0.2.2.2.2.take p2.2).drop p2.1, (((a0.2.2.2.2.take p2.2).drop p2.1).length : Int), 0)).bind fun r => match r with | .inl y => Pbz.d0 k y | .inr o => some o
theorem Pbz.ok : Yg 229 ⟨⟨[.w K2, .v K0], [.f K11]⟩, fun k (x : T1 × Int) => Pbz.f k x.1 x.2⟩ := Yq 28 Yv (.n (.n (.seq (.n (.lp [.o 4 K11, .o 5 K11, .s 14 K29, .s 15 K0, .s 16 K0] 3 (.n (.seq (.cond .l .l) (.seq (.blk (.n .l)) .l))))) (.n .l)))) Tryz.func229 (Yc Pcx.ok (Yc Phm.ok Yn))
def Pgj.f (a0 : T1) : Option (List T4) :=
 (Pbz.f k a0 (a0.2.2.2.2.length : Int)).bind fun r1 => some r1
theorem Pgj.ok : Yg 220 ⟨⟨[.w K2], [.f K11]⟩, fun k (x : T1) => Pgj.f k x⟩ := Yq 8 Yv (.n (.n .l)) Tryz.func220 (Yc Pbz.ok Yn)
def Pdg.f (a0 : T1) (a1 : Zb) : Option Int :=
 (Pgj.f k a0).bind fun r1 => (Pga.f k r1 a1).bind fun r2 => bif decide (r2 < 0) then some (-1) else (inb? r1.length r2).bind fun j3 => (r1[j3]?).bind fun y4 => (Pdz.f k a0 y4.2).bind fun r5 => some r5
theorem Pdg.ok : Yg 116 ⟨⟨[.w K2, .v .str], [.f K0]⟩, fun k (x : T1 × Zb) => Pdg.f k x.1 x.2⟩ := Yq 21 Yv (.m 3 (.seq .c (.n .l))) Tryz.func116 (Yc Pgj.ok (Yc Pga.ok (Yc Pdz.ok Yn)))
def Pjr.f (a0 : T1) (a1 : Zb) : Option T13 :=
 (Pcg.f k a0).bind fun r1 => bif !r1 then some (Ze, false) else (Pdg.f k a0 a1).bind fun r2 => bif decide (r2 < 0) then some (Ze, false) else (Pdg.f k a0 a1).bind fun r3 => (inb? a0.2.2.1.length r3).bind fun j4 => (a0.2.2.1[j4]?).bind fun y5 => some (y5.2.1, true)
theorem Pjr.ok : Yg 208 ⟨⟨[.w K2, .v .str], [.f .str, .f .bool]⟩, fun k (x : T1 × Zb) => Pjr.f k x.1 x.2⟩ := Yq 23 Yv (.n (.seq .c (.n .l))) Tryz.func208 (Yc Pcg.ok (Yc Pdg.ok Yn))
def Pbq.b0 (k : Nat) (s : Zb × Int × Int × Bool × T6) : Option ((Zb × Int × Int × Bool × T6) ⊕ T36 ⊕ T30) :=
 bif decide (s.2.2.2.2.2 < s.2.1) then (inb? s.1.size s.2.2.2.2.2).bind fun j1 => some (.inl (s.1, s.2.1, s.2.2.1, s.2.2.2.1, bits .or .i64 (Zr (s.2.2.2.2.1 * 2 ^ (min (8 : Int).toNat (IntKind.bits .i64)))) (Zr (Qmy s.1 j1)), Zr (s.2.2.2.2.2 + 1))) else some (.inr (.inl (s.2.2.1, s.2.2.2.1, s.2.2.2.2.1)))
def Pbq.d0 (k : Nat) (y : T36) : Option T30 :=
 some (y.2.2, true)
def Pbq.f (a0 : Zb) (a1 : Int) : Option T30 :=
 (Paa.f k a1 1 7).bind fun r1 => bif !r1 then some (0, false) else bif decide ((a0.size : Int) < a1) then some (0, false) else (iter (X := T36 ⊕ T30) (Pbq.b0 k) k (a0, a1, 0, false, 0, 0)).bind fun r => match r with | .inl y => Pbq.d0 k y | .inr o => some o
theorem Pbq.ok : Yg 271 ⟨⟨[.v .str, .v K0], [.f K0, .f .bool]⟩, fun k (x : T4) => Pbq.f k x.1 x.2⟩ := Yq 30 Yv (.n (.seq .c (.n (.seq (.n (.lp [.s 0 .str, .s 1 K0, .s 4 K0, .s 5 .bool, .s 6 K0, .s 7 K0] 28 (.seq (.n (.cond .l .l)) (.seq (.blk .l) .l)))) (.n .l))))) Tryz.func271 (Yc Paa.ok Yn)
def Pcb.b1 (k : Nat) (s : T33) : Option (T33 ⊕ T17 ⊕ Int) :=
 bif decide (s.2.2.2.2 < 8) then bif decide (bits .and .i64 s.2.2.1 1 = 1) then some (.inl (s.1, s.2.1, bits .xor .i64 (Int.fdiv s.2.2.1 (2 ^ (min (1 : Int).toNat (IntKind.bits .i64)))) 2197175160, s.2.2.2.1, Zr (s.2.2.2.2 + 1))) else some (.inl (s.1, s.2.1, Int.fdiv s.2.2.1 (2 ^ (min (1 : Int).toNat (IntKind.bits .i64))), s.2.2.2.1, Zr (s.2.2.2.2 + 1))) else some (.inr (.inl (s.1, s.2.1, s.2.2.1, s.2.2.2.1)))
def Pcb.d0 (k : Nat) (y : T17) : Option (T17 ⊕ T6 ⊕ Int) :=
 some (.inl (y.1, y.2.1, y.2.2.1, Zr (y.2.2.2 + 1)))
def Pcb.b0 (s : T17) : Option (T17 ⊕ T6 ⊕ Int) :=
 bif decide (s.2.2.2 < (s.1.size : Int)) then (inb? s.1.size s.2.2.2).bind fun j1 => (iter (X := T17 ⊕ Int) (Pcb.b1 k) k (s.1, s.2.1, bits .xor .i64 s.2.2.1 (Zr (Qmy s.1 j1)), s.2.2.2, 0)).bind fun r => match r with | .inl y => Pcb.d0 k y | .inr o => some (.inr (.inr o)) else some (.inr (.inl (s.2.1, s.2.2.1)))
def Pcb.d1 (k : Nat) (y : T6) : Option Int :=
 some (Zr (4294967295 - y.2))
def Pcb.f (a0 : Zb) : Option Int :=
 (iter (X := T6 ⊕ Int) (Pcb.b0 k) k (a0, 0, 4294967295, 0)).bind fun r => match r with | .inl y => Pcb.d1 k y | .inr o => some o
theorem Pcb.ok : Yg 305 ⟨⟨[.v .str], [.f K0]⟩, fun k (x : Zb) => Pcb.f k x⟩ := Yq 31 Yv (.n (.n (.seq (.n (.lp [.s 0 .str, .s 2 K0, .s 3 K0, .s 4 K0] 6 (.seq (.n (.cond .l .l)) (.seq (.blk (.n (.n (.lp [.s 0 .str, .s 2 K0, .s 3 K0, .s 4 K0, .s 18 K0] 15 (.n (.seq (.cond .l .l) (.seq (.blk (.m 3 (.cond .l .l))) .l))))))) .l)))) (.n .l)))) Tryz.func305 Yn
def Peg.f (a0 : Zb) : Option Zb :=
 (Paa.f k (a0.size : Int) 1 2000).bind fun r1 => bif !r1 then some Ze else (Pbo.f k (a0.size : Int) 4).bind fun r2 => (cat? r2 a0).bind fun s3 => (Pcb.f k s3).bind fun r4 => (Pbo.f k r4 4).bind fun r5 => (cat? r2 r5).bind fun s6 => (cat? s6 a0).bind fun s7 => some s7
theorem Peg.ok : Yg 292 ⟨⟨[.v .str], [.f .str]⟩, fun k (x : Zb) => Peg.f k x⟩ := Yq 20 Yv (.n (.seq .c (.n (.n .l)))) Tryz.func292 (Yc Paa.ok (Yc Pbo.ok (Yc Pcb.ok Yn)))
def Pfd.f (a0 : Zb) : Option (Zb × T6) :=
 (Pbq.f k a0 4).bind fun r1 => bif !r1.2 then some (Ze, 0, 1) else (Paa.f k r1.1 1 2000).bind fun r2 => bif !r2 then some (Ze, 0, 2) else bif decide ((a0.size : Int) < Zr (8 + r1.1)) then some (Ze, 0, 1) else (cut? a0.size 8 (Zr (8 + r1.1))).bind fun p3 => (Peg.f k (a0.extract p3.1 p3.2)).bind fun r4 => (cut? a0.size 0 (Zr (8 + r1.1))).bind fun p5 => bif !decide (r4 = a0.extract p5.1 p5.2) then some (Ze, 0, 2) else some (a0.extract p3.1 p3.2, Zr (8 + r1.1), 0)
theorem Pfd.ok : Yg 270 ⟨⟨[.v .str], [.f .str, .f K0, .f K0]⟩, fun k (x : Zb) => Pfd.f k x⟩ := Yq 40 Yv (.n (.n (.seq (.blk (.n (.cond (.n .l) (.n (.cond (.n .l) .c))))) (.n (.seq .c (.n .l)))))) Tryz.func270 (Yc Pbq.ok (Yc Paa.ok (Yc Peg.ok Yn)))
def Pdq.b0 (s : Zb × T42) : Option ((Zb × T42) ⊕ Unit ⊕ T16) :=
 (cut? s.1.size s.2.2.2.2 s.1.size).bind fun p1 => (Pfd.f k (s.1.extract p1.1 p1.2)).bind fun r2 => bif !decide (r2.2.2 = 0) then some (.inr (.inr s.2.2.2)) else (app? (limOf 16) s.2.2.2.1 ([r2.1])).bind fun l3 => some (.inl (s.1, s.2.1, s.2.2.1, l3, Zr (s.2.2.2.2 + r2.2.1)))
def Pdq.d0 (k : Nat) (y : Unit) : Option T16 :=
 none
def Pdq.f (a0 : Zb) : Option T16 :=
 (iter (X := Unit ⊕ T16) (Pdq.b0 k) k (a0, [], 0, [], 0)).bind fun r => match r with | .inl y => Pdq.d0 k y | .inr o => some o
theorem Pdq.ok : Yg 267 ⟨⟨[.v .str], [.f K21, .f K0]⟩, fun k (x : Zb) => Pdq.f k x⟩ := Yq 29 (Yk 9 .str Yv) (.m 3 (.lp [.s 0 .str, .o 2 K21, .s 3 K0, .o 4 K21, .s 5 K0] 0 (.blk (.n (.seq .c (.n .l)))))) Tryz.func267 (Yc Pfd.ok Yn)
def Pjl.f (a0 : Int × Int × T5) : Option Bool :=
 bif decide (a0.1 = 1) then (Pfy.f k a0.2.1).bind fun r1 => bif r1 then (Pfz.f k a0.2.2.2.1).bind fun r2 => bif r2 then bif decide (a0.2.2.1 = 0) then some (decide (a0.2.2.2.2 = Ze)) else some false else some false else some false else bif decide (a0.1 = 2) then (Paa.f k a0.2.1 1 100000).bind fun r3 => bif r3 then (Paa.f k a0.2.2.1 1 100000).bind fun r4 => bif r4 then bif decide ((a0.2.2.2.2.size : Int) ≤ 900) then some (decide (a0.2.2.2.1 = 0)) else some false else some false else some false else bif decide (a0.1 = 3) then bif decide (a0.1 = 3) && (decide (a0.2.1 = 0) && (decide (a0.2.2.1 = a0.2.2.1) && (decide (a0.2.2.2.1 = 0) && (decide (a0.2.2.2.2 = Ze) && true)))) then (Paa.f k a0.2.2.1 1 100000).bind fun r5 => some r5 else some false else bif decide (a0.1 = 4) then (Pfj.f k a0.2.2.1 a0.2.1).bind fun r6 => bif r6 then bif decide (a0.2.2.2.1 = 0) then some (decide (a0.2.2.2.2 = Ze)) else some false else some false else some false
theorem Pjl.ok : Yg 310 ⟨⟨[.w K20], [.f .bool]⟩, fun k (x : Int × Int × T5) => Pjl.f k x⟩ := Yq 75 Yv (.n (.seq (.n (.blk (.n (.cond (.n .l) (.n (.cond (.n .l) (.n (.cond (.n .l) .c)))))))) (.n .l))) Tryz.func310 (Yc Pfy.ok (Yc Pfz.ok (Yc Paa.ok (Yc Pfj.ok Yn))))
def Phk.f (a0 : Int × Int × T5) : Option Zb :=
 (Pjl.f k a0).bind fun r1 => bif !r1 then some Ze else (Pbt.f k a0.2.1).bind fun r2 => (cat? (strOfNums ([IntKind.wrap .u8 (a0.1)])) r2).bind fun s3 => (Pbt.f k a0.2.2.1).bind fun r4 => (cat? s3 r4).bind fun s5 => (Pbt.f k (Zr (a0.2.2.2.1 + 1))).bind fun r6 => (cat? s5 r6).bind fun s7 => (cat? s7 a0.2.2.2.2).bind fun s8 => some s8
theorem Phk.ok : Yg 300 ⟨⟨[.w K20], [.f .str]⟩, fun k (x : Int × Int × T5) => Phk.f k x⟩ := Yq 27 (Yk 5 K27 Yv) (.n (.seq .c (.n .l))) Tryz.func300 (Yc Pjl.ok (Yc Pbt.ok Yn))
def Pfv.f (a0 : Zb) : Option ((Int × Int × T5) × Bool) :=
 (Pcs.f k (a0, false)).bind fun r1 => (Pat.f k r1.2).bind fun r2 => (Pat.f k r2.2).bind fun r3 => (Pat.f k r3.2).bind fun r4 => bif r4.2.2 then some ((0, 0, 0, 0, Ze), false) else bif decide (a0 = Ze) then some ((0, 0, 0, 0, Ze), false) else (Phk.f k (r1.1, r2.1, r3.1, Zr (r4.1 - 1), r4.2.1)).bind fun r5 => bif !decide (r5 = a0) then some ((0, 0, 0, 0, Ze), false) else some ((r1.1, r2.1, r3.1, Zr (r4.1 - 1), r4.2.1), true)
theorem Pfv.ok : Yg 268 ⟨⟨[.v .str], [.t K20, .f .bool]⟩, fun k (x : Zb) => Pfv.f k x⟩ := Yq 45 Yv (.m 8 (.seq .c (.n .l))) Tryz.func268 (Yc Pcs.ok (Yc Pat.ok (Yc Phk.ok Yn)))
def Peh.f (k : Nat) (a0 : T2) : Option Int :=
 bif decide (0 < (a0.2.2.2.2.length : Int)) then (inb? a0.2.2.2.2.length (Zr ((a0.2.2.2.2.length : Int) - 1))).bind fun j1 => (a0.2.2.2.2[j1]?).bind fun y2 => some y2.1 else some a0.2.2.2.1
theorem Peh.ok : Yg 301 ⟨⟨[.w K4], [.f K0]⟩, fun k (x : T2) => Peh.f k x⟩ := Yq 18 Yv (.n (.seq (.n .c) (.n .l))) Tryz.func301 Yn
def Pdx.c0 (k : Nat) (y : Bool × T2 × Int × Int × T5) : Option (Bool × T2) :=
 some (true, y.2.2.2.1, y.2.2.2.2.2.1, y.2.1.2.2)
def Pdx.f (a0 : T2) (a1 : Int × Int × T5) : Option (Bool × T2) :=
 bif decide (a1.1 = 1) then Option.bind (α := (Bool × T2 × Int × Int × T5) ⊕ (Bool × T2)) (bif decide (a1.2.1 < a0.1) then some (.inr (false, a0)) else bif decide (a1.2.1 = a0.1) then bif !decide (a0.2.1 = (-1)) then bif !decide (a0.2.1 = a1.2.2.2.1) then some (.inr (false, a0)) else some (.inl (false, a0, a1)) else some (.inl (false, a0, a1)) else some (.inl (false, a0, a1))) fun r => match r with | .inl y => Pdx.c0 k y | .inr o => some o else bif decide (a1.1 = 2) then (Pej.f k a0).bind fun r1 => bif !decide (a1.2.2.1 = Zr (r1 + 1)) then some (false, a0) else bif decide (60 ≤ (a0.2.2.2.2.length : Int)) then some (false, a0) else (Peh.f k a0).bind fun r2 => (Paa.f k a1.2.1 r2 a0.1).bind fun r3 => bif !r3 then some (false, a0) else (app? (limOf 24) a0.2.2.2.2 ([(a1.2.1, a1.2.2.2.2)])).bind fun l4 => some (true, a0.1, a0.2.1, a0.2.2.1, a0.2.2.2.1, l4) else bif decide (a1.1 = 3) then (Pej.f k a0).bind fun r5 => (Paa.f k a1.2.2.1 (Zr (a0.2.2.1 + 1)) r5).bind fun r6 => bif !r6 then some (false, a0) else (cut? a0.2.2.2.2.length 0 (Zr ((Zr (a1.2.2.1 - a0.2.2.1)) - 1))).bind fun p7 => some (true, a0.1, a0.2.1, a0.2.2.1, a0.2.2.2.1, (a0.2.2.2.2.take p7.2).drop p7.1) else some (false, a0)
theorem Pdx.ok : Yg 269 ⟨⟨[.box 77 K4 true true, .w K20], [.f .bool]⟩, fun k (x : T2 × Int × Int × T5) => Pdx.f k x.1 x.2⟩ := Yq 128 (Yk 145 K8 Yv) (.n (.seq (.n (.blk (.n (.cond (.seq (.cut [.ptr 0 1, .ptr 3 1000, .s 4 .bool, .box 1 77 K4 true false, .box 1000 229 K20 false false] .c) (.n .l)) (.n (.cond (.seq .c .l) (.n (.cond (.seq .c .l) (.n .l))))))))) (.n .l))) Tryz.func269 (Yc Pej.ok (Yc Peh.ok (Yc Paa.ok Yn)))
def Pdk.b0 (s : Int × Bool × Int × List Zb × Int × Int × T2 × T2) : Option ((Int × Bool × Int × List Zb × Int × Int × T2 × T2) ⊕ T38 ⊕ (T2 × T30)) :=
 bif decide (s.2.2.2.2.2.1 < s.2.2.2.2.1) then (inb? s.2.2.2.1.length s.2.2.2.2.2.1).bind fun j1 => (s.2.2.2.1[j1]?).bind fun y2 => (Pfv.f k y2).bind fun r3 => bif !r3.2 then some (.inr (.inl (s.1, s.2.1, s.2.2.1, s.2.2.2.2.2.2))) else (Pdx.f k s.2.2.2.2.2.2.2 r3.1).bind fun r4 => bif !r4.1 then some (.inr (.inl (s.1, s.2.1, s.2.2.1, s.2.2.2.2.2.2.1, r4.2))) else some (.inl (s.1, s.2.1, Zr ((Zr (s.2.2.1 + 8)) + (y2.size : Int)), s.2.2.2.1, s.2.2.2.2.1, Zr (s.2.2.2.2.2.1 + 1), s.2.2.2.2.2.2.1, r4.2)) else some (.inr (.inl (s.1, s.2.1, s.2.2.1, s.2.2.2.2.2.2)))
def Pdk.d0 (k : Nat) (y : T38) : Option (T2 × T30) :=
 some (y.2.2.2.2, y.2.2.1, true)
def Pdk.f (a0 : Zb) : Option (T2 × T30) :=
 (Pdq.f k a0).bind fun r1 => bif decide ((r1.1.length : Int) = 0) then some ((0, 0, 0, 0, []), 0, false) else (inb? r1.1.length 0).bind fun j2 => (r1.1[j2]?).bind fun y3 => (Pfv.f k y3).bind fun r4 => bif !r4.2 then some ((0, 0, 0, 0, []), 0, false) else bif !decide (r4.1.1 = 4) then some ((0, 0, 0, 0, []), 0, false) else (inb? r1.1.length 0).bind fun j5 => (r1.1[j5]?).bind fun y6 => (cut? r1.1.length 1 r1.1.length).bind fun p7 => (iter (X := T38 ⊕ (T2 × T30)) (Pdk.b0 k) k (0, false, Zr (8 + (y6.size : Int)), (r1.1.take p7.2).drop p7.1, (((r1.1.take p7.2).drop p7.1).length : Int), 0, (0, 0, 0, 0, []), r4.1.2.1, (-1), r4.1.2.2.1, r4.1.2.1, [])).bind fun r => match r with | .inl y => Pdk.d0 k y | .inr o => some o
theorem Pdk.ok : Yg 209 ⟨⟨[.v .str], [.t K4, .f K0, .f .bool]⟩, fun k (x : Zb) => Pdk.f k x⟩ := Yq 78 Yv (.n (.n (.seq .c (.n (.seq .c (.n (.n (.seq (.n (.lp [.ptr 2 1000, .s 3 K0, .s 4 .bool, .ptr 9 8007, .s 10 K0, .o 52 K21, .s 53 K0, .s 54 K0, .box 1000 77 K4 true false, .box 8007 77 K4 true false] 799 (.n (.seq (.cond .l .l) (.seq (.blk (.n (.n (.seq (.n (.cond .l .l)) .l)))) .l))))) (.n .l))))))))) Tryz.func209 (Yc Pdq.ok (Yc Pfv.ok (Yc Pdx.ok Yn)))
def Pgl.f (a0 : T5) : Option Zb :=
 (Pfx.f k a0).bind fun r1 => bif !r1 then some Ze else bif decide (a0.1 = 0) && (decide (a0.2.1 = 0) && (decide (a0.2.2 = Ze) && true)) then some Ze else (Pbo.f k a0.1 4).bind fun r2 => (Pbo.f k a0.2.1 4).bind fun r3 => (cat? r2 r3).bind fun s4 => (Pbo.f k (a0.2.2.size : Int) 4).bind fun r5 => (cat? s4 r5).bind fun s6 => (Pcq.f k a0.2.2).bind fun r7 => (cat? s6 r7).bind fun s8 => (Peg.f k s8).bind fun r9 => (cat? r9 a0.2.2).bind fun s10 => some s10
theorem Pgl.ok : Yg 238 ⟨⟨[.w K14], [.f .str]⟩, fun k (x : T5) => Pgl.f k x⟩ := Yq 31 Yv (.n (.seq .c (.n .l))) Tryz.func238 (Yc Pfx.ok (Yc Pbo.ok (Yc Pcq.ok (Yc Peg.ok Yn))))
def Pgk.f (a0 : Zb) : Option (T5 × Bool) :=
 (Pfd.f k a0).bind fun r1 => bif !decide (r1.2.2 = 0) then some ((0, 0, Ze), false) else bif !decide ((r1.1.size : Int) = 44) then some ((0, 0, Ze), false) else (cut? a0.size r1.2.1 a0.size).bind fun p2 => (Pbq.f k r1.1 4).bind fun r3 => (cut? r1.1.size 4 r1.1.size).bind fun p4 => (Pbq.f k (r1.1.extract p4.1 p4.2) 4).bind fun r5 => (Pgl.f k (r3.1, r5.1, a0.extract p2.1 p2.2)).bind fun r6 => bif !decide (r6 = a0) then some ((0, 0, Ze), false) else some ((r3.1, r5.1, a0.extract p2.1 p2.2), true)
theorem Pgk.ok : Yg 210 ⟨⟨[.v .str], [.t K14, .f .bool]⟩, fun k (x : Zb) => Pgk.f k x⟩ := Yq 45 Yv (.n (.n (.seq .c (.m 3 (.seq .c (.n .l)))))) Tryz.func210 (Yc Pfd.ok (Yc Pbq.ok (Yc Pgl.ok Yn)))
def Pjb.f (a0 : T2) : Option T2 :=
 (Pbh.f k a0.2.2.2.2).bind fun r1 => some (a0.1, a0.2.1, a0.2.2.1, a0.2.2.2.1, r1)
theorem Pjb.ok : Yg 212 ⟨⟨[.w K4], [.t K4]⟩, fun k (x : T2) => Pjb.f k x⟩ := Yq 8 Yv (.m 3 .l) Tryz.func212 (Yc Pbh.ok Yn)
def Paw.c2 (k : Nat) (y : T28) : Option (T37 ⊕ T20) :=
 bif decide (y.2.2.2.1.1 < y.2.2.2.2.1.2.1) then some (.inl (y.1, y.2.2.1, (y.2.2.2.2.1.2.1, (-1), y.2.2.2.2.1.1, y.2.2.2.2.1.2.1, y.2.1), y.2.2.2.2.2)) else some (.inl (y.1, y.2.2.1, (y.2.2.2.1.1, y.2.2.2.1.2.1, y.2.2.2.2.1.1, y.2.2.2.2.1.2.1, y.2.1), y.2.2.2.2.2))
def Paw.c3 (y : T37) : Option T20 :=
 (Pjb.f k y.2.2.1).bind fun r1 => some ((r1, y.2.2.2.2), 0)
def Paw.c1 (y : Int × Zb × Int × T1 × T7 × T2 × T5) : Option T20 :=
 bif decide (y.2.2.1 < (y.2.1.size : Int)) then Option.bind (α := T37 ⊕ T20) (bif decide (y.2.2.2.2.2.1.2.2.1 < y.2.2.2.2.2.2.1) then Option.bind (α := T28 ⊕ T20) (bif decide (Zr (y.2.2.2.2.2.2.1 - y.2.2.2.2.2.1.2.2.1) ≤ (y.2.2.2.2.2.1.2.2.2.2.length : Int)) then (inb? y.2.2.2.2.2.1.2.2.2.2.length (Zr ((Zr (y.2.2.2.2.2.2.1 - y.2.2.2.2.2.1.2.2.1)) - 1))).bind fun j1 => (y.2.2.2.2.2.1.2.2.2.2[j1]?).bind fun y2 => bif decide (y2.1 = y.2.2.2.2.2.2.2.1) then (cut? y.2.2.2.2.2.1.2.2.2.2.length (Zr (y.2.2.2.2.2.2.1 - y.2.2.2.2.2.1.2.2.1)) y.2.2.2.2.2.1.2.2.2.2.length).bind fun p3 => (Pbh.f k ((y.2.2.2.2.2.1.2.2.2.2.take p3.2).drop p3.1)).bind fun r4 => some (.inl (y.1, r4, y.2.2.2.2.1, y.2.2.2.2.2.1, y.2.2.2.2.2.2, (0, 0, 0, 0, []), y.2.2.2.2.2.2, true)) else some (.inl (y.1, [], y.2.2.2.2.1, y.2.2.2.2.2.1, y.2.2.2.2.2.2, (0, 0, 0, 0, []), y.2.2.2.2.2.2, true)) else some (.inl (y.1, [], y.2.2.2.2.1, y.2.2.2.2.2.1, y.2.2.2.2.2.2, (0, 0, 0, 0, []), y.2.2.2.2.2.2, true))) fun r => match r with | .inl y => Paw.c2 k y | .inr o => some (.inr o) else some (.inl (y.1, y.2.2.2.2.1, y.2.2.2.2.2.1, (0, 0, 0, 0, []), y.2.2.2.2.2.2, true))) fun r => match r with | .inl y => Paw.c3 k y | .inr o => some o else bif decide (y.2.2.2.2.2.1.2.2.1 < y.2.2.2.2.2.2.1) then Option.bind (α := T37 ⊕ T20) (bif decide (y.2.2.2.2.2.1.2.2.1 < y.2.2.2.2.2.2.1) then Option.bind (α := T28 ⊕ T20) (bif decide (Zr (y.2.2.2.2.2.2.1 - y.2.2.2.2.2.1.2.2.1) ≤ (y.2.2.2.2.2.1.2.2.2.2.length : Int)) then (inb? y.2.2.2.2.2.1.2.2.2.2.length (Zr ((Zr (y.2.2.2.2.2.2.1 - y.2.2.2.2.2.1.2.2.1)) - 1))).bind fun j5 => (y.2.2.2.2.2.1.2.2.2.2[j5]?).bind fun y6 => bif decide (y6.1 = y.2.2.2.2.2.2.2.1) then (cut? y.2.2.2.2.2.1.2.2.2.2.length (Zr (y.2.2.2.2.2.2.1 - y.2.2.2.2.2.1.2.2.1)) y.2.2.2.2.2.1.2.2.2.2.length).bind fun p7 => (Pbh.f k ((y.2.2.2.2.2.1.2.2.2.2.take p7.2).drop p7.1)).bind fun r8 => some (.inl (y.1, r8, y.2.2.2.2.1, y.2.2.2.2.2.1, y.2.2.2.2.2.2, (0, 0, 0, 0, []), y.2.2.2.2.2.2, true)) else some (.inl (y.1, [], y.2.2.2.2.1, y.2.2.2.2.2.1, y.2.2.2.2.2.2, (0, 0, 0, 0, []), y.2.2.2.2.2.2, true)) else some (.inl (y.1, [], y.2.2.2.2.1, y.2.2.2.2.2.1, y.2.2.2.2.2.2, (0, 0, 0, 0, []), y.2.2.2.2.2.2, true))) fun r => match r with | .inl y => Paw.c2 k y | .inr o => some (.inr o) else some (.inl (y.1, y.2.2.2.2.1, y.2.2.2.2.2.1, (0, 0, 0, 0, []), y.2.2.2.2.2.2, true))) fun r => match r with | .inl y => Paw.c3 k y | .inr o => some o else (Pdg.f k y.2.2.2.1 Zl0).bind fun r9 => bif decide (0 ≤ r9) then Option.bind (α := T37 ⊕ T20) (bif decide (y.2.2.2.2.2.1.2.2.1 < y.2.2.2.2.2.2.1) then Option.bind (α := T28 ⊕ T20) (bif decide (Zr (y.2.2.2.2.2.2.1 - y.2.2.2.2.2.1.2.2.1) ≤ (y.2.2.2.2.2.1.2.2.2.2.length : Int)) then (inb? y.2.2.2.2.2.1.2.2.2.2.length (Zr ((Zr (y.2.2.2.2.2.2.1 - y.2.2.2.2.2.1.2.2.1)) - 1))).bind fun j10 => (y.2.2.2.2.2.1.2.2.2.2[j10]?).bind fun y11 => bif decide (y11.1 = y.2.2.2.2.2.2.2.1) then (cut? y.2.2.2.2.2.1.2.2.2.2.length (Zr (y.2.2.2.2.2.2.1 - y.2.2.2.2.2.1.2.2.1)) y.2.2.2.2.2.1.2.2.2.2.length).bind fun p12 => (Pbh.f k ((y.2.2.2.2.2.1.2.2.2.2.take p12.2).drop p12.1)).bind fun r13 => some (.inl (y.1, r13, y.2.2.2.2.1, y.2.2.2.2.2.1, y.2.2.2.2.2.2, (0, 0, 0, 0, []), y.2.2.2.2.2.2, true)) else some (.inl (y.1, [], y.2.2.2.2.1, y.2.2.2.2.2.1, y.2.2.2.2.2.2, (0, 0, 0, 0, []), y.2.2.2.2.2.2, true)) else some (.inl (y.1, [], y.2.2.2.2.1, y.2.2.2.2.2.1, y.2.2.2.2.2.2, (0, 0, 0, 0, []), y.2.2.2.2.2.2, true))) fun r => match r with | .inl y => Paw.c2 k y | .inr o => some (.inr o) else some (.inl (y.1, y.2.2.2.2.1, y.2.2.2.2.2.1, (0, 0, 0, 0, []), y.2.2.2.2.2.2, true))) fun r => match r with | .inl y => Paw.c3 k y | .inr o => some o else (Pdg.f k y.2.2.2.1 Zl2).bind fun r14 => Option.bind (α := T37 ⊕ T20) (bif decide (y.2.2.2.2.2.1.2.2.1 < y.2.2.2.2.2.2.1) then Option.bind (α := T28 ⊕ T20) (bif decide (Zr (y.2.2.2.2.2.2.1 - y.2.2.2.2.2.1.2.2.1) ≤ (y.2.2.2.2.2.1.2.2.2.2.length : Int)) then (inb? y.2.2.2.2.2.1.2.2.2.2.length (Zr ((Zr (y.2.2.2.2.2.2.1 - y.2.2.2.2.2.1.2.2.1)) - 1))).bind fun j15 => (y.2.2.2.2.2.1.2.2.2.2[j15]?).bind fun y16 => bif decide (y16.1 = y.2.2.2.2.2.2.2.1) then (cut? y.2.2.2.2.2.1.2.2.2.2.length (Zr (y.2.2.2.2.2.2.1 - y.2.2.2.2.2.1.2.2.1)) y.2.2.2.2.2.1.2.2.2.2.length).bind fun p17 => (Pbh.f k ((y.2.2.2.2.2.1.2.2.2.2.take p17.2).drop p17.1)).bind fun r18 => some (.inl (y.1, r18, y.2.2.2.2.1, y.2.2.2.2.2.1, y.2.2.2.2.2.2, (0, 0, 0, 0, []), y.2.2.2.2.2.2, (decide (0 ≤ r14)))) else some (.inl (y.1, [], y.2.2.2.2.1, y.2.2.2.2.2.1, y.2.2.2.2.2.2, (0, 0, 0, 0, []), y.2.2.2.2.2.2, (decide (0 ≤ r14)))) else some (.inl (y.1, [], y.2.2.2.2.1, y.2.2.2.2.2.1, y.2.2.2.2.2.2, (0, 0, 0, 0, []), y.2.2.2.2.2.2, (decide (0 ≤ r14))))) fun r => match r with | .inl y => Paw.c2 k y | .inr o => some (.inr o) else some (.inl (y.1, y.2.2.2.2.1, y.2.2.2.2.2.1, (0, 0, 0, 0, []), y.2.2.2.2.2.2, (decide (0 ≤ r14))))) fun r => match r with | .inl y => Paw.c3 k y | .inr o => some o
def Paw.c0 (y : Int × Zb × T24) : Option T20 :=
 Option.bind (α := (Int × Zb × Int × T1 × T7 × T2 × T5) ⊕ T20) (bif !y.2.2.2.1 then some (.inr (((0, 0, 0, 0, []), (0, 0, Ze), false), 2)) else bif decide (y.2.2.2.2.2.2.2.1 < y.2.2.2.2.2.2.1.2.2.1) then some (.inr (((0, 0, 0, 0, []), (0, 0, Ze), false), 2)) else bif decide (y.2.2.2.2.2.2.1.2.2.1 = y.2.2.2.2.2.2.2.1) then bif !decide (y.2.2.2.2.2.2.1.2.2.2.1 = y.2.2.2.2.2.2.2.2.1) then some (.inr (((0, 0, 0, 0, []), (0, 0, Ze), false), 2)) else some (.inl (y.1, y.2.1, y.2.2.1, y.2.2.2.2)) else some (.inl (y.1, y.2.1, y.2.2.1, y.2.2.2.2))) fun r => match r with | .inl y => Paw.c1 k y | .inr o => some o
def Paw.f (a0 : T1) : Option T20 :=
 (Pcg.f k a0).bind fun r1 => bif !r1 then some (((0, 0, 0, 0, []), (0, 0, Ze), false), 2) else (Pjr.f k a0 (⟨#[108, 111, 103]⟩ : Zb)).bind fun r2 => bif !r2.2 then some (((0, 0, 0, 0, []), (0, 0, Ze), false), 1) else (Pdk.f k r2.1).bind fun r3 => Option.bind (α := (Int × Zb × T24) ⊕ T20) ((Pjr.f k a0 (⟨#[115, 110, 97, 112]⟩ : Zb)).bind fun r4 => bif r4.2 then (Pgk.f k r4.1).bind fun r5 => bif r3.2.2 then some (.inl (0, r2.1, r3.2.1, r5.2, a0, ((0, 0, 0, 0, []), (0, 0, Ze), false), r3.1, r5.1)) else some (.inl (0, r2.1, r3.2.1, false, a0, ((0, 0, 0, 0, []), (0, 0, Ze), false), r3.1, r5.1)) else some (.inl (0, r2.1, r3.2.1, r3.2.2, a0, ((0, 0, 0, 0, []), (0, 0, Ze), false), r3.1, 0, 0, Ze))) fun r => match r with | .inl y => Paw.c0 k y | .inr o => some o
theorem Paw.ok : Yg 106 ⟨⟨[.w K2], [.t K17, .f K0]⟩, fun k (x : T1) => Paw.f k x⟩ := Yq 153 (Yk 145 K8 Yv) (.n (.seq .c (.n (.seq .c (.n (.n (.seq (.cut [.ptr 1 1000, .ptr 2 1001, .s 3 K0, .s 4 .str, .ptr 6 7006, .s 7 K0, .s 8 .bool, .ptr 9 8001, .box 1000 53 K2 false false, .box 1001 79 K17 true false, .box 7006 77 K4 true false, .box 8001 48 K14 false false] (.n (.n (.cond (.n (.n .l)) .l)))) (.seq (.cut [.ptr 1 1000, .ptr 2 1001, .s 3 K0, .s 4 .str, .ptr 6 7006, .s 7 K0, .ptr 9 8001, .box 1000 53 K2 false false, .box 1001 79 K17 true false, .box 7006 77 K4 true false, .box 8001 48 K14 false false] .c) (.n (.seq (.cut [.ptr 2 1001, .s 3 K0, .ptr 6 7006, .ptr 14 16023, .box 1001 79 K17 true false, .box 7006 77 K4 true false, .box 16023 79 K17 true false] (.n (.cond (.n (.n (.seq (.cut [.ptr 2 1001, .s 3 K0, .ptr 6 7006, .ptr 9 8001, .ptr 14 16023, .o 16 K22, .box 1001 79 K17 true false, .box 7006 77 K4 true false, .box 8001 48 K14 false false, .box 16023 79 K17 true false] (.n (.cond .l .l))) (.m 3 .c)))) .l))) (.n (.n .l)))))))))))) Tryz.func106 (Yc Pcg.ok (Yc Pjr.ok (Yc Pdk.ok (Yc Pgk.ok (Yc Pbh.ok (Yc Pjb.ok (Yc Pdg.ok Yn)))))))
def Pbl.b0 (k : Nat) (s : List T11 × List T11 × Bool × T6) : Option ((List T11 × List T11 × Bool × T6) ⊕ Bool ⊕ Bool) :=
 bif decide (s.2.2.2.2 < s.2.2.2.1) then (inb? s.1.length s.2.2.2.2).bind fun j1 => (s.1[j1]?).bind fun y2 => (inb? s.2.1.length s.2.2.2.2).bind fun j3 => (s.2.1[j3]?).bind fun y4 => bif !(decide (y2.1 = y4.1) && (decide (y2.2 = y4.2) && true)) then some (.inr (.inr false)) else some (.inl (s.1, s.2.1, s.2.2.1, s.2.2.2.1, Zr (s.2.2.2.2 + 1))) else some (.inr (.inl s.2.2.1))
def Pbl.d0 (k : Nat) (y : Bool) : Option Bool :=
 some true
def Pbl.f (a0 : List T11) (a1 : List T11) : Option Bool :=
 bif !decide ((a0.length : Int) = (a1.length : Int)) then some false else (iter (X := Bool ⊕ Bool) (Pbl.b0 k) k (a0, a1, false, (a0.length : Int), 0)).bind fun r => match r with | .inl y => Pbl.d0 k y | .inr o => some o
theorem Pbl.ok : Yg 213 ⟨⟨[.v K22, .v K22], [.f .bool]⟩, fun k (x : List T11 × List T11) => Pbl.f k x.1 x.2⟩ := Yq 26 Yv (.n (.seq .c (.seq (.n (.lp [.s 0 K22, .s 1 K22, .s 4 .bool, .s 12 K0, .s 13 K0] 4 (.n (.seq (.cond .l .l) (.seq (.blk (.n .c)) .l))))) (.n .l)))) Tryz.func213 Yn
def Pfe.f (a0 : T2) (a1 : T2) : Option Bool :=
 bif decide (a0.1 = a1.1) then bif decide (a0.2.1 = a1.2.1) then bif decide (a0.2.2.1 = a1.2.2.1) then bif decide (a0.2.2.2.1 = a1.2.2.2.1) then (Pbl.f k a0.2.2.2.2 a1.2.2.2.2).bind fun r1 => some r1 else some false else some false else some false else some false
theorem Pfe.ok : Yg 107 ⟨⟨[.w K4, .w K4], [.f .bool]⟩, fun k (x : T2 × T2) => Pfe.f k x.1 x.2⟩ := Yq 38 Yv (.n (.n .l)) Tryz.func107 (Yc Pbl.ok Yn)
def Pet.c0 (y : Bool × T12 × T3) : Option Bool :=
 (Paw.f k y.2.1.2.2.2.2.2.2.1).bind fun r1 => bif decide (r1.2 = 0) then (Pdi.f k y.2.2).bind fun r2 => (Pfe.f k r1.1.1 r2).bind fun r3 => bif r3 then bif decide (r1.1.2.1.1 = y.2.1.2.2.2.2.2.1.1) && (decide (r1.1.2.1.2.1 = y.2.1.2.2.2.2.2.1.2.1) && (decide (r1.1.2.1.2.2 = y.2.1.2.2.2.2.2.1.2.2) && true)) then some (!r1.1.2.2) else some false else some false else some false
def Pet.f (a0 : T12) : Option Bool :=
 (Pie.f k a0.2.2.2.1).bind fun r1 => bif !r1 then some false else bif !decide (a0.2.2.2.1.1 = a0.1) then some false else bif !decide (a0.2.2.2.1.2.1 = a0.2.1) then some false else (Pba.f k a0.2.2.2.2.1).bind fun r2 => bif !r2 then some false else (Pfx.f k a0.2.2.2.2.2.1).bind fun r3 => bif !r3 then some false else bif !decide (a0.2.2.2.2.2.1.1 = a0.2.2.2.1.2.2.2.2.2.2.1) then some false else bif !decide (a0.2.2.2.2.2.1.2.1 = a0.2.2.2.1.2.2.2.2.2.2.2.1) then some false else Option.bind (α := (Bool × T12 × T3) ⊕ Bool) ((Pag.f k a0.2.2.2.2.2.1.2.2).bind fun r4 => bif !r4.2 then bif !(decide (a0.2.2.2.2.2.1.1 = 0) && (decide (a0.2.2.2.2.2.1.2.1 = 0) && (decide (a0.2.2.2.2.2.1.2.2 = Ze) && true))) then some (.inr false) else some (.inl (false, a0, a0.2.2.2.1)) else some (.inl (false, a0, a0.2.2.2.1))) fun r => match r with | .inl y => Pet.c0 k y | .inr o => some o
theorem Pet.ok : Yg 44 ⟨⟨[.w K7], [.f .bool]⟩, fun k (x : T12) => Pet.f k x⟩ := Yq 96 Yv (.n (.n (.seq .c (.seq (.cut [.ptr 1 1000, .s 2 .bool, .ptr 3 2002, .box 1000 55 K7 false false, .box 2002 43 K3 false false] (.n .c)) (.n (.n .l)))))) Tryz.func44 (Yc Pie.ok (Yc Pba.ok (Yc Pfx.ok (Yc Pag.ok (Yc Paw.ok (Yc Pdi.ok (Yc Pfe.ok Yn)))))))
def Pgm.f (a0 : T3) : Option Bool :=
 bif decide (a0.1 = 0) then bif decide (a0.2.1 = 0) then (Pdi.f k a0).bind fun r1 => (Pfe.f k r1 (0, 0, 0, 0, [])).bind fun r2 => bif r2 then bif decide (a0.2.2.2.2.1 = 0) then bif decide (a0.2.2.2.2.2.1 = 0) then bif decide (a0.2.2.2.2.2.2.2.2.2.1 = 0) then some (decide (Zr ((Zr ((a0.2.2.2.2.2.2.2.2.2.2.1.length : Int) + (a0.2.2.2.2.2.2.2.2.2.2.2.1.length : Int))) + (a0.2.2.2.2.2.2.2.2.2.2.2.2.length : Int)) = 0)) else some false else some false else some false else some false else some false else some false
theorem Pgm.ok : Yg 45 ⟨⟨[.w K3], [.f .bool]⟩, fun k (x : T3) => Pgm.f k x⟩ := Yq 45 Yv (.n (.n .l)) Tryz.func45 (Yc Pdi.ok (Yc Pfe.ok Yn))
def Pho.f (k : Nat) (a0 : T0) : Option Bool :=
 some (decide (Zr ((Zr ((a0.1.length : Int) + (a0.2.1.length : Int))) + (a0.2.2.length : Int)) = 0))
theorem Pho.ok : Yg 46 ⟨⟨[.w K1], [.f .bool]⟩, fun k (x : T0) => Pho.f k x⟩ := Yq 15 Yv (.n (.n .l)) Tryz.func46 Yn
def Pep.c0 (y : Bool × T12) : Option Bool :=
 bif y.2.2.2.1 then (Pet.f k y.2).bind fun r1 => some r1 else (Pgm.f k y.2.2.2.2.1).bind fun r2 => bif r2 then (Pho.f k y.2.2.2.2.2.1).bind fun r3 => bif r3 then bif decide (y.2.2.2.2.2.2.1.1 = 0) && (decide (y.2.2.2.2.2.2.1.2.1 = 0) && (decide (y.2.2.2.2.2.2.1.2.2 = Ze) && true)) then some (decide (y.2.2.2.2.2.2.2.2.1 = (-1))) else some false else some false else some false
def Pep.f (a0 : T12) : Option Bool :=
 Option.bind (α := (Bool × T12) ⊕ Bool) ((Paa.f k a0.2.1 1 5).bind fun r1 => bif !r1 then some (.inr false) else (Paa.f k a0.1 0 (Zr (a0.2.1 - 1))).bind fun r2 => bif !r2 then some (.inr false) else (Pcg.f k a0.2.2.2.2.2.2.1).bind fun r3 => bif !r3 then some (.inr false) else (Paa.f k a0.2.2.2.2.2.2.2.1 (-1) 100).bind fun r4 => bif !r4 then some (.inr false) else (Pjs.f k a0.2.2.2.2.2.2.2.2.1 a0.2.2.2.2.2.2.2.2.2).bind fun r5 => bif !r5 then some (.inr false) else bif decide (a0.2.2.2.2.2.2.2.1 = (-1)) then bif !decide (Zr (a0.2.2.2.2.2.2.2.2.1 + a0.2.2.2.2.2.2.2.2.2) = 0) then some (.inr false) else some (.inl (false, a0)) else some (.inl (false, a0))) fun r => match r with | .inl y => Pep.c0 k y | .inr o => some o
theorem Pep.ok : Yg 11 ⟨⟨[.w K7], [.f .bool]⟩, fun k (x : T12) => Pep.f k x⟩ := Yq 72 Yv (.n (.seq (.cut [.ptr 1 1000, .s 2 .bool, .box 1000 55 K7 false false] .c) (.seq .c (.n .l)))) Tryz.func11 (Yc Paa.ok (Yc Pcg.ok (Yc Pjs.ok (Yc Pet.ok (Yc Pgm.ok (Yc Pho.ok Yn))))))
def Php.f (k : Nat) (a0 : T11) (a1 : T11) : Option Bool :=
 bif !decide (a0.1 = a1.1) then some false else bif !decide (a0.2 = a1.2) then some false else some true
theorem Php.ok : Yg 214 ⟨⟨[.w K8, .w K8], [.f .bool]⟩, fun k (x : T11 × T11) => Php.f k x.1 x.2⟩ := Yq 15 Yv (.n (.seq .c (.seq .c (.n .l)))) Tryz.func214 Yn
def Pgo.f (a0 : List T11) (a1 : List T11) : Option Bool := eqL (Php.f k) k a0 a1
theorem Pgo.ok : Yg 109 ⟨⟨[.v K22, .v K22], [.f .bool]⟩, fun k (x : List T11 × List T11) => Pgo.f k x.1 x.2⟩ := Yq 27 Yv (.n (.seq .c (.seq (.n (.lp [.s 0 K22, .s 1 K22, .s 4 .bool, .s 5 K0] 4 (.seq (.n (.cond .l .l)) (.seq (.blk .c) .l)))) (.n .l)))) Tryz.func109 (Yc Php.ok Yn)
def Peq.f (a0 : List Int) (a1 : List Int) : Option Bool := eqL (fun x y => some (decide (x = y))) k a0 a1
theorem Peq.ok : Yg 110 ⟨⟨[.v K18, .v K18], [.f .bool]⟩, fun k (x : List Int × List Int) => Peq.f k x.1 x.2⟩ := Yq 26 Yv (.n (.seq .c (.seq (.n (.lp [.s 0 K18, .s 1 K18, .s 4 .bool, .s 5 K0] 4 (.seq (.n (.cond .l .l)) (.seq (.blk .c) .l)))) (.n .l)))) Tryz.func110 Yn
def Pig.f (a0 : T3) (a1 : T3) : Option Bool :=
 bif !decide (a0.1 = a1.1) then some false else bif !decide (a0.2.1 = a1.2.1) then some false else bif !decide (a0.2.2.1 = a1.2.2.1) then some false else bif !decide (a0.2.2.2.1 = a1.2.2.2.1) then some false else bif !decide (a0.2.2.2.2.1 = a1.2.2.2.2.1) then some false else bif !decide (a0.2.2.2.2.2.1 = a1.2.2.2.2.2.1) then some false else bif !decide (a0.2.2.2.2.2.2.1 = a1.2.2.2.2.2.2.1) then some false else bif !decide (a0.2.2.2.2.2.2.2.1 = a1.2.2.2.2.2.2.2.1) then some false else (Pgo.f k a0.2.2.2.2.2.2.2.2.1 a1.2.2.2.2.2.2.2.2.1).bind fun r1 => bif !r1 then some false else bif !decide (a0.2.2.2.2.2.2.2.2.2.1 = a1.2.2.2.2.2.2.2.2.2.1) then some false else (Peq.f k a0.2.2.2.2.2.2.2.2.2.2.1 a1.2.2.2.2.2.2.2.2.2.2.1).bind fun r2 => bif !r2 then some false else (Peq.f k a0.2.2.2.2.2.2.2.2.2.2.2.1 a1.2.2.2.2.2.2.2.2.2.2.2.1).bind fun r3 => bif !r3 then some false else (Peq.f k a0.2.2.2.2.2.2.2.2.2.2.2.2 a1.2.2.2.2.2.2.2.2.2.2.2.2).bind fun r4 => bif !r4 then some false else some true
theorem Pig.ok : Yg 47 ⟨⟨[.w K3, .w K3], [.f .bool]⟩, fun k (x : T3 × T3) => Pig.f k x.1 x.2⟩ := Yq 74 Yv (.n (.seq .c (.seq .c (.seq .c (.seq .c (.seq .c (.seq .c (.seq .c (.seq .c (.seq .c (.seq .c (.seq .c (.seq .c (.seq .c (.n .l))))))))))))))) Tryz.func47 (Yc Pgo.ok (Yc Peq.ok Yn))
def Pfo.f (k : Nat) (a0 : T9) (a1 : T9) : Option Bool :=
 bif !decide (a0.1 = a1.1) then some false else bif !decide (a0.2.1 = a1.2.1) then some false else bif !decide (a0.2.2 = a1.2.2) then some false else some true
theorem Pfo.ok : Yg 215 ⟨⟨[.w K10, .w K10], [.f .bool]⟩, fun k (x : T9 × T9) => Pfo.f k x.1 x.2⟩ := Yq 20 Yv (.n (.seq .c (.seq .c (.seq .c (.n .l))))) Tryz.func215 Yn
def Pev.f (a0 : List T9) (a1 : List T9) : Option Bool := eqL (Pfo.f k) k a0 a1
theorem Pev.ok : Yg 111 ⟨⟨[.v K26, .v K26], [.f .bool]⟩, fun k (x : List T9 × List T9) => Pev.f k x.1 x.2⟩ := Yq 27 Yv (.n (.seq .c (.seq (.n (.lp [.s 0 K26, .s 1 K26, .s 4 .bool, .s 5 K0] 4 (.seq (.n (.cond .l .l)) (.seq (.blk .c) .l)))) (.n .l)))) Tryz.func111 (Yc Pfo.ok Yn)
def Pgn.f (k : Nat) (a0 : T27) (a1 : T27) : Option Bool :=
 bif !decide (a0.1 = a1.1) then some false else bif !decide (a0.2.1 = a1.2.1) then some false else bif !decide (a0.2.2.1 = a1.2.2.1) then some false else bif !decide (a0.2.2.2.1 = a1.2.2.2.1) then some false else bif !decide (a0.2.2.2.2.1 = a1.2.2.2.2.1) then some false else bif !decide (a0.2.2.2.2.2 = a1.2.2.2.2.2) then some false else some true
theorem Pgn.ok : Yg 272 ⟨⟨[.w K6, .w K6], [.f .bool]⟩, fun k (x : T27 × T27) => Pgn.f k x.1 x.2⟩ := Yq 35 Yv (.n (.seq .c (.seq .c (.seq .c (.seq .c (.seq .c (.seq .c (.n .l)))))))) Tryz.func272 Yn
def Pfn.f (a0 : T8) (a1 : T8) : Option Bool :=
 bif !decide (a0.1 = a1.1) then some false else bif !decide (a0.2.1 = a1.2.1) then some false else (Pgn.f k a0.2.2 a1.2.2).bind fun r1 => bif !r1 then some false else some true
theorem Pfn.ok : Yg 216 ⟨⟨[.w K13, .w K13], [.f .bool]⟩, fun k (x : T8 × T8) => Pfn.f k x.1 x.2⟩ := Yq 21 Yv (.n (.seq .c (.seq .c (.seq .c (.n .l))))) Tryz.func216 (Yc Pgn.ok Yn)
def Peu.f (a0 : List T8) (a1 : List T8) : Option Bool := eqL (Pfn.f k) k a0 a1
theorem Peu.ok : Yg 112 ⟨⟨[.v K30, .v K30], [.f .bool]⟩, fun k (x : List T8 × List T8) => Peu.f k x.1 x.2⟩ := Yq 27 Yv (.n (.seq .c (.seq (.n (.lp [.s 0 K30, .s 1 K30, .s 4 .bool, .s 5 K0] 4 (.seq (.n (.cond .l .l)) (.seq (.blk .c) .l)))) (.n .l)))) Tryz.func112 (Yc Pfn.ok Yn)
def Pjm.f (a0 : T0) (a1 : T0) : Option Bool :=
 (Pev.f k a0.1 a1.1).bind fun r1 => bif !r1 then some false else (Peq.f k a0.2.1 a1.2.1).bind fun r2 => bif !r2 then some false else (Peu.f k a0.2.2 a1.2.2).bind fun r3 => bif !r3 then some false else some true
theorem Pjm.ok : Yg 48 ⟨⟨[.w K1, .w K1], [.f .bool]⟩, fun k (x : T0 × T0) => Pjm.f k x.1 x.2⟩ := Yq 23 Yv (.n (.seq .c (.seq .c (.seq .c (.n .l))))) Tryz.func48 (Yc Pev.ok (Yc Peq.ok (Yc Peu.ok Yn)))
def Pik.f (k : Nat) (a0 : T5) (a1 : T5) : Option Bool :=
 bif !decide (a0.1 = a1.1) then some false else bif !decide (a0.2.1 = a1.2.1) then some false else bif !decide (a0.2.2 = a1.2.2) then some false else some true
theorem Pik.ok : Yg 49 ⟨⟨[.w K14, .w K14], [.f .bool]⟩, fun k (x : T5 × T5) => Pik.f k x.1 x.2⟩ := Yq 20 Yv (.n (.seq .c (.seq .c (.seq .c (.n .l))))) Tryz.func49 Yn
def Phq.f (k : Nat) (a0 : T22) (a1 : T22) : Option Bool :=
 bif !decide (a0.1 = a1.1) then some false else bif !decide (a0.2.1 = a1.2.1) then some false else bif !decide (a0.2.2 = a1.2.2) then some false else some true
theorem Phq.ok : Yg 217 ⟨⟨[.w K19, .w K19], [.f .bool]⟩, fun k (x : T22 × T22) => Phq.f k x.1 x.2⟩ := Yq 20 Yv (.n (.seq .c (.seq .c (.seq .c (.n .l))))) Tryz.func217 Yn
def Pgp.f (a0 : List T22) (a1 : List T22) : Option Bool := eqL (Phq.f k) k a0 a1
theorem Pgp.ok : Yg 113 ⟨⟨[.v K28, .v K28], [.f .bool]⟩, fun k (x : List T22 × List T22) => Pgp.f k x.1 x.2⟩ := Yq 27 Yv (.n (.seq .c (.seq (.n (.lp [.s 0 K28, .s 1 K28, .s 4 .bool, .s 5 K0] 4 (.seq (.n (.cond .l .l)) (.seq (.blk .c) .l)))) (.n .l)))) Tryz.func113 (Yc Phq.ok Yn)
def Pii.f (k : Nat) (a0 : T4) (a1 : T4) : Option Bool :=
 bif !decide (a0.1 = a1.1) then some false else bif !decide (a0.2 = a1.2) then some false else some true
theorem Pii.ok : Yg 218 ⟨⟨[.w K5, .w K5], [.f .bool]⟩, fun k (x : T4 × T4) => Pii.f k x.1 x.2⟩ := Yq 15 Yv (.n (.seq .c (.seq .c (.n .l)))) Tryz.func218 Yn
def Phr.f (a0 : List T4) (a1 : List T4) : Option Bool := eqL (Pii.f k) k a0 a1
theorem Phr.ok : Yg 114 ⟨⟨[.v K11, .v K11], [.f .bool]⟩, fun k (x : T35) => Phr.f k x.1 x.2⟩ := Yq 27 Yv (.n (.seq .c (.seq (.n (.lp [.s 0 K11, .s 1 K11, .s 4 .bool, .s 5 K0] 4 (.seq (.n (.cond .l .l)) (.seq (.blk .c) .l)))) (.n .l)))) Tryz.func114 (Yc Pii.ok Yn)
def Pij.f (k : Nat) (a0 : T26) (a1 : T26) : Option Bool :=
 bif !decide (a0.1 = a1.1) then some false else bif !decide (a0.2.1 = a1.2.1) then some false else bif !decide (a0.2.2.1 = a1.2.2.1) then some false else bif !decide (a0.2.2.2 = a1.2.2.2) then some false else some true
theorem Pij.ok : Yg 219 ⟨⟨[.w K15, .w K15], [.f .bool]⟩, fun k (x : T26 × T26) => Pij.f k x.1 x.2⟩ := Yq 25 Yv (.n (.seq .c (.seq .c (.seq .c (.seq .c (.n .l)))))) Tryz.func219 Yn
def Phs.f (a0 : List T26) (a1 : List T26) : Option Bool := eqL (Pij.f k) k a0 a1
theorem Phs.ok : Yg 115 ⟨⟨[.v K29, .v K29], [.f .bool]⟩, fun k (x : List T26 × List T26) => Phs.f k x.1 x.2⟩ := Yq 27 Yv (.n (.seq .c (.seq (.n (.lp [.s 0 K29, .s 1 K29, .s 4 .bool, .s 5 K0] 4 (.seq (.n (.cond .l .l)) (.seq (.blk .c) .l)))) (.n .l)))) Tryz.func115 (Yc Pij.ok Yn)
def Pih.f (a0 : T1) (a1 : T1) : Option Bool :=
 bif !decide (a0.1 = a1.1) then some false else bif !decide (a0.2.1 = a1.2.1) then some false else (Pgp.f k a0.2.2.1 a1.2.2.1).bind fun r1 => bif !r1 then some false else (Phr.f k a0.2.2.2.1 a1.2.2.2.1).bind fun r2 => bif !r2 then some false else (Phs.f k a0.2.2.2.2 a1.2.2.2.2).bind fun r3 => bif !r3 then some false else some true
theorem Pih.ok : Yg 50 ⟨⟨[.w K2, .w K2], [.f .bool]⟩, fun k (x : T1 × T1) => Pih.f k x.1 x.2⟩ := Yq 33 Yv (.n (.seq .c (.seq .c (.seq .c (.seq .c (.seq .c (.n .l))))))) Tryz.func50 (Yc Pgp.ok (Yc Phr.ok (Yc Phs.ok Yn)))
def Phe.f (a0 : T12) (a1 : T12) : Option Bool :=
 bif !decide (a0.1 = a1.1) then some false else bif !decide (a0.2.1 = a1.2.1) then some false else bif !decide (a0.2.2.1 = a1.2.2.1) then some false else (Pig.f k a0.2.2.2.1 a1.2.2.2.1).bind fun r1 => bif !r1 then some false else (Pjm.f k a0.2.2.2.2.1 a1.2.2.2.2.1).bind fun r2 => bif !r2 then some false else (Pik.f k a0.2.2.2.2.2.1 a1.2.2.2.2.2.1).bind fun r3 => bif !r3 then some false else (Pih.f k a0.2.2.2.2.2.2.1 a1.2.2.2.2.2.2.1).bind fun r4 => bif !r4 then some false else bif !decide (a0.2.2.2.2.2.2.2.1 = a1.2.2.2.2.2.2.2.1) then some false else bif !decide (a0.2.2.2.2.2.2.2.2.1 = a1.2.2.2.2.2.2.2.2.1) then some false else bif !decide (a0.2.2.2.2.2.2.2.2.2 = a1.2.2.2.2.2.2.2.2.2) then some false else some true
theorem Phe.ok : Yg 12 ⟨⟨[.w K7, .w K7], [.f .bool]⟩, fun k (x : T12 × T12) => Phe.f k x.1 x.2⟩ := Yq 59 Yv (.n (.seq .c (.seq .c (.seq .c (.seq .c (.seq .c (.seq .c (.seq .c (.seq .c (.seq .c (.seq .c (.n .l)))))))))))) Tryz.func12 (Yc Pig.ok (Yc Pjm.ok (Yc Pik.ok (Yc Pih.ok Yn))))
def Pek.f (a0 : T12) : Option Bool :=
 (Phf.f k a0 1048576).bind fun r1 => bif decide (r1 < 0) then some true else (Pfk.f k a0).bind fun r2 => (Pcu.f k r2).bind fun r3 => (Pfk.f k a0).bind fun r4 => (Pep.f k r4).bind fun r5 => bif !decide (r5 = r3) then some false else (Pfk.f k a0).bind fun r6 => (Phe.f k r4 r6).bind fun r7 => bif !r7 then some false else some true
theorem Pek.ok : Yg 3 ⟨⟨[.w K9], [.f .bool]⟩, fun k (x : T12) => Pek.f k x⟩ := Yq 27 Yv (.m 3 (.seq .c (.m 3 (.seq .c (.seq .c (.n .l)))))) Tryz.func3 (Yc Phf.ok (Yc Pfk.ok (Yc Pcu.ok (Yc Pep.ok (Yc Phe.ok Yn)))))
end Go.Proofs.YtbkcbfkehncocaaGreatDoor.Rx
