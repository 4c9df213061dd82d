/- Functions of the program as typed functions, each with its contract, shown by the evaluator's soundness. No condition. -/
import Derived.Test.YtlloaipjkejkgaaRxFnsB
import Derived.Test.YtlloaipjkejkgaaProg
import Derived.KernelRfl
set_option linter.unusedVariables false
set_option linter.unusedSimpArgs false
namespace Go.Proofs.Ytlloaipjkejkgaa.Rx
open Go.Proofs
/-! slices.ContainsFunc[[]loop.example/g00358/impl.Link,loop.example/g00358/impl.Link] -/
def slices_ContainsFunc_Link_impl_swept_in_1.f (k : Nat) (a0 : List (ByteArray × Int)) (a1 : Int × ByteArray × Int) : Option Bool :=
  (slices_IndexFunc_Link_impl_swept_in_1.f k a0 a1).bind fun r1 => some (decide (0 ≤ r1))

def slices_ContainsFunc_Link_impl_swept_in_1.sig : Sig := ⟨[.val false (.sl 59 (.pair .str (.int .i64))), .clo 151 false 57 (.pair (.int .i64) (.pair .str (.int .i64)))], [⟨false, .bool, true⟩]⟩
def slices_ContainsFunc_Link_impl_swept_in_1.fn : Fn := ⟨slices_ContainsFunc_Link_impl_swept_in_1.sig, fun k (x : List (ByteArray × Int) × Int × ByteArray × Int) => slices_ContainsFunc_Link_impl_swept_in_1.f k x.1 x.2⟩
noncomputable def slices_ContainsFunc_Link_impl_swept_in_1.env (k : Nat) : Env := ⟨Try.prog, 9, fun t => none, look [(185, slices_IndexFunc_Link_impl_swept_in_1.fn)], k, slices_ContainsFunc_Link_impl_swept_in_1.sig.pin, lookM []⟩
def slices_ContainsFunc_Link_impl_swept_in_1.ann : Ann := .seq .leaf (.seq .leaf .leaf)
theorem slices_ContainsFunc_Link_impl_swept_in_1.ok (k : Nat) : FnOk Try.prog k 150 slices_ContainsFunc_Link_impl_swept_in_1.fn :=
  fnOk_of (E := slices_ContainsFunc_Link_impl_swept_in_1.env k) (ann := slices_ContainsFunc_Link_impl_swept_in_1.ann) ⟨look_cons (slices_IndexFunc_Link_impl_swept_in_1.ok k) (look_nil), lookM_nil⟩ (by kernel_rfl) Try.func150 (by kernel_rfl) (by kernel_rfl) (by kernel_rfl) (of_decide_eq_true (by kernel_rfl)) (of_decide_eq_true (by kernel_rfl)) (fun _ h => h) (fun x => by kernel_rfl)

/-! loop.example/g00358/impl.swept$1 -/
def impl_swept_in.f (k : Nat) (a0 : Int × ByteArray × Int) (a1 : Int × Int × Unit × List (ByteArray × Int) × List (Int × ByteArray × ByteArray × Int)) : Option Bool :=
  (slices_ContainsFunc_Link_impl_swept_in_1.f k a1.2.2.2.1 a0).bind fun r1 => some (!r1)

def impl_swept_in.sig : Sig := ⟨[.val true (.pair (.int .i64) (.pair .str (.int .i64))), .box 50 (.pair (.int .i64) (.pair (.int .i64) (.pair .any (.pair (.sl 59 (.pair .str (.int .i64))) (.sl 61 (.pair (.int .i64) (.pair .str (.pair .str (.int .i64))))))))) false false], [⟨false, .bool, true⟩]⟩
def impl_swept_in.fn : Fn := ⟨impl_swept_in.sig, fun k (x : (Int × ByteArray × Int) × Int × Int × Unit × List (ByteArray × Int) × List (Int × ByteArray × ByteArray × Int)) => impl_swept_in.f k x.1 x.2⟩
noncomputable def impl_swept_in.env (k : Nat) : Env := ⟨Try.prog, 9, fun t => none, look [(150, slices_ContainsFunc_Link_impl_swept_in_1.fn)], k, impl_swept_in.sig.pin, lookM []⟩
def impl_swept_in.ann : Ann := .seq .leaf (.seq .leaf .leaf)
theorem impl_swept_in.ok (k : Nat) : FnOk Try.prog k 149 impl_swept_in.fn :=
  fnOk_of (E := impl_swept_in.env k) (ann := impl_swept_in.ann) ⟨look_cons (slices_ContainsFunc_Link_impl_swept_in_1.ok k) (look_nil), lookM_nil⟩ (by kernel_rfl) Try.func149 (by kernel_rfl) (by kernel_rfl) (by kernel_rfl) (of_decide_eq_true (by kernel_rfl)) (of_decide_eq_true (by kernel_rfl)) (fun _ h => h) (fun x => by kernel_rfl)

/-! slices.IndexFunc[[]loop.example/g00358/impl.Inode,loop.example/g00358/impl.Inode] -/
def slices_IndexFunc_Inode_impl_swept_in.b0 (k : Nat) (s : List (Int × ByteArray × Int) × Int × Int × Int × Int × Int × Unit × List (ByteArray × Int) × List (Int × ByteArray × ByteArray × Int)) : Option ((List (Int × ByteArray × Int) × Int × Int × Int × Int × Int × Unit × List (ByteArray × Int) × List (Int × ByteArray × ByteArray × Int)) ⊕ Int ⊕ Int) :=
  bif (decide (s.2.2.2.1 < s.2.2.1)) then ((inb? s.1.length s.2.2.2.1).bind fun j1 => (s.1[j1]?).bind fun y2 => (impl_swept_in.f k y2 (s.2.2.2.2.1, s.2.2.2.2.2.1, (), s.2.2.2.2.2.2.2)).bind fun r3 => bif r3 then (some (.inr (.inr s.2.2.2.1))) else (some (.inl (s.1, s.2.1, s.2.2.1, IntKind.wrap .i64 (s.2.2.2.1 + 1), s.2.2.2.2.1, s.2.2.2.2.2.1, (), s.2.2.2.2.2.2.2)))) else (some (.inr (.inl s.2.1)))

def slices_IndexFunc_Inode_impl_swept_in.d0 (k : Nat) (y : Int) : Option Int :=
  some (-1)

def slices_IndexFunc_Inode_impl_swept_in.f (k : Nat) (a0 : List (Int × ByteArray × Int)) (a1 : Int × Int × Unit × List (ByteArray × Int) × List (Int × ByteArray × ByteArray × Int)) : Option Int :=
  (iter (X := Int ⊕ Int) (slices_IndexFunc_Inode_impl_swept_in.b0 k) k (a0, 0, (a0.length : Int), 0, a1.1, a1.2.1, (), a1.2.2.2)).bind fun r => match r with | .inl y => slices_IndexFunc_Inode_impl_swept_in.d0 k y | .inr o => some o

def slices_IndexFunc_Inode_impl_swept_in.sig : Sig := ⟨[.val false (.sl 57 (.pair (.int .i64) (.pair .str (.int .i64)))), .clo 149 false 50 (.pair (.int .i64) (.pair (.int .i64) (.pair .any (.pair (.sl 59 (.pair .str (.int .i64))) (.sl 61 (.pair (.int .i64) (.pair .str (.pair .str (.int .i64)))))))))], [⟨false, (.int .i64), true⟩]⟩
def slices_IndexFunc_Inode_impl_swept_in.fn : Fn := ⟨slices_IndexFunc_Inode_impl_swept_in.sig, fun k (x : List (Int × ByteArray × Int) × Int × Int × Unit × List (ByteArray × Int) × List (Int × ByteArray × ByteArray × Int)) => slices_IndexFunc_Inode_impl_swept_in.f k x.1 x.2⟩
noncomputable def slices_IndexFunc_Inode_impl_swept_in.env (k : Nat) : Env := ⟨Try.prog, 19, fun t => none, look [(149, impl_swept_in.fn)], k, slices_IndexFunc_Inode_impl_swept_in.sig.pin, lookM []⟩
def slices_IndexFunc_Inode_impl_swept_in.ann : Ann := .seq .leaf (.seq (.seq .leaf (.loop [.slot 0 false (.sl 57 (.pair (.int .i64) (.pair .str (.int .i64)))) false, .fnp 1 149 false 2, .slot 4 false (.int .i64) false, .slot 7 false (.int .i64) false, .slot 8 false (.int .i64) false, .box 2 50 (.pair (.int .i64) (.pair (.int .i64) (.pair .any (.pair (.sl 59 (.pair .str (.int .i64))) (.sl 61 (.pair (.int .i64) (.pair .str (.pair .str (.int .i64))))))))) false true] [.slot 4 false (.int .i64) false] (.seq .leaf (.seq (.cond .leaf .leaf) (.seq (.blk (.seq .leaf (.seq .leaf (.cond (.seq .leaf .leaf) .leaf)))) .leaf))))) (.seq .leaf .leaf))
theorem slices_IndexFunc_Inode_impl_swept_in.ok (k : Nat) : FnOk Try.prog k 184 slices_IndexFunc_Inode_impl_swept_in.fn :=
  fnOk_of (E := slices_IndexFunc_Inode_impl_swept_in.env k) (ann := slices_IndexFunc_Inode_impl_swept_in.ann) ⟨look_cons (impl_swept_in.ok k) (look_nil), lookM_nil⟩ (by kernel_rfl) Try.func184 (by kernel_rfl) (by kernel_rfl) (by kernel_rfl) (of_decide_eq_true (by kernel_rfl)) (of_decide_eq_true (by kernel_rfl)) (fun _ h => h) (fun x => by kernel_rfl)

section
open Go.Proofs Go.Shelf Go.RowKit Go.Lib
theorem Hand.infoInode : ∃ i : TypeInfo, Try.prog.info? 57 = some i ∧ i.size = 3 ∧ i.bytes = 32 ∧ ∃ z, i.zero = some z ∧ z.cells.size = 3 := by
  have h : (Try.prog.info? 57).map (fun i => (i.zero, i.size, i.bytes)) = some (some (.agg #[.int .i64 0, .string ⟨#[]⟩, .int .i64 0]), 3, 32) := by kernel_rfl
  cases hq : Try.prog.info? 57 with
  | none => rw [hq] at h; cases h
  | some i =>
    rw [hq] at h
    simp only [Option.map_some, Option.some.injEq, Prod.mk.injEq] at h
    exact ⟨i, rfl, h.2.1, h.2.2, _, h.1, rfl⟩

theorem Hand.zeroInode : ∃ z : Value, (∀ w, (zeroValue 57).run Try.prog w = .ok z w) ∧ z.cells.size = 3 ∧ ∀ n, ∀ v ∈ (Builtin.zeroCells z.cells n).toList, v.oneCell' = true := by
  refine ⟨_, Try.zeroValue57, rfl, fun n v hv => ?_⟩
  simp only [Builtin.zeroCells] at hv
  obtain ⟨j, hj, rfl⟩ := List.getElem_of_mem hv
  simp [Value.cells]
  have : j % 3 = 0 ∨ j % 3 = 1 ∨ j % 3 = 2 := by omega
  rcases this with h | h | h <;> rw [h] <;> rfl

end
def cvInode (x : (Int × ByteArray × Int)) : List Value := [.int .i64 x.1, .string x.2.1, .int .i64 x.2.2]
theorem cvInode_len (x : (Int × ByteArray × Int)) : (cvInode x).length = 3 := rfl
theorem cvInode_rd {w : World} {S : Nat → Prop} (x : (Int × ByteArray × Int)) : RdT w S (.pair (.int .i64) (.pair .str (.int .i64))) x (cvInode x) := by unfold cvInode; exact ⟨[_], [_, _], rfl, rfl, ⟨[_], [_], rfl, rfl, rfl⟩⟩
section
open Go.Proofs Go.Shelf Go.RowKit Go.Lib
set_option maxHeartbeats 4000000 in
/-- nothing is found: the row comes back as it is -/
theorem Hand.dfn0_slices_DeleteFunc_Inode_impl_swept_in (w : World) (b : Option Addr) (n c mb : Nat) (Q : World → Prop) (hix : Calls Try.prog 184 #[.slice b n c, .func (.func 149) #[] #[.pointer (some ⟨mb, 0, none⟩)]] w fun e w' => e = .returned (.int .i64 (-1)) ∧ Q w') :
    Calls Try.prog 148 #[.slice b n c, .func (.func 149) #[] #[.pointer (some ⟨mb, 0, none⟩)]] w (fun e w' => e = .returned (.slice b n c) ∧ Q w') := by
  have mixed : Try.prog.follows .mixedOrders = true := by kernel_rfl
  go_enter Try.func148, Try.ntmps148
  go_wp2_with (go_at_call 184; refine hix.mono ?_; rintro e w' ⟨rfl, hI⟩)
  go_ret
  exact ⟨rfl, hI⟩

set_option maxHeartbeats 4000000 in
set_option maxRecDepth 100000 in
/-- slices.DeleteFunc behind the search: what stays -/
theorem Hand.dfn_slices_DeleteFunc_Inode_impl_swept_in (w : World) (b off n c i0 mb : Nat) (cur : Array Value) (X : List Value) (E0 : Nat → Int) (E1 : Nat → ByteArray) (E2 : Nat → Int) (pr : Nat → Bool) (Inv : Nat → Nat → World → Prop)
    (hix : Calls Try.prog 184 #[.slice (some ⟨b, off, none⟩) n c, .func (.func 149) #[] #[.pointer (some ⟨mb, 0, none⟩)]] w fun e w' => e = .returned (.int .i64 i0) ∧ Inv i0 (i0 + 1) w')
    (hi0 : i0 < n) (hn63 : n ≤ 9223372036854775806) (hnc : n ≤ c)
    (hread : ∀ i j W, Inv i j W → j < n → W.cell? ⟨b, off + j * 3, none⟩ = some (.int .i64 (E0 j)) ∧ W.cell? ⟨b, off + j * 3 + 1, none⟩ = some (.string (E1 j)) ∧ W.cell? ⟨b, off + j * 3 + 2, none⟩ = some (.int .i64 (E2 j)))
    (hcall : ∀ i j W, Inv i j W → j < n → Calls Try.prog 149 #[.agg #[.int .i64 (E0 j), .string (E1 j), .int .i64 (E2 j)], .pointer (some ⟨mb, 0, none⟩)] (W.alloc (.cells #[.int .i64 (E0 j), .string (E1 j), .int .i64 (E2 j)] 57)) fun e W' => e = .returned (.bool (pr j)) ∧ Frm (W.alloc (.cells #[.int .i64 (E0 j), .string (E1 j), .int .i64 (E2 j)] 57)).heap.size (fun _ => False) (W.alloc (.cells #[.int .i64 (E0 j), .string (E1 j), .int .i64 (E2 j)] 57)) W')
    (hskip : ∀ i j W W', Inv i j W → j < n → pr j = true → Frm (W.alloc (.cells #[.int .i64 (E0 j), .string (E1 j), .int .i64 (E2 j)] 57)).heap.size (fun _ => False) (W.alloc (.cells #[.int .i64 (E0 j), .string (E1 j), .int .i64 (E2 j)] 57)) W' → Inv i (j + 1) W')
    (hrow : ∀ i j W W', Inv i j W → j < n → Frm (W.alloc (.cells #[.int .i64 (E0 j), .string (E1 j), .int .i64 (E2 j)] 57)).heap.size (fun _ => False) (W.alloc (.cells #[.int .i64 (E0 j), .string (E1 j), .int .i64 (E2 j)] 57)) W' → ∃ cur', W'.heap[b]? = some (.cells cur' 57 (0, 0)) ∧ off + c * 3 ≤ cur'.size)
    (hkeep : ∀ i j W W', Inv i j W → j < n → pr j = false → Frm (W.alloc (.cells #[.int .i64 (E0 j), .string (E1 j), .int .i64 (E2 j)] 57)).heap.size (fun _ => False) (W.alloc (.cells #[.int .i64 (E0 j), .string (E1 j), .int .i64 (E2 j)] 57)) W' →
      Inv (i + 1) (j + 1) (((W'.setCell ⟨b, off + i * 3, none⟩ (.int .i64 (E0 j))).setCell ⟨b, off + i * 3 + 1, none⟩ (.string (E1 j))).setCell ⟨b, off + i * 3 + 2, none⟩ (.int .i64 (E2 j))))
    (Post : Nat → World → Prop)
    (hend : ∀ i W, Inv i n W → ∃ W2, (∀ ty dc, (Builtin.clear_ #[46] ty #[.slice (some ⟨b, off + i * 3, none⟩) (n - i) dc]).run Try.prog W = .ok (.tuple #[]) W2) ∧ Post i W2)
    (hij : ∀ i j W, Inv i j W → i < j) :
    Calls Try.prog 148 #[.slice (some ⟨b, off, none⟩) n c, .func (.func 149) #[] #[.pointer (some ⟨mb, 0, none⟩)]] w (fun e w' => ∃ i, e = .returned (.slice (some ⟨b, off, none⟩) i c) ∧ Post i w') := by
  have hne1 : ((i0 : Int) == -1) = false := beq_eq_false_iff_ne.2 (by omega)
  have HC : Aside _ := hcall
  have HR : Aside _ := hread
  clear hcall hread
  have HROW0 : Aside _ := hrow
  have HSK0 : Aside _ := hskip
  have HKP0 : Aside _ := hkeep
  have HEND : Aside _ := hend
  clear hrow hskip hkeep hend
  have mixed : Try.prog.follows .mixedOrders = true := by kernel_rfl
  go_enter Try.func148, Try.ntmps148
  go_wp2_with (go_at_call 184; refine hix.mono ?_; rintro e w' ⟨rfl, hI⟩)
  go_loopg [5, 6, 7] n (fun gg s5 s6 _ wr => ∃ (i j : Nat), s5 = .int .i64 i ∧ s6 = .int .i64 j ∧ j ≤ n ∧ n - j ≤ gg ∧ Aside (Inv i j wr))
  case atStart => exact ⟨i0, i0 + 1, rfl, by go_num, by omega, by omega, hI⟩
  case round =>
    obtain ⟨i, j, rfl, rfl, hjn, hgg, I⟩ := hrel
    by_cases hlt : j < n
    · have hltz : (j : Int) < (n : Int) := by omega
      obtain ⟨c0, c1, c2⟩ := HR.out i j wr I.out hlt
      have hcall := HC.out i j wr I.out hlt
      have hil := hij i j wr I.out
      have HROW : Aside _ := HROW0.out i j wr
      have HSK : Aside _ := HSK0.out i j wr
      obtain ⟨e0, C0⟩ : ∃ e, Aside (E0 j = e) := ⟨_, rfl⟩
      rw [C0.out] at c0 hcall
      obtain ⟨e1, C1⟩ : ∃ e, Aside (E1 j = e) := ⟨_, rfl⟩
      rw [C1.out] at c1 hcall
      obtain ⟨e2, C2⟩ : ∃ e, Aside (E2 j = e) := ⟨_, rfl⟩
      rw [C2.out] at c2 hcall
      cases hq : pr j with
      | true =>
        rw [hq] at hcall
        go_wp2_with (go_at_call 149; refine hcall.mono ?_; rintro e w' ⟨rfl, hf⟩)
        go_roundg (n - (j + 1))
        case measure => omega
        case rel =>
          refine ⟨i, j + 1, rfl, by go_num, by omega, Nat.le_refl _, HSK.out w' I.out hlt hq ?_⟩
          rw [C0.out, C1.out, C2.out]
          exact hf
      | false =>
        rw [hq] at hcall
        have hpost : ∀ w', Frm (wr.alloc (.cells #[.int .i64 e0, .string e1, .int .i64 e2] 57)).heap.size (fun _ => False) (wr.alloc (.cells #[.int .i64 e0, .string e1, .int .i64 e2] 57)) w' →
            w'.cell? ⟨wr.heap.size, 0, none⟩ = some (.int .i64 e0) ∧ w'.cell? ⟨wr.heap.size, 1, none⟩ = some (.string e1) ∧ w'.cell? ⟨wr.heap.size, 2, none⟩ = some (.int .i64 e2) ∧ (∃ u, w'.cell? ⟨b, off + i * 3, none⟩ = some u) ∧ (∃ u, w'.cell? ⟨b, off + i * 3 + 1, none⟩ = some u) ∧ (∃ u, w'.cell? ⟨b, off + i * 3 + 2, none⟩ = some u) ∧ w'.frozen? ⟨b, off + i * 3, none⟩ = false ∧ w'.frozen? ⟨b, off + i * 3 + 1, none⟩ = false ∧ w'.frozen? ⟨b, off + i * 3 + 2, none⟩ = false := by
          intro w' hf
          obtain ⟨cur', hcur', hfit'⟩ := HROW.out w' I.out hlt (by rw [C0.out, C1.out, C2.out]; exact hf)
          have hwn : (wr.alloc (.cells #[.int .i64 e0, .string e1, .int .i64 e2] 57)).heap[wr.heap.size]? = some (.cells #[.int .i64 e0, .string e1, .int .i64 e2] 57 (0, 0)) := by show (wr.heap.push _)[wr.heap.size]? = _; simp
          refine ⟨hf.cell0 ?_, hf.cell0 ?_, hf.cell0 ?_, ?_, ?_, ?_, ?_, ?_, ?_⟩
          · rw [cell_of_row _ _ _ _ 57 (0, 0) hwn]; rfl
          · rw [cell_of_row _ _ _ _ 57 (0, 0) hwn]; rfl
          · rw [cell_of_row _ _ _ _ 57 (0, 0) hwn]; rfl
          · exact ⟨_, by rw [cell_of_row w' b _ cur' 57 (0, 0) hcur', Array.getElem?_eq_getElem (by omega)]⟩
          · exact ⟨_, by rw [cell_of_row w' b _ cur' 57 (0, 0) hcur', Array.getElem?_eq_getElem (by omega)]⟩
          · exact ⟨_, by rw [cell_of_row w' b _ cur' 57 (0, 0) hcur', Array.getElem?_eq_getElem (by omega)]⟩
          · simp [World.frozen?, hcur']
          · simp [World.frozen?, hcur']
          · simp [World.frozen?, hcur']
        go_wp2_with (go_at_call 149; refine hcall.mono ?_; rintro e w' ⟨rfl, hf⟩; obtain ⟨d0, d1, d2, ⟨u0, g0⟩, ⟨u1, g1⟩, ⟨u2, g2⟩, f0, f1, f2⟩ := hpost w' hf)
        go_roundg (n - (j + 1))
        case measure => omega
        case rel =>
          refine ⟨i + 1, j + 1, by go_num, by go_num, by omega, Nat.le_refl _, (show Aside _ from ?_)⟩
          have := HKP0.out i j wr w' I.out hlt hq (by rw [C0.out, C1.out, C2.out]; exact hf)
          rw [C0.out, C1.out, C2.out] at this
          exact this
    · obtain rfl : j = n := by omega
      have hltz : ¬ (j : Int) < (j : Int) := by omega
      have hil := hij i j wr I.out
      obtain ⟨W2, hcl, hp⟩ := HEND.out i wr I.out
      have HP : Aside _ := hp
      clear hp
      have hic : i ≤ c := by omega
      have hci : ¬ (c = i) := by omega
      have hij1 : (i : Int) ≤ (j : Int) := by omega
      go_wp2
      go_ret
      exact ⟨i, rfl, HP.out⟩
end
def dflt_Inode : (Int × ByteArray × Int) := (0, ⟨#[]⟩, 0)
def slices_DeleteFunc_Inode_impl_swept_in.f (k : Nat) (a0 : List (Int × ByteArray × Int)) (a1 : Int × Int × Unit × List (ByteArray × Int) × List (Int × ByteArray × ByteArray × Int)) : Option (List (Int × ByteArray × Int)) := delG (slices_IndexFunc_Inode_impl_swept_in.f k a0 a1) (fun x => impl_swept_in.f k x a1) a0
def slices_DeleteFunc_Inode_impl_swept_in.sig : Sig := ⟨[.give false (.sl 57 (.pair (.int .i64) (.pair .str (.int .i64)))), .clo 149 false 50 (.pair (.int .i64) (.pair (.int .i64) (.pair .any (.pair (.sl 59 (.pair .str (.int .i64))) (.sl 61 (.pair (.int .i64) (.pair .str (.pair .str (.int .i64)))))))))], [⟨false, (.sl 57 (.pair (.int .i64) (.pair .str (.int .i64)))), true⟩]⟩
def slices_DeleteFunc_Inode_impl_swept_in.fn : Fn := ⟨slices_DeleteFunc_Inode_impl_swept_in.sig, fun k (x : List (Int × ByteArray × Int) × (Int × Int × Unit × List (ByteArray × Int) × List (Int × ByteArray × ByteArray × Int))) => slices_DeleteFunc_Inode_impl_swept_in.f k x.1 x.2⟩

theorem slices_DeleteFunc_Inode_impl_swept_in.ok (k : Nat) : FnOk Try.prog k 148 slices_DeleteFunc_Inode_impl_swept_in.fn := by
  refine ⟨body_there Try.func148 (by kernel_rfl) (by kernel_rfl), ?_⟩
  intro w S vs vss rows (x : List (Int × ByteArray × Int) × (Int × Int × Unit × List (ByteArray × Int) × List (Int × ByteArray × ByteArray × Int))) (r : List (Int × ByteArray × Int)) hsem hargs hparts hS hbn hbn2 hbS hnd hrows hgl
  obtain ⟨xs, cap⟩ := x
  change slices_DeleteFunc_Inode_impl_swept_in.f k xs cap = some r at hsem
  unfold slices_DeleteFunc_Inode_impl_swept_in.f delG at hsem
  obtain ⟨idx, hidx, hsem⟩ := Option.bind_eq_some_iff.1 hsem
  have hal := hargs.length
  obtain ⟨v0, v1, rfl⟩ := list2 hal.1
  obtain ⟨l0, l1, rfl⟩ := list2 hal.2
  obtain ⟨ha0, ⟨mb, rfl, hmb⟩, _⟩ := hargs
  simp only [Bool.false_eq_true, if_false] at ha0
  subst ha0
  obtain ⟨q0, qs, r1, r2, he, rfl, hp0, hp⟩ := hparts
  simp only [List.cons.injEq] at he
  obtain ⟨rfl, rfl⟩ := he
  obtain ⟨q1, he, hp1⟩ := hp
  simp only [List.cons.injEq, and_true] at he
  subst he
  have hp0 : OwnT w S (.sl 57 (.pair (.int .i64) (.pair .str (.int .i64)))) xs [v0] r1 := hp0
  obtain ⟨hp1, rfl⟩ : RdT w S (.pair (.int .i64) (.pair (.int .i64) (.pair .any (.pair (.sl 59 (.pair .str (.int .i64))) (.sl 61 (.pair (.int .i64) (.pair .str (.pair .str (.int .i64))))))))) cap l1 ∧ r2 = [] := hp1
  have hrd0 : RdT w (fun b => S b ∨ b ∈ Blks r1) (.sl 57 (.pair (.int .i64) (.pair .str (.int .i64)))) xs [v0] := by
    obtain ⟨a, n, cp, h1, h2, h3, _⟩ := hp0
    refine ⟨a, n, cp, h1, h3.mono (fun b hb => .inr ?_) (fun _ _ => rfl) (fun x l => RdT.mono (fun b hb => .inl hb) fun _ _ => rfl)⟩
    subst h2
    cases a with
    | none => cases hb
    | some ad => simpa [Blks] using hb.symm
  obtain ⟨a, c, X, hl, rfl, hcap, hnil, hXl, hX, hblk⟩ := own_cells hp0 (by decide)
  simp only [List.cons.injEq, and_true] at hl
  subst hl
  simp only [List.append_nil] at hnd hrows ⊢
  have hcap : xs.length ≤ c := hcap
  have hix : Calls Try.prog 184 #[.slice a xs.length c, .func (.func 149) #[] #[.pointer (some ⟨mb, 0, none⟩)]] w (fun e w' => e = .returned (.int .i64 idx) ∧ Frm w.heap.size (fun _ => False) w w') := by
    refine ((slices_IndexFunc_Inode_impl_swept_in.ok k).run w (fun b => S b ∨ b ∈ Blks [(a.map (·.block), .slice a xs.length c)]) [.slice a xs.length c, .func (.func 149) #[] #[.pointer (some ⟨mb, 0, none⟩)]] [[.slice a xs.length c], l1] [] (xs, cap) idx hidx
      ⟨rfl, ⟨mb, rfl, hmb⟩, trivial⟩ ⟨_, _, [], [], rfl, rfl, ⟨hrd0, rfl⟩, _, rfl, ⟨hp1.mono (fun b hb => .inl hb) (fun _ _ => rfl), rfl⟩⟩
      (fun b hb => hb.elim (hS b) fun hb => (hrows b hb).2.1) List.nodup_nil (fun b hb => nomatch hb) (fun b hb => ?_) List.nodup_nil (fun b hb => nomatch hb) (hgl.mono (fun b hb => .inl hb) fun _ _ => rfl)).mono ?_
    · exact fun h => h.elim (hbS b hb) fun h => (hrows b h).2.2 hb
    · rintro e w' ⟨rv, S', vr, vo, rows', rfl, hfrm, _, _, _, hpr, hres, ho, _, _⟩
      obtain rfl : vo = [] := ho
      match vr, hres with
      | [l], hres =>
        have h1 := hres.1
        simp only [Bool.false_eq_true, if_false] at h1
        subst h1
        have := one_out (own := true) (.inr ⟨_, rfl⟩) hpr
        simp only [RdT, List.cons.injEq, and_true] at this
        subst this
        exact ⟨rfl, hfrm.os, hfrm.tape, hfrm.output, rfl, hfrm.size, fun b hb _ => hfrm.block b hb fun h => h.elim (fun h => nomatch h) (fun h => nomatch h)⟩
      | [], hres => exact hres.elim
      | _ :: _ :: _, hres => exact hres.2.elim
  have hmS : ¬ S mb := hbS mb (List.mem_singleton.2 rfl : mb ∈ [mb])
  by_cases hi1 : idx = -1
  · subst hi1
    rw [if_pos rfl] at hsem
    simp only [Option.some.injEq] at hsem
    subst hsem
    refine (Hand.dfn0_slices_DeleteFunc_Inode_impl_swept_in w a xs.length c mb _ hix).mono ?_
    rintro en w' ⟨rfl, hfrm⟩
    refine ⟨_, S, [[_]], [], [(a.map (·.block), .slice a xs.length c)], rfl, ⟨hfrm.os, hfrm.tape, hfrm.output, rfl, hfrm.size, fun b hb _ => hfrm.block b hb id⟩, fun _ h => h, fun _ h => .inl h, fun b hb => Nat.lt_of_lt_of_le (hS b hb) hfrm.size, ⟨_, rfl, ?_⟩, ⟨rfl, trivial⟩, rfl, hnd, fun b hb => ⟨(hrows b hb).1, Nat.lt_of_lt_of_le (hrows b hb).2.1 hfrm.size, (hrows b hb).2.2, .inl hb⟩⟩
    exact OwnT.mono (fun _ h => h) (fun b hb => hfrm.block b (hS b hb) id) (fun b hb => hfrm.block b (hrows b hb).2.1 id) hp0
  have hrows : ∀ b ∈ Blks [(a.map (·.block), .slice a xs.length c)], ¬ S b ∧ b < w.heap.size ∧ b ≠ mb := fun b hb => ⟨(hrows b hb).1, (hrows b hb).2.1, fun e => (hrows b hb).2.2 (List.mem_singleton.2 e : b ∈ [mb])⟩
  rw [if_neg hi1] at hsem
  split at hsem
  case isFalse => cases hsem
  rename_i hc
  obtain ⟨h0, hlt, hbig⟩ := hc
  obtain ⟨i0, rfl⟩ : ∃ n : Nat, idx = n := ⟨idx.toNat, by omega⟩
  have hlt : i0 < xs.length := by exact_mod_cast hlt
  simp only [Int.toNat_natCast] at hsem
  obtain ⟨rest, hrest, rfl⟩ := Option.map_eq_some_iff.1 hsem
  obtain ⟨hp, rfl⟩ := delF_eq hrest
  obtain ⟨q, hq⟩ : ∃ q : (Int × ByteArray × Int) → Bool, q = fun x => (impl_swept_in.f k x cap).getD false := ⟨_, rfl⟩
  have hpq : ∀ x ∈ xs.drop (i0 + 1), impl_swept_in.f k x cap = some (q x) := fun x hx => by obtain ⟨b, hb⟩ := hp x hx; simp [hq, hb]
  have hfin : xs.take i0 ++ (xs.drop (i0 + 1)).filter (fun x => !(impl_swept_in.f k x cap).getD false) = keptTo q xs i0 (xs.length - (i0 + 1)) := by
    unfold keptTo
    rw [List.take_of_length_le (l := xs.drop (i0 + 1)) (by rw [List.length_drop]; omega), hq]
  rw [hfin]
  cases a with
  | none => obtain ⟨rfl, _⟩ := hnil rfl; exact absurd hlt (Nat.not_lt_zero _)
  | some ad =>
    obtain ⟨b, off, asp⟩ := ad
    obtain ⟨hsp, cur, hcur, hfit, hXc⟩ := hblk _ rfl
    simp only at hsp hcur hfit hXc
    subst hsp
    have hfit : off + c * 3 ≤ cur.size := hfit
    have hXf := hX.flat (cv := cvInode) cvInode_len (fun x l h => by obtain ⟨_, _, rfl, rfl, ⟨_, _, rfl, rfl, rfl⟩⟩ := h; rfl)
    subst hXf
    have hbb : b ∈ Blks [((some (⟨b, off, none⟩ : Addr)).map (·.block), .slice (some ⟨b, off, none⟩) xs.length c)] := by simp [Blks]
    have hbS' := hrows b hbb
    have hmbb : mb ≠ b := fun h => hbS'.2.2 h.symm
    have hmlt : mb < w.heap.size := (Array.getElem?_eq_some_iff.1 hmb).1
    obtain ⟨z, hzv, hzs, hz1⟩ := Hand.zeroInode
    have key := Hand.dfn_slices_DeleteFunc_Inode_impl_swept_in w b off xs.length c i0 mb cur [] (fun j => ((xs[j]?).getD dflt_Inode).1) (fun j => ((xs[j]?).getD dflt_Inode).2.1) (fun j => ((xs[j]?).getD dflt_Inode).2.2) (fun j => q ((xs[j]?).getD dflt_Inode))
      (fun i j W => ∃ d, j = i0 + 1 + d ∧ i = (keptTo q xs i0 d).length ∧ DInv 57 3 cvInode w b off cur.size xs (keptTo q xs i0 d) j W)
      (hix.mono (by
        rintro e w' ⟨rfl, hf⟩
        refine ⟨rfl, 0, rfl, ?_, ⟨⟨hf.os, hf.tape, hf.output, rfl, hf.size, fun k hk _ => hf.block k hk id⟩, cur, (hf.block b hbS'.2.1 id).trans hcur, rfl, fun q v hq => ?_, fun q v _ hq => hXc q v hq⟩⟩
        · simp [keptTo]; omega
        · simp only [keptTo, List.take_zero, List.filter_nil, List.append_nil] at hq
          refine hXc q v ?_
          rw [← List.take_append_drop i0 xs, List.flatMap_append, List.getElem?_append_left (List.getElem?_eq_some_iff.1 hq).1]
          exact hq))
      hlt (by omega) hcap
      (fun i j W hI hj => by
        obtain ⟨d, rfl, rfl, h⟩ := hI
        have hx : xs[i0 + 1 + d]? = some xs[i0 + 1 + d] := List.getElem?_eq_getElem hj
        exact ⟨by have := h.read (cvInode_len) hx (t := 0) rfl; simpa [hx] using this, by have := h.read (cvInode_len) hx (t := 1) rfl; simpa [hx] using this, by have := h.read (cvInode_len) hx (t := 2) rfl; simpa [hx] using this⟩)
      (fun i j W hI hj => by
        obtain ⟨d, rfl, rfl, h⟩ := hI
        have hx : xs[i0 + 1 + d]? = some xs[i0 + 1 + d] := List.getElem?_eq_getElem hj
        have hpx := hpq _ (List.mem_of_getElem? (by rw [List.getElem?_drop]; exact hx))
        simp only [hx, Option.getD_some]
        have hWs := h.frm.size
        have hkeep : ∀ k, k < w.heap.size → k ≠ b → (W.alloc (.cells (cvInode xs[i0 + 1 + d]).toArray 57)).heap[k]? = w.heap[k]? := fun k hk hkb => by
          show (W.heap.push _)[k]? = _
          rw [Array.getElem?_push, if_neg (by omega)]
          exact h.frm.block k hk hkb
        refine ((impl_swept_in.ok k).run _ S [.agg (cvInode xs[i0 + 1 + d]).toArray, .pointer (some ⟨mb, 0, none⟩)] [cvInode xs[i0 + 1 + d], l1] [] (xs[i0 + 1 + d], cap) (q xs[i0 + 1 + d]) hpx
          ⟨rfl, ⟨mb, rfl, (hkeep mb hmlt hmbb).trans hmb⟩, trivial⟩
          ⟨_, _, [], [], rfl, rfl, ⟨cvInode_rd _, rfl⟩, _, rfl, ⟨hp1.mono (fun _ h => h) (fun s hs => hkeep s (hS s hs) fun e => hbS'.1 (e ▸ hs)), rfl⟩⟩
          (fun s hs => by have := hS s hs; show s < (W.heap.push _).size; simp; omega) List.nodup_nil (fun b hb => nomatch hb) (fun s hs => by have hs : s = mb := List.mem_singleton.1 hs; rw [hs]; exact hmS) List.nodup_nil (fun b hb => nomatch hb) (hgl.mono (fun _ h => h) (fun s hs => hkeep s (hS s hs) fun e => hbS'.1 (e ▸ hs)))).mono ?_
        rintro e w' ⟨rv, S', vr, vo, rows', rfl, hfrm, _, _, _, hpr, hres, ho, _, _⟩
        obtain rfl : vo = [] := ho
        match vr, hres with
        | [l], hres =>
          have h1 := hres.1
          simp only [Bool.false_eq_true, if_false] at h1
          subst h1
          have := one_out (own := true) (.inl rfl) hpr
          simp only [RdT, List.cons.injEq, and_true] at this
          subst this
          exact ⟨rfl, hfrm.os, hfrm.tape, hfrm.output, rfl, hfrm.size, fun b hb _ => hfrm.block b hb fun h => h.elim (fun h => nomatch h) (fun h => nomatch h)⟩
        | [], hres => exact hres.elim
        | _ :: _ :: _, hres => exact hres.2.elim)
      (fun i j W W' hI hj hpr hf => by
        obtain ⟨d, rfl, rfl, h⟩ := hI
        have hx : xs[i0 + 1 + d]? = some xs[i0 + 1 + d] := List.getElem?_eq_getElem hj
        simp only [hx, Option.getD_some] at hpr
        refine ⟨d + 1, rfl, ?_, ?_⟩ <;> rw [keptTo_succ hx, hpr, cond_true]
        exact (h.call hf).skip)
      (fun i j W W' hI hj hf => by
        obtain ⟨d, rfl, rfl, h⟩ := hI
        obtain ⟨cur', h1, h2, _⟩ := (h.call hf).row
        exact ⟨cur', h1, by omega⟩)
      (fun i j W W' hI hj hpr hf => by
        obtain ⟨d, rfl, rfl, h⟩ := hI
        have hx : xs[i0 + 1 + d]? = some xs[i0 + 1 + d] := List.getElem?_eq_getElem hj
        simp only [hx, Option.getD_some] at hpr hf ⊢
        have hkl := keptTo_len (q := q) (xs := xs) (i0 := i0) (d := d)
        refine ⟨d + 1, rfl, ?_, ?_⟩ <;> rw [keptTo_succ hx, hpr, cond_false]
        · simp
        · exact (h.call hf).keep cvInode_len (c := c) xs[i0 + 1 + d] (by omega) (by omega) (by omega))
      (fun i W2 => i = (keptTo q xs i0 (xs.length - (i0 + 1))).length ∧ Frm w.heap.size (fun x => x = b) w W2 ∧ ∃ cur', W2.heap[b]? = some (.cells cur' 57 (0, 0)) ∧ cur'.size = cur.size ∧ ∀ q' v, ((keptTo q xs i0 (xs.length - (i0 + 1))).flatMap cvInode)[q']? = some v → cur'[off + q']? = some v)
      (fun i W hI => by
        obtain ⟨d, hd, rfl, h⟩ := hI
        obtain rfl : d = xs.length - (i0 + 1) := by omega
        have hkl := keptTo_len (q := q) (xs := xs) (i0 := i0) (d := xs.length - (i0 + 1))
        obtain ⟨K, hK⟩ : ∃ K, K = keptTo q xs i0 (xs.length - (i0 + 1)) := ⟨_, rfl⟩
        rw [← hK] at h hkl ⊢
        obtain ⟨cur', h1, h2, h3, h4⟩ := h.row
        have hflat := flat_len cvInode_len K
        have hzl : (Builtin.zeroCells z.cells (xs.length - K.length)).toList.length = (xs.length - K.length) * 3 := by rw [Array.length_toList, size_zeroCells, hzs]
        refine ⟨_, fun ty dc => run_clear_k W 46 57 ty z Try.underlying46 hzv b (off + K.length * 3) (xs.length - K.length) dc cur' 57 h1 (by rw [hzl, h2]; omega) (hz1 _) (by omega), rfl, ?_, ?_⟩
        · exact ⟨h.frm.os, h.frm.tape, h.frm.output, rfl, by rw [size_setRow]; exact h.frm.size, fun k hk hm => (setRow_other _ _ _ _ hm).trans (h.frm.block k hk hm)⟩
        · refine ⟨_, setRow_heap _ b cur' _ 57 (0, 0) h1, ?_, fun q' v hv => ?_⟩
          · simp only [List.size_toArray, List.length_append, List.length_take, List.length_drop, Array.length_toList, hzl] at *; omega
          · have hlt' := (List.getElem?_eq_some_iff.1 hv).1
            simp only [List.getElem?_toArray]
            rw [laid_get cur'.toList _ (off + K.length * 3) (off + q') (by rw [hzl]; simp; omega), if_pos (by omega)]
            simpa using h3 q' v hv)
      (fun i j W hI => by
        obtain ⟨d, rfl, rfl, h⟩ := hI
        have hkl := keptTo_len (q := q) (xs := xs) (i0 := i0) (d := d)
        omega)
    refine key.mono ?_
    rintro en w' ⟨i, rfl, rfl, hfrm, cur', hcur', hsz', hcells⟩
    have hkl := keptTo_len (q := q) (xs := xs) (i0 := i0) (d := xs.length - (i0 + 1))
    have hpost : InsPost 57 3 w (some b) ((keptTo q xs i0 (xs.length - (i0 + 1))).flatMap cvInode) (keptTo q xs i0 (xs.length - (i0 + 1))).length (.returned (.slice (some ⟨b, off, none⟩) (keptTo q xs i0 (xs.length - (i0 + 1))).length c)) w' :=
      ⟨b, off, c, cur', rfl, by omega, hcur', by omega, hcells, ⟨hfrm.os, hfrm.tape, hfrm.output, rfl, hfrm.size, fun k hk hm => hfrm.block k hk fun e => hm (by rw [e])⟩, .inl rfl⟩
    obtain ⟨rv, rows', h1, h2, h3, h4, h5, h6⟩ := ins_back (e := 57) (c := (.pair (.int .i64) (.pair .str (.int .i64)))) (S := S) (rows := [((some (⟨b, off, none⟩ : Addr)).map (·.block), .slice (some ⟨b, off, none⟩) xs.length c)]) hpost (FlatR.of_flat (rd := RdT w S (.pair (.int .i64) (.pair .str (.int .i64)))) (size := 3) cvInode_len (xs := keptTo q xs i0 (xs.length - (i0 + 1))) fun x _ => cvInode_rd x) rfl hS
      (fun x hx => by cases hx; exact hbb) (fun x hx => ⟨(hrows x hx).1, (hrows x hx).2.1⟩) rfl
    refine ⟨rv, S, [[rv]], [], rows', h1, ⟨h2.os, h2.tape, h2.output, rfl, h2.size, fun k hk hm => h2.block k hk fun h => h.elim (fun h => nomatch h) fun h => hm (.inr h)⟩, fun _ h => h, fun _ h => .inl h, h3, h4, ⟨rfl, trivial⟩, rfl, h5, fun x hx => ⟨(h6 x hx).1, (h6 x hx).2.1, fun h => ?_, (h6 x hx).2.2.2⟩⟩
    have hxm : x = mb := List.mem_singleton.1 h
    rcases (h6 x hx).2.2.2 with h' | h'
    · exact (hrows x h').2.2 hxm
    · omega

/-! loop.example/g00358/impl.swept -/
def impl_swept.f (k : Nat) (a0 : Int × Int × List (Int × ByteArray × Int) × List (ByteArray × Int) × List (Int × ByteArray × ByteArray × Int)) : Option (Int × Int × List (Int × ByteArray × Int) × List (ByteArray × Int) × List (Int × ByteArray × ByteArray × Int)) :=
  (slices_DeleteFunc_Inode_impl_swept_in.f k a0.2.2.1 (a0.1, a0.2.1, (), a0.2.2.2)).bind fun r1 => some (a0.1, a0.2.1, r1, a0.2.2.2)

def impl_swept.sig : Sig := ⟨[.give true (.pair (.int .i64) (.pair (.int .i64) (.pair (.sl 57 (.pair (.int .i64) (.pair .str (.int .i64)))) (.pair (.sl 59 (.pair .str (.int .i64))) (.sl 61 (.pair (.int .i64) (.pair .str (.pair .str (.int .i64)))))))))], [⟨true, (.pair (.int .i64) (.pair (.int .i64) (.pair (.sl 57 (.pair (.int .i64) (.pair .str (.int .i64)))) (.pair (.sl 59 (.pair .str (.int .i64))) (.sl 61 (.pair (.int .i64) (.pair .str (.pair .str (.int .i64))))))))), true⟩]⟩
def impl_swept.fn : Fn := ⟨impl_swept.sig, fun k (x : Int × Int × List (Int × ByteArray × Int) × List (ByteArray × Int) × List (Int × ByteArray × ByteArray × Int)) => impl_swept.f k x⟩
noncomputable def impl_swept.env (k : Nat) : Env := ⟨Try.prog, 9, fun t => none, look [(148, slices_DeleteFunc_Inode_impl_swept_in.fn)], k, impl_swept.sig.pin, lookM []⟩
def impl_swept.ann : Ann := .seq .leaf (.seq .leaf (.seq .leaf .leaf))
theorem impl_swept.ok (k : Nat) : FnOk Try.prog k 79 impl_swept.fn :=
  fnOk_of (E := impl_swept.env k) (ann := impl_swept.ann) ⟨look_cons (slices_DeleteFunc_Inode_impl_swept_in.ok k) (look_nil), lookM_nil⟩ (by kernel_rfl) Try.func79 (by kernel_rfl) (by kernel_rfl) (by kernel_rfl) (of_decide_eq_true (by kernel_rfl)) (of_decide_eq_true (by kernel_rfl)) (fun _ h => h) (fun x => by kernel_rfl)

/-! loop.example/g00358/impl.Crash -/
def impl_Crash.c0 (k : Nat) (y : List Int × Int × Int × List (Int × ByteArray × Int) × Int × Int × (Int × Int × List (Int × ByteArray × Int) × List (ByteArray × Int) × List (Int × ByteArray × ByteArray × Int)) × (Int × Int × List (Int × ByteArray × Int) × List (ByteArray × Int) × List (Int × ByteArray × ByteArray × Int)) × Int × ByteArray × Int) : Option ((List Int × List (Int × ByteArray × Int) × Int × Int × (Int × Int × List (Int × ByteArray × Int) × List (ByteArray × Int) × List (Int × ByteArray × ByteArray × Int)) × Int × Int × List (Int × ByteArray × Int) × List (ByteArray × Int) × List (Int × ByteArray × ByteArray × Int)) ⊕ ((Int × Int × List (Int × ByteArray × Int) × List (ByteArray × Int) × List (Int × ByteArray × ByteArray × Int)) × Int × Int × List (Int × ByteArray × Int) × List (ByteArray × Int) × List (Int × ByteArray × ByteArray × Int)) ⊕ (Int × Int × List (Int × ByteArray × Int) × List (ByteArray × Int) × List (Int × ByteArray × ByteArray × Int))) :=
  (cut? y.2.2.2.2.2.2.2.2.2.1.size 0 (IntKind.wrap .i64 (y.2.2.2.2.2.2.2.2.2.2 + y.2.2.1))).bind fun p1 => (inb? y.2.2.2.2.2.2.2.1.2.2.1.length y.2.1).bind fun j2 => (y.2.2.2.2.2.2.2.1.2.2.1[j2]?).bind fun y3 => (inb? (y.2.2.2.2.2.2.2.1.2.2.1.set j2 (y3.1, y.2.2.2.2.2.2.2.2.2.1.extract p1.1 p1.2, y3.2.2)).length y.2.1).bind fun j4 => ((y.2.2.2.2.2.2.2.1.2.2.1.set j2 (y3.1, y.2.2.2.2.2.2.2.2.2.1.extract p1.1 p1.2, y3.2.2))[j4]?).bind fun y5 => some (.inl (y.1, y.2.2.2.1, y.2.2.2.2.1, IntKind.wrap .i64 (y.2.2.2.2.2.1 + 1), y.2.2.2.2.2.2.1, y.2.2.2.2.2.2.2.1.1, y.2.2.2.2.2.2.2.1.2.1, (y.2.2.2.2.2.2.2.1.2.2.1.set j2 (y3.1, y.2.2.2.2.2.2.2.2.2.1.extract p1.1 p1.2, y3.2.2)).set j4 (y5.1, y5.2.1, IntKind.wrap .i64 (y.2.2.2.2.2.2.2.2.2.2 + y.2.2.1)), y.2.2.2.2.2.2.2.1.2.2.2))

def impl_Crash.b0 (k : Nat) (s : List Int × List (Int × ByteArray × Int) × Int × Int × (Int × Int × List (Int × ByteArray × Int) × List (ByteArray × Int) × List (Int × ByteArray × ByteArray × Int)) × Int × Int × List (Int × ByteArray × Int) × List (ByteArray × Int) × List (Int × ByteArray × ByteArray × Int)) : Option ((List Int × List (Int × ByteArray × Int) × Int × Int × (Int × Int × List (Int × ByteArray × Int) × List (ByteArray × Int) × List (Int × ByteArray × ByteArray × Int)) × Int × Int × List (Int × ByteArray × Int) × List (ByteArray × Int) × List (Int × ByteArray × ByteArray × Int)) ⊕ ((Int × Int × List (Int × ByteArray × Int) × List (ByteArray × Int) × List (Int × ByteArray × ByteArray × Int)) × Int × Int × List (Int × ByteArray × Int) × List (ByteArray × Int) × List (Int × ByteArray × ByteArray × Int)) ⊕ (Int × Int × List (Int × ByteArray × Int) × List (ByteArray × Int) × List (Int × ByteArray × ByteArray × Int))) :=
  bif (decide (s.2.2.2.1 < s.2.2.1)) then ((inb? s.2.1.length s.2.2.2.1).bind fun j1 => (s.2.1[j1]?).bind fun y2 => Option.bind (α := (List Int × Int × Int × List (Int × ByteArray × Int) × Int × Int × (Int × Int × List (Int × ByteArray × Int) × List (ByteArray × Int) × List (Int × ByteArray × ByteArray × Int)) × (Int × Int × List (Int × ByteArray × Int) × List (ByteArray × Int) × List (Int × ByteArray × ByteArray × Int)) × Int × ByteArray × Int) ⊕ (Int × Int × List (Int × ByteArray × Int) × List (ByteArray × Int) × List (Int × ByteArray × ByteArray × Int))) (bif (decide (s.2.2.2.1 < (s.1.length : Int))) then ((inb? s.1.length s.2.2.2.1).bind fun j3 => (s.1[j3]?).bind fun y4 => some (.inl (s.1, s.2.2.2.1, (if (if IntKind.wrap .i64 ((y2.2.1.size : Int) - y2.2.2) < y4 then IntKind.wrap .i64 ((y2.2.1.size : Int) - y2.2.2) else y4) > 0 then (if IntKind.wrap .i64 ((y2.2.1.size : Int) - y2.2.2) < y4 then IntKind.wrap .i64 ((y2.2.1.size : Int) - y2.2.2) else y4) else 0), s.2.1, s.2.2.1, s.2.2.2.1, s.2.2.2.2.1, s.2.2.2.2.2, y2))) else (some (.inl (s.1, s.2.2.2.1, 0, s.2.1, s.2.2.1, s.2.2.2.1, s.2.2.2.2.1, s.2.2.2.2.2, y2)))) fun r => match r with | .inl y => impl_Crash.c0 k y | .inr o => some (.inr (.inr o))) else (some (.inr (.inl s.2.2.2.2)))

def impl_Crash.d0 (k : Nat) (y : (Int × Int × List (Int × ByteArray × Int) × List (ByteArray × Int) × List (Int × ByteArray × ByteArray × Int)) × Int × Int × List (Int × ByteArray × Int) × List (ByteArray × Int) × List (Int × ByteArray × ByteArray × Int)) : Option (Int × Int × List (Int × ByteArray × Int) × List (ByteArray × Int) × List (Int × ByteArray × ByteArray × Int)) :=
  (impl_swept.f k y.2).bind fun r1 => some r1

def impl_Crash.f (k : Nat) (a0 : Int × Int × List (Int × ByteArray × Int) × List (ByteArray × Int) × List (Int × ByteArray × ByteArray × Int)) (a1 : Int) (a2 : List Int) : Option (Int × Int × List (Int × ByteArray × Int) × List (ByteArray × Int) × List (Int × ByteArray × ByteArray × Int)) :=
  (impl_DiskOk.f k a0).bind fun r1 => bif (!r1) then (some (0, 0, [], [], [])) else ((impl_copyDisk.f k a0).bind fun r2 => (impl_Disk_names.f k a0 (if (if (a0.2.2.2.2.length : Int) < a1 then (a0.2.2.2.2.length : Int) else a1) > 0 then (if (a0.2.2.2.2.length : Int) < a1 then (a0.2.2.2.2.length : Int) else a1) else 0)).bind fun r3 => (iter (X := ((Int × Int × List (Int × ByteArray × Int) × List (ByteArray × Int) × List (Int × ByteArray × ByteArray × Int)) × Int × Int × List (Int × ByteArray × Int) × List (ByteArray × Int) × List (Int × ByteArray × ByteArray × Int)) ⊕ (Int × Int × List (Int × ByteArray × Int) × List (ByteArray × Int) × List (Int × ByteArray × ByteArray × Int))) (impl_Crash.b0 k) k (a2, a0.2.2.1, (a0.2.2.1.length : Int), 0, (0, 0, [], [], []), r2.1, r2.2.1, r2.2.2.1, r3, [])).bind fun r => match r with | .inl y => impl_Crash.d0 k y | .inr o => some o)

def impl_Crash.sig : Sig := ⟨[.val true (.pair (.int .i64) (.pair (.int .i64) (.pair (.sl 57 (.pair (.int .i64) (.pair .str (.int .i64)))) (.pair (.sl 59 (.pair .str (.int .i64))) (.sl 61 (.pair (.int .i64) (.pair .str (.pair .str (.int .i64))))))))), .val false (.int .i64), .val false (.sl 3 (.int .i64))], [⟨true, (.pair (.int .i64) (.pair (.int .i64) (.pair (.sl 57 (.pair (.int .i64) (.pair .str (.int .i64)))) (.pair (.sl 59 (.pair .str (.int .i64))) (.sl 61 (.pair (.int .i64) (.pair .str (.pair .str (.int .i64))))))))), true⟩]⟩
def impl_Crash.fn : Fn := ⟨impl_Crash.sig, fun k (x : (Int × Int × List (Int × ByteArray × Int) × List (ByteArray × Int) × List (Int × ByteArray × ByteArray × Int)) × Int × List Int) => impl_Crash.f k x.1 x.2.1 x.2.2⟩
noncomputable def impl_Crash.env (k : Nat) : Env := ⟨Try.prog, 75, fun t => none, look [(26, impl_DiskOk.fn), (77, impl_copyDisk.fn), (78, impl_Disk_names.fn), (79, impl_swept.fn)], k, impl_Crash.sig.pin, lookM []⟩
def impl_Crash.ann : Ann := .seq .leaf (.seq (.seq .leaf (.cond (.seq .leaf .leaf) .leaf)) (.seq .leaf (.seq .leaf (.seq .leaf (.seq (.seq .leaf (.loop [.slot 2 false (.sl 3 (.int .i64)) false, .ptr 6 1001, .ptr 7 4002, .slot 28 false (.sl 57 (.pair (.int .i64) (.pair .str (.int .i64)))) false, .slot 29 false (.int .i64) false, .slot 30 false (.int .i64) false, .box 1001 50 (.pair (.int .i64) (.pair (.int .i64) (.pair (.sl 57 (.pair (.int .i64) (.pair .str (.int .i64)))) (.pair (.sl 59 (.pair .str (.int .i64))) (.sl 61 (.pair (.int .i64) (.pair .str (.pair .str (.int .i64))))))))) true false, .box 4002 50 (.pair (.int .i64) (.pair (.int .i64) (.pair (.sl 57 (.pair (.int .i64) (.pair .str (.int .i64)))) (.pair (.sl 59 (.pair .str (.int .i64))) (.sl 61 (.pair (.int .i64) (.pair .str (.pair .str (.int .i64))))))))) true false] [.ptr 6 1001, .ptr 7 4002, .box 1001 50 (.pair (.int .i64) (.pair (.int .i64) (.pair (.sl 57 (.pair (.int .i64) (.pair .str (.int .i64)))) (.pair (.sl 59 (.pair .str (.int .i64))) (.sl 61 (.pair (.int .i64) (.pair .str (.pair .str (.int .i64))))))))) true false, .box 4002 50 (.pair (.int .i64) (.pair (.int .i64) (.pair (.sl 57 (.pair (.int .i64) (.pair .str (.int .i64)))) (.pair (.sl 59 (.pair .str (.int .i64))) (.sl 61 (.pair (.int .i64) (.pair .str (.pair .str (.int .i64))))))))) true false] (.seq .leaf (.seq (.cond .leaf .leaf) (.seq (.blk (.seq .leaf (.seq .leaf (.seq (.cut [.slot 2 false (.sl 3 (.int .i64)) false, .ptr 6 1001, .ptr 7 4002, .slot 8 false (.int .i64) false, .ptr 9 9003, .slot 10 false (.int .i64) false, .slot 28 false (.sl 57 (.pair (.int .i64) (.pair .str (.int .i64)))) false, .slot 29 false (.int .i64) false, .slot 30 false (.int .i64) false, .box 1001 50 (.pair (.int .i64) (.pair (.int .i64) (.pair (.sl 57 (.pair (.int .i64) (.pair .str (.int .i64)))) (.pair (.sl 59 (.pair .str (.int .i64))) (.sl 61 (.pair (.int .i64) (.pair .str (.pair .str (.int .i64))))))))) true false, .box 4002 50 (.pair (.int .i64) (.pair (.int .i64) (.pair (.sl 57 (.pair (.int .i64) (.pair .str (.int .i64)))) (.pair (.sl 59 (.pair .str (.int .i64))) (.sl 61 (.pair (.int .i64) (.pair .str (.pair .str (.int .i64))))))))) true false, .box 9003 57 (.pair (.int .i64) (.pair .str (.int .i64))) false false] (.seq .leaf (.cond .leaf .leaf))) (.seq .leaf .leaf))))) .leaf))))) (.seq .leaf .leaf))))))
theorem impl_Crash.ok (k : Nat) : FnOk Try.prog k 24 impl_Crash.fn :=
  fnOk_of (E := impl_Crash.env k) (ann := impl_Crash.ann) ⟨look_cons (impl_DiskOk.ok k) (look_cons (impl_copyDisk.ok k) (look_cons (impl_Disk_names.ok k) (look_cons (impl_swept.ok k) (look_nil)))), lookM_nil⟩ (by kernel_rfl) Try.func24 (by kernel_rfl) (by kernel_rfl) (by kernel_rfl) (of_decide_eq_true (by kernel_rfl)) (of_decide_eq_true (by kernel_rfl)) (fun _ h => h) (fun x => by kernel_rfl)

/-! (loop.example/g00358/impl.Disk).now -/
def impl_Disk_now.f (k : Nat) (a0 : Int × Int × List (Int × ByteArray × Int) × List (ByteArray × Int) × List (Int × ByteArray × ByteArray × Int)) : Option (List (ByteArray × Int)) :=
  (impl_Disk_names.f k a0 (a0.2.2.2.2.length : Int)).bind fun r1 => some r1

def impl_Disk_now.sig : Sig := ⟨[.val true (.pair (.int .i64) (.pair (.int .i64) (.pair (.sl 57 (.pair (.int .i64) (.pair .str (.int .i64)))) (.pair (.sl 59 (.pair .str (.int .i64))) (.sl 61 (.pair (.int .i64) (.pair .str (.pair .str (.int .i64)))))))))], [⟨false, (.sl 59 (.pair .str (.int .i64))), true⟩]⟩
def impl_Disk_now.fn : Fn := ⟨impl_Disk_now.sig, fun k (x : Int × Int × List (Int × ByteArray × Int) × List (ByteArray × Int) × List (Int × ByteArray × ByteArray × Int)) => impl_Disk_now.f k x⟩
noncomputable def impl_Disk_now.env (k : Nat) : Env := ⟨Try.prog, 8, fun t => none, look [(78, impl_Disk_names.fn)], k, impl_Disk_now.sig.pin, lookM []⟩
def impl_Disk_now.ann : Ann := .seq .leaf (.seq .leaf .leaf)
theorem impl_Disk_now.ok (k : Nat) : FnOk Try.prog k 89 impl_Disk_now.fn :=
  fnOk_of (E := impl_Disk_now.env k) (ann := impl_Disk_now.ann) ⟨look_cons (impl_Disk_names.ok k) (look_nil), lookM_nil⟩ (by kernel_rfl) Try.func89 (by kernel_rfl) (by kernel_rfl) (by kernel_rfl) (of_decide_eq_true (by kernel_rfl)) (of_decide_eq_true (by kernel_rfl)) (fun _ h => h) (fun x => by kernel_rfl)

/-! loop.example/g00358/impl.List -/
def impl_List.b0 (k : Nat) (s : List ByteArray × List ByteArray × List (ByteArray × Int) × Int × Int) : Option ((List ByteArray × List ByteArray × List (ByteArray × Int) × Int × Int) ⊕ (List ByteArray × List ByteArray) ⊕ (List ByteArray)) :=
  bif (decide (s.2.2.2.2 < s.2.2.2.1)) then ((inb? s.2.2.1.length s.2.2.2.2).bind fun j1 => (s.2.2.1[j1]?).bind fun y2 => (app? (limOf 16) s.2.1 ([y2.1])).bind fun l3 => some (.inl (s.1, l3, s.2.2.1, s.2.2.2.1, IntKind.wrap .i64 (s.2.2.2.2 + 1)))) else (some (.inr (.inl (s.1, s.2.1))))

def impl_List.d0 (k : Nat) (y : List ByteArray × List ByteArray) : Option (List ByteArray) :=
  some y.2

def impl_List.f (k : Nat) (a0 : Int × Int × List (Int × ByteArray × Int) × List (ByteArray × Int) × List (Int × ByteArray × ByteArray × Int)) : Option (List ByteArray) :=
  (impl_DiskOk.f k a0).bind fun r1 => bif (!r1) then (some ([])) else ((impl_Disk_now.f k a0).bind fun r2 => (iter (X := (List ByteArray × List ByteArray) ⊕ (List ByteArray)) (impl_List.b0 k) k ([], [], r2, (r2.length : Int), 0)).bind fun r => match r with | .inl y => impl_List.d0 k y | .inr o => some o)

def impl_List.sig : Sig := ⟨[.val true (.pair (.int .i64) (.pair (.int .i64) (.pair (.sl 57 (.pair (.int .i64) (.pair .str (.int .i64)))) (.pair (.sl 59 (.pair .str (.int .i64))) (.sl 61 (.pair (.int .i64) (.pair .str (.pair .str (.int .i64)))))))))], [⟨false, (.sl 9 .str), true⟩]⟩
def impl_List.fn : Fn := ⟨impl_List.sig, fun k (x : Int × Int × List (Int × ByteArray × Int) × List (ByteArray × Int) × List (Int × ByteArray × ByteArray × Int)) => impl_List.f k x⟩
noncomputable def impl_List.env (k : Nat) : Env := ⟨Try.prog, 25, fun t => bif Nat.beq t 9 then some .str else none, look [(26, impl_DiskOk.fn), (89, impl_Disk_now.fn)], k, impl_List.sig.pin, lookM []⟩
def impl_List.ann : Ann := .seq .leaf (.seq .leaf (.seq (.seq .leaf (.cond (.seq .leaf .leaf) .leaf)) (.seq (.seq .leaf (.loop [.slot 2 false (.sl 9 .str) true, .slot 3 false (.sl 9 .str) true, .slot 12 false (.sl 59 (.pair .str (.int .i64))) true, .slot 13 false (.int .i64) false, .slot 14 false (.int .i64) false] [.slot 2 false (.sl 9 .str) true, .slot 3 false (.sl 9 .str) true] (.seq .leaf (.seq (.cond .leaf .leaf) (.seq (.blk (.seq .leaf .leaf)) .leaf))))) (.seq .leaf .leaf))))
theorem impl_List.ok (k : Nat) : FnOk Try.prog k 27 impl_List.fn :=
  fnOk_of (E := impl_List.env k) (ann := impl_List.ann) ⟨look_cons (impl_DiskOk.ok k) (look_cons (impl_Disk_now.ok k) (look_nil)), lookM_nil⟩ (by kernel_rfl) Try.func27 (by kernel_rfl) (by kernel_rfl) (by kernel_rfl) (of_decide_eq_true (by kernel_rfl)) (of_decide_eq_true (by kernel_rfl)) (fun _ h => h) (fun x => by kernel_rfl)

/-! loop.example/g00358/spec.List -/
def spec_List.b0 (k : Nat) (s : List ByteArray × List ByteArray × List (ByteArray × Int) × Int) : Option ((List ByteArray × List ByteArray × List (ByteArray × Int) × Int) ⊕ (List ByteArray × List ByteArray) ⊕ (List ByteArray)) :=
  bif (decide (s.2.2.2 < (s.2.2.1.length : Int))) then ((inb? s.2.2.1.length s.2.2.2).bind fun j1 => (s.2.2.1[j1]?).bind fun y2 => (app? (limOf 16) s.2.1 ([y2.1])).bind fun l3 => some (.inl (s.1, l3, s.2.2.1, IntKind.wrap .i64 (s.2.2.2 + 1)))) else (some (.inr (.inl (s.1, s.2.1))))

def spec_List.d0 (k : Nat) (y : List ByteArray × List ByteArray) : Option (List ByteArray) :=
  some y.2

def spec_List.f (k : Nat) (a0 : Int × Int × List (Int × ByteArray × Int) × List (ByteArray × Int) × List (Int × ByteArray × ByteArray × Int)) : Option (List ByteArray) :=
  (spec_DiskOk.f k a0).bind fun r1 => bif (!r1) then (some ([])) else ((spec_l4Names.f k a0 (a0.2.2.2.2.length : Int)).bind fun r2 => (iter (X := (List ByteArray × List ByteArray) ⊕ (List ByteArray)) (spec_List.b0 k) k ([], [], r2, 0)).bind fun r => match r with | .inl y => spec_List.d0 k y | .inr o => some o)

def spec_List.sig : Sig := ⟨[.val true (.pair (.int .i64) (.pair (.int .i64) (.pair (.sl 57 (.pair (.int .i64) (.pair .str (.int .i64)))) (.pair (.sl 59 (.pair .str (.int .i64))) (.sl 61 (.pair (.int .i64) (.pair .str (.pair .str (.int .i64)))))))))], [⟨false, (.sl 9 .str), true⟩]⟩
def spec_List.fn : Fn := ⟨spec_List.sig, fun k (x : Int × Int × List (Int × ByteArray × Int) × List (ByteArray × Int) × List (Int × ByteArray × ByteArray × Int)) => spec_List.f k x⟩
noncomputable def spec_List.env (k : Nat) : Env := ⟨Try.prog, 31, fun t => bif Nat.beq t 9 then some .str else none, look [(25, spec_DiskOk.fn), (90, spec_l4Names.fn)], k, spec_List.sig.pin, lookM []⟩
def spec_List.ann : Ann := .seq .leaf (.seq .leaf (.seq (.seq .leaf (.cond (.seq .leaf .leaf) .leaf)) (.seq .leaf (.seq (.seq .leaf (.loop [.slot 2 false (.sl 9 .str) true, .slot 3 false (.sl 9 .str) true, .slot 4 false (.sl 59 (.pair .str (.int .i64))) true, .slot 5 false (.int .i64) false] [.slot 2 false (.sl 9 .str) true, .slot 3 false (.sl 9 .str) true] (.seq (.seq .leaf (.cond .leaf .leaf)) (.seq (.blk .leaf) .leaf)))) (.seq .leaf .leaf)))))
theorem spec_List.ok (k : Nat) : FnOk Try.prog k 28 spec_List.fn :=
  fnOk_of (E := spec_List.env k) (ann := spec_List.ann) ⟨look_cons (spec_DiskOk.ok k) (look_cons (spec_l4Names.ok k) (look_nil)), lookM_nil⟩ (by kernel_rfl) Try.func28 (by kernel_rfl) (by kernel_rfl) (by kernel_rfl) (of_decide_eq_true (by kernel_rfl)) (of_decide_eq_true (by kernel_rfl)) (fun _ h => h) (fun x => by kernel_rfl)

/-! (loop.example/g00358/impl.Disk).file -/
def impl_Disk_file.f (k : Nat) (a0 : Int × Int × List (Int × ByteArray × Int) × List (ByteArray × Int) × List (Int × ByteArray × ByteArray × Int)) (a1 : ByteArray) : Option Int :=
  (impl_Disk_now.f k a0).bind fun r1 => (impl_linkAt.f k r1 a1).bind fun r2 => bif (decide (r2 < 0)) then (some (-1)) else ((inb? r1.length r2).bind fun j3 => (r1[j3]?).bind fun y4 => (impl_Disk_at.f k a0 y4.2).bind fun r5 => some r5)

def impl_Disk_file.sig : Sig := ⟨[.val true (.pair (.int .i64) (.pair (.int .i64) (.pair (.sl 57 (.pair (.int .i64) (.pair .str (.int .i64)))) (.pair (.sl 59 (.pair .str (.int .i64))) (.sl 61 (.pair (.int .i64) (.pair .str (.pair .str (.int .i64))))))))), .val false .str], [⟨false, (.int .i64), true⟩]⟩
def impl_Disk_file.fn : Fn := ⟨impl_Disk_file.sig, fun k (x : (Int × Int × List (Int × ByteArray × Int) × List (ByteArray × Int) × List (Int × ByteArray × ByteArray × Int)) × ByteArray) => impl_Disk_file.f k x.1 x.2⟩
noncomputable def impl_Disk_file.env (k : Nat) : Env := ⟨Try.prog, 21, fun t => none, look [(89, impl_Disk_now.fn), (157, impl_linkAt.fn), (155, impl_Disk_at.fn)], k, impl_Disk_file.sig.pin, lookM []⟩
def impl_Disk_file.ann : Ann := .seq .leaf (.seq .leaf (.seq .leaf (.seq (.seq .leaf (.cond (.seq .leaf .leaf) .leaf)) (.seq .leaf .leaf))))
theorem impl_Disk_file.ok (k : Nat) : FnOk Try.prog k 91 impl_Disk_file.fn :=
  fnOk_of (E := impl_Disk_file.env k) (ann := impl_Disk_file.ann) ⟨look_cons (impl_Disk_now.ok k) (look_cons (impl_linkAt.ok k) (look_cons (impl_Disk_at.ok k) (look_nil))), lookM_nil⟩ (by kernel_rfl) Try.func91 (by kernel_rfl) (by kernel_rfl) (by kernel_rfl) (of_decide_eq_true (by kernel_rfl)) (of_decide_eq_true (by kernel_rfl)) (fun _ h => h) (fun x => by kernel_rfl)

/-! loop.example/g00358/impl.Load -/
def impl_Load.f (k : Nat) (a0 : Int × Int × List (Int × ByteArray × Int) × List (ByteArray × Int) × List (Int × ByteArray × ByteArray × Int)) (a1 : ByteArray) : Option (ByteArray × Bool) :=
  (impl_DiskOk.f k a0).bind fun r1 => bif (!r1) then (some ((⟨#[]⟩ : ByteArray), false)) else ((impl_Disk_file.f k a0 a1).bind fun r2 => bif (decide (r2 < 0)) then (some ((⟨#[]⟩ : ByteArray), false)) else ((impl_Disk_file.f k a0 a1).bind fun r3 => (inb? a0.2.2.1.length r3).bind fun j4 => (a0.2.2.1[j4]?).bind fun y5 => some (y5.2.1, true)))

def impl_Load.sig : Sig := ⟨[.val true (.pair (.int .i64) (.pair (.int .i64) (.pair (.sl 57 (.pair (.int .i64) (.pair .str (.int .i64)))) (.pair (.sl 59 (.pair .str (.int .i64))) (.sl 61 (.pair (.int .i64) (.pair .str (.pair .str (.int .i64))))))))), .val false .str], [⟨false, .str, true⟩, ⟨false, .bool, true⟩]⟩
def impl_Load.fn : Fn := ⟨impl_Load.sig, fun k (x : (Int × Int × List (Int × ByteArray × Int) × List (ByteArray × Int) × List (Int × ByteArray × ByteArray × Int)) × ByteArray) => impl_Load.f k x.1 x.2⟩
noncomputable def impl_Load.env (k : Nat) : Env := ⟨Try.prog, 23, fun t => none, look [(26, impl_DiskOk.fn), (91, impl_Disk_file.fn)], k, impl_Load.sig.pin, lookM []⟩
def impl_Load.ann : Ann := .seq .leaf (.seq (.seq .leaf (.cond (.seq .leaf .leaf) .leaf)) (.seq .leaf .leaf))
theorem impl_Load.ok (k : Nat) : FnOk Try.prog k 29 impl_Load.fn :=
  fnOk_of (E := impl_Load.env k) (ann := impl_Load.ann) ⟨look_cons (impl_DiskOk.ok k) (look_cons (impl_Disk_file.ok k) (look_nil)), lookM_nil⟩ (by kernel_rfl) Try.func29 (by kernel_rfl) (by kernel_rfl) (by kernel_rfl) (of_decide_eq_true (by kernel_rfl)) (of_decide_eq_true (by kernel_rfl)) (fun _ h => h) (fun x => by kernel_rfl)

/-! loop.example/g00358/spec.Load -/
def spec_Load.f (k : Nat) (a0 : Int × Int × List (Int × ByteArray × Int) × List (ByteArray × Int) × List (Int × ByteArray × ByteArray × Int)) (a1 : ByteArray) : Option (ByteArray × Bool) :=
  (spec_DiskOk.f k a0).bind fun r1 => bif (!r1) then (some ((⟨#[]⟩ : ByteArray), false)) else ((spec_l4Find.f k a0 a1).bind fun r2 => bif (decide (r2 < 0)) then (some ((⟨#[]⟩ : ByteArray), false)) else ((inb? a0.2.2.1.length r2).bind fun j3 => (a0.2.2.1[j3]?).bind fun y4 => some (y4.2.1, true)))

def spec_Load.sig : Sig := ⟨[.val true (.pair (.int .i64) (.pair (.int .i64) (.pair (.sl 57 (.pair (.int .i64) (.pair .str (.int .i64)))) (.pair (.sl 59 (.pair .str (.int .i64))) (.sl 61 (.pair (.int .i64) (.pair .str (.pair .str (.int .i64))))))))), .val false .str], [⟨false, .str, true⟩, ⟨false, .bool, true⟩]⟩
def spec_Load.fn : Fn := ⟨spec_Load.sig, fun k (x : (Int × Int × List (Int × ByteArray × Int) × List (ByteArray × Int) × List (Int × ByteArray × ByteArray × Int)) × ByteArray) => spec_Load.f k x.1 x.2⟩
noncomputable def spec_Load.env (k : Nat) : Env := ⟨Try.prog, 21, fun t => none, look [(25, spec_DiskOk.fn), (92, spec_l4Find.fn)], k, spec_Load.sig.pin, lookM []⟩
def spec_Load.ann : Ann := .seq .leaf (.seq (.seq .leaf (.cond (.seq .leaf .leaf) .leaf)) (.seq .leaf (.seq (.seq .leaf (.cond (.seq .leaf .leaf) .leaf)) (.seq .leaf .leaf))))
theorem spec_Load.ok (k : Nat) : FnOk Try.prog k 30 spec_Load.fn :=
  fnOk_of (E := spec_Load.env k) (ann := spec_Load.ann) ⟨look_cons (spec_DiskOk.ok k) (look_cons (spec_l4Find.ok k) (look_nil)), lookM_nil⟩ (by kernel_rfl) Try.func30 (by kernel_rfl) (by kernel_rfl) (by kernel_rfl) (of_decide_eq_true (by kernel_rfl)) (of_decide_eq_true (by kernel_rfl)) (fun _ h => h) (fun x => by kernel_rfl)

/-! loop.example/g00358/laws.begins -/
def laws_begins.f (k : Nat) (a0 : ByteArray) (a1 : ByteArray) : Option Bool :=
  bif (decide ((a0.size : Int) ≤ (a1.size : Int))) then ((cut? a1.size 0 (a0.size : Int)).bind fun p1 => some (decide (a1.extract p1.1 p1.2 = a0))) else (some false)

def laws_begins.sig : Sig := ⟨[.val false .str, .val false .str], [⟨false, .bool, true⟩]⟩
def laws_begins.fn : Fn := ⟨laws_begins.sig, fun k (x : ByteArray × ByteArray) => laws_begins.f k x.1 x.2⟩
noncomputable def laws_begins.env (k : Nat) : Env := ⟨Try.prog, 18, fun t => none, look [], k, laws_begins.sig.pin, lookM []⟩
def laws_begins.ann : Ann := .seq .leaf (.seq .leaf .leaf)
theorem laws_begins.ok (k : Nat) : FnOk Try.prog k 31 laws_begins.fn :=
  fnOk_of (E := laws_begins.env k) (ann := laws_begins.ann) ⟨look_nil, lookM_nil⟩ (by kernel_rfl) Try.func31 (by kernel_rfl) (by kernel_rfl) (by kernel_rfl) (of_decide_eq_true (by kernel_rfl)) (of_decide_eq_true (by kernel_rfl)) (fun _ h => h) (fun x => by kernel_rfl)

/-! loop.example/g00358/laws.FnNames -/
def laws_FnNames.b1 (k : Nat) (s : Bool × Int × List (Int × ByteArray × Int) × Int × Bool × Int × (Int × Int × List (Int × ByteArray × Int) × List (ByteArray × Int) × List (Int × ByteArray × ByteArray × Int)) × (Int × Int × List (Int × ByteArray × Int) × List (ByteArray × Int) × List (Int × ByteArray × ByteArray × Int)) × (Int × Int × List (Int × ByteArray × Int) × List (ByteArray × Int) × List (Int × ByteArray × ByteArray × Int)) × Int × Int × List (Int × ByteArray × Int) × List (ByteArray × Int) × List (Int × ByteArray × ByteArray × Int)) : Option ((Bool × Int × List (Int × ByteArray × Int) × Int × Bool × Int × (Int × Int × List (Int × ByteArray × Int) × List (ByteArray × Int) × List (Int × ByteArray × ByteArray × Int)) × (Int × Int × List (Int × ByteArray × Int) × List (ByteArray × Int) × List (Int × ByteArray × ByteArray × Int)) × (Int × Int × List (Int × ByteArray × Int) × List (ByteArray × Int) × List (Int × ByteArray × ByteArray × Int)) × Int × Int × List (Int × ByteArray × Int) × List (ByteArray × Int) × List (Int × ByteArray × ByteArray × Int)) ⊕ (Bool × Int × List (Int × ByteArray × Int) × Int × Bool × (Int × Int × List (Int × ByteArray × Int) × List (ByteArray × Int) × List (Int × ByteArray × ByteArray × Int)) × (Int × Int × List (Int × ByteArray × Int) × List (ByteArray × Int) × List (Int × ByteArray × ByteArray × Int)) × (Int × Int × List (Int × ByteArray × Int) × List (ByteArray × Int) × List (Int × ByteArray × ByteArray × Int)) × Int × Int × List (Int × ByteArray × Int) × List (ByteArray × Int) × List (Int × ByteArray × ByteArray × Int)) ⊕ Bool) :=
  bif (decide (s.2.2.2.2.2.1 < (s.2.2.2.2.2.2.1.2.2.2.1.length : Int))) then (bif s.2.2.2.2.1 then (some (.inl (s.1, s.2.1, s.2.2.1, s.2.2.2.1, true, IntKind.wrap .i64 (s.2.2.2.2.2.1 + 1), s.2.2.2.2.2.2))) else ((inb? s.2.2.2.2.2.2.1.2.2.2.1.length s.2.2.2.2.2.1).bind fun j1 => (s.2.2.2.2.2.2.1.2.2.2.1[j1]?).bind fun y2 => (inb? s.2.2.2.2.2.2.1.2.2.1.length s.2.2.2.1).bind fun j3 => (s.2.2.2.2.2.2.1.2.2.1[j3]?).bind fun y4 => some (.inl (s.1, s.2.1, s.2.2.1, s.2.2.2.1, (decide (y2.2 = y4.1)), IntKind.wrap .i64 (s.2.2.2.2.2.1 + 1), s.2.2.2.2.2.2)))) else (some (.inr (.inl (s.1, s.2.1, s.2.2.1, s.2.2.2.1, s.2.2.2.2.1, s.2.2.2.2.2.2))))

def laws_FnNames.b2 (k : Nat) (s : Bool × Int × List (Int × ByteArray × Int) × Int × Bool × Int × (Int × Int × List (Int × ByteArray × Int) × List (ByteArray × Int) × List (Int × ByteArray × ByteArray × Int)) × (Int × Int × List (Int × ByteArray × Int) × List (ByteArray × Int) × List (Int × ByteArray × ByteArray × Int)) × (Int × Int × List (Int × ByteArray × Int) × List (ByteArray × Int) × List (Int × ByteArray × ByteArray × Int)) × Int × Int × List (Int × ByteArray × Int) × List (ByteArray × Int) × List (Int × ByteArray × ByteArray × Int)) : Option ((Bool × Int × List (Int × ByteArray × Int) × Int × Bool × Int × (Int × Int × List (Int × ByteArray × Int) × List (ByteArray × Int) × List (Int × ByteArray × ByteArray × Int)) × (Int × Int × List (Int × ByteArray × Int) × List (ByteArray × Int) × List (Int × ByteArray × ByteArray × Int)) × (Int × Int × List (Int × ByteArray × Int) × List (ByteArray × Int) × List (Int × ByteArray × ByteArray × Int)) × Int × Int × List (Int × ByteArray × Int) × List (ByteArray × Int) × List (Int × ByteArray × ByteArray × Int)) ⊕ (Bool × Int × List (Int × ByteArray × Int) × Int × Bool × (Int × Int × List (Int × ByteArray × Int) × List (ByteArray × Int) × List (Int × ByteArray × ByteArray × Int)) × (Int × Int × List (Int × ByteArray × Int) × List (ByteArray × Int) × List (Int × ByteArray × ByteArray × Int)) × (Int × Int × List (Int × ByteArray × Int) × List (ByteArray × Int) × List (Int × ByteArray × ByteArray × Int)) × Int × Int × List (Int × ByteArray × Int) × List (ByteArray × Int) × List (Int × ByteArray × ByteArray × Int)) ⊕ Bool) :=
  bif (decide (s.2.2.2.2.2.1 < s.2.1)) then (bif s.2.2.2.2.1 then (some (.inl (s.1, s.2.1, s.2.2.1, s.2.2.2.1, true, IntKind.wrap .i64 (s.2.2.2.2.2.1 + 1), s.2.2.2.2.2.2))) else ((inb? s.2.2.2.2.2.2.1.2.2.2.2.length s.2.2.2.2.2.1).bind fun j1 => (s.2.2.2.2.2.2.1.2.2.2.2[j1]?).bind fun y2 => bif (decide (y2.1 = 1)) then ((inb? s.2.2.2.2.2.2.1.2.2.2.2.length s.2.2.2.2.2.1).bind fun j3 => (s.2.2.2.2.2.2.1.2.2.2.2[j3]?).bind fun y4 => (inb? s.2.2.2.2.2.2.1.2.2.1.length s.2.2.2.1).bind fun j5 => (s.2.2.2.2.2.2.1.2.2.1[j5]?).bind fun y6 => some (.inl (s.1, s.2.1, s.2.2.1, s.2.2.2.1, (decide (y4.2.2.2 = y6.1)), IntKind.wrap .i64 (s.2.2.2.2.2.1 + 1), s.2.2.2.2.2.2))) else (some (.inl (s.1, s.2.1, s.2.2.1, s.2.2.2.1, false, IntKind.wrap .i64 (s.2.2.2.2.2.1 + 1), s.2.2.2.2.2.2))))) else (some (.inr (.inl (s.1, s.2.1, s.2.2.1, s.2.2.2.1, s.2.2.2.2.1, s.2.2.2.2.2.2))))

def laws_FnNames.d1 (k : Nat) (y : Bool × Int × List (Int × ByteArray × Int) × Int × Bool × (Int × Int × List (Int × ByteArray × Int) × List (ByteArray × Int) × List (Int × ByteArray × ByteArray × Int)) × (Int × Int × List (Int × ByteArray × Int) × List (ByteArray × Int) × List (Int × ByteArray × ByteArray × Int)) × (Int × Int × List (Int × ByteArray × Int) × List (ByteArray × Int) × List (Int × ByteArray × ByteArray × Int)) × Int × Int × List (Int × ByteArray × Int) × List (ByteArray × Int) × List (Int × ByteArray × ByteArray × Int)) : Option ((Bool × Int × List (Int × ByteArray × Int) × Int × (Int × Int × List (Int × ByteArray × Int) × List (ByteArray × Int) × List (Int × ByteArray × ByteArray × Int)) × (Int × Int × List (Int × ByteArray × Int) × List (ByteArray × Int) × List (Int × ByteArray × ByteArray × Int)) × Int × Int × List (Int × ByteArray × Int) × List (ByteArray × Int) × List (Int × ByteArray × ByteArray × Int)) ⊕ (Bool × List (Int × ByteArray × Int) × (Int × Int × List (Int × ByteArray × Int) × List (ByteArray × Int) × List (Int × ByteArray × ByteArray × Int)) × Int × Int × List (Int × ByteArray × Int) × List (ByteArray × Int) × List (Int × ByteArray × ByteArray × Int)) ⊕ Bool) :=
  bif y.2.2.2.2.1 then (some (.inl (y.1, y.2.1, y.2.2.2.2.2.2.2.2.2.2.1, IntKind.wrap .i64 (y.2.2.2.1 + 1), y.2.2.2.2.2.1, y.2.2.2.2.2.2.1, y.2.2.2.2.2.2.2.1))) else (some (.inl (y.1, y.2.1, y.2.2.1, IntKind.wrap .i64 (y.2.2.2.1 + 1), y.2.2.2.2.2.1, y.2.2.2.2.2.2.1, y.2.2.2.2.2.2.2.1)))

def laws_FnNames.d0 (k : Nat) (y : Bool × Int × List (Int × ByteArray × Int) × Int × Bool × (Int × Int × List (Int × ByteArray × Int) × List (ByteArray × Int) × List (Int × ByteArray × ByteArray × Int)) × (Int × Int × List (Int × ByteArray × Int) × List (ByteArray × Int) × List (Int × ByteArray × ByteArray × Int)) × (Int × Int × List (Int × ByteArray × Int) × List (ByteArray × Int) × List (Int × ByteArray × ByteArray × Int)) × Int × Int × List (Int × ByteArray × Int) × List (ByteArray × Int) × List (Int × ByteArray × ByteArray × Int)) : Option ((Bool × Int × List (Int × ByteArray × Int) × Int × (Int × Int × List (Int × ByteArray × Int) × List (ByteArray × Int) × List (Int × ByteArray × ByteArray × Int)) × (Int × Int × List (Int × ByteArray × Int) × List (ByteArray × Int) × List (Int × ByteArray × ByteArray × Int)) × Int × Int × List (Int × ByteArray × Int) × List (ByteArray × Int) × List (Int × ByteArray × ByteArray × Int)) ⊕ (Bool × List (Int × ByteArray × Int) × (Int × Int × List (Int × ByteArray × Int) × List (ByteArray × Int) × List (Int × ByteArray × ByteArray × Int)) × Int × Int × List (Int × ByteArray × Int) × List (ByteArray × Int) × List (Int × ByteArray × ByteArray × Int)) ⊕ Bool) :=
  (iter (X := (Bool × Int × List (Int × ByteArray × Int) × Int × Bool × (Int × Int × List (Int × ByteArray × Int) × List (ByteArray × Int) × List (Int × ByteArray × ByteArray × Int)) × (Int × Int × List (Int × ByteArray × Int) × List (ByteArray × Int) × List (Int × ByteArray × ByteArray × Int)) × (Int × Int × List (Int × ByteArray × Int) × List (ByteArray × Int) × List (Int × ByteArray × ByteArray × Int)) × Int × Int × List (Int × ByteArray × Int) × List (ByteArray × Int) × List (Int × ByteArray × ByteArray × Int)) ⊕ Bool) (laws_FnNames.b2 k) k (y.1, y.2.1, y.2.2.1, y.2.2.2.1, y.2.2.2.2.1, 0, y.2.2.2.2.2)).bind fun r => match r with | .inl y => laws_FnNames.d1 k y | .inr o => some (.inr (.inr o))

def laws_FnNames.b0 (k : Nat) (s : Bool × Int × List (Int × ByteArray × Int) × Int × (Int × Int × List (Int × ByteArray × Int) × List (ByteArray × Int) × List (Int × ByteArray × ByteArray × Int)) × (Int × Int × List (Int × ByteArray × Int) × List (ByteArray × Int) × List (Int × ByteArray × ByteArray × Int)) × Int × Int × List (Int × ByteArray × Int) × List (ByteArray × Int) × List (Int × ByteArray × ByteArray × Int)) : Option ((Bool × Int × List (Int × ByteArray × Int) × Int × (Int × Int × List (Int × ByteArray × Int) × List (ByteArray × Int) × List (Int × ByteArray × ByteArray × Int)) × (Int × Int × List (Int × ByteArray × Int) × List (ByteArray × Int) × List (Int × ByteArray × ByteArray × Int)) × Int × Int × List (Int × ByteArray × Int) × List (ByteArray × Int) × List (Int × ByteArray × ByteArray × Int)) ⊕ (Bool × List (Int × ByteArray × Int) × (Int × Int × List (Int × ByteArray × Int) × List (ByteArray × Int) × List (Int × ByteArray × ByteArray × Int)) × Int × Int × List (Int × ByteArray × Int) × List (ByteArray × Int) × List (Int × ByteArray × ByteArray × Int)) ⊕ Bool) :=
  bif (decide (s.2.2.2.1 < (s.2.2.2.2.1.2.2.1.length : Int))) then ((app? (limOf 32) ([]) s.2.2.1).bind fun l1 => (inb? s.2.2.2.2.1.2.2.1.length s.2.2.2.1).bind fun j2 => (s.2.2.2.2.1.2.2.1[j2]?).bind fun y3 => (app? (limOf 32) l1 ([y3])).bind fun l4 => (app? (limOf 32) l4 ([])).bind fun l5 => (iter (X := (Bool × Int × List (Int × ByteArray × Int) × Int × Bool × (Int × Int × List (Int × ByteArray × Int) × List (ByteArray × Int) × List (Int × ByteArray × ByteArray × Int)) × (Int × Int × List (Int × ByteArray × Int) × List (ByteArray × Int) × List (Int × ByteArray × ByteArray × Int)) × (Int × Int × List (Int × ByteArray × Int) × List (ByteArray × Int) × List (Int × ByteArray × ByteArray × Int)) × Int × Int × List (Int × ByteArray × Int) × List (ByteArray × Int) × List (Int × ByteArray × ByteArray × Int)) ⊕ Bool) (laws_FnNames.b1 k) k (s.1, s.2.1, s.2.2.1, s.2.2.2.1, false, 0, s.2.2.2.2.1, s.2.2.2.2.2.1, s.2.2.2.2.2.2, s.2.2.2.2.2.2.1, s.2.2.2.2.2.2.2.1, l5, s.2.2.2.2.2.2.2.2.2)).bind fun r => match r with | .inl y => laws_FnNames.d0 k y | .inr o => some (.inr (.inr o))) else (some (.inr (.inl (s.1, s.2.2.1, s.2.2.2.2.2))))

def laws_FnNames.b3 (k : Nat) (s : Bool × List ByteArray × List ByteArray × Int × (Int × Int × List (Int × ByteArray × Int) × List (ByteArray × Int) × List (Int × ByteArray × ByteArray × Int)) × Int × Int × List (Int × ByteArray × Int) × List (ByteArray × Int) × List (Int × ByteArray × ByteArray × Int)) : Option ((Bool × List ByteArray × List ByteArray × Int × (Int × Int × List (Int × ByteArray × Int) × List (ByteArray × Int) × List (Int × ByteArray × ByteArray × Int)) × Int × Int × List (Int × ByteArray × Int) × List (ByteArray × Int) × List (Int × ByteArray × ByteArray × Int)) ⊕ Bool ⊕ Bool) :=
  bif (decide (s.2.2.2.1 < (s.2.1.length : Int))) then ((inb? s.2.1.length s.2.2.2.1).bind fun j1 => (s.2.1[j1]?).bind fun y2 => (impl_Load.f k s.2.2.2.2.1 y2).bind fun r3 => (inb? s.2.2.1.length s.2.2.2.1).bind fun j4 => (s.2.2.1[j4]?).bind fun y5 => (spec_Load.f k s.2.2.2.2.2 y5).bind fun r6 => (inb? s.2.1.length s.2.2.2.1).bind fun j7 => (s.2.1[j7]?).bind fun y8 => (inb? s.2.2.1.length s.2.2.2.1).bind fun j9 => (s.2.2.1[j9]?).bind fun y10 => bif (!decide (y8 = y10)) then (some (.inr (.inr false))) else (bif (!r3.2) then (some (.inr (.inr false))) else (bif (!r6.2) then (some (.inr (.inr false))) else ((laws_begins.f k r3.1 r6.1).bind fun r11 => bif (!r11) then (some (.inr (.inr false))) else (some (.inl (s.1, s.2.1, s.2.2.1, IntKind.wrap .i64 (s.2.2.2.1 + 1), s.2.2.2.2))))))) else (some (.inr (.inl s.1)))

def laws_FnNames.d3 (k : Nat) (y : Bool) : Option Bool :=
  some true

def laws_FnNames.d2 (k : Nat) (y : Bool × List (Int × ByteArray × Int) × (Int × Int × List (Int × ByteArray × Int) × List (ByteArray × Int) × List (Int × ByteArray × ByteArray × Int)) × Int × Int × List (Int × ByteArray × Int) × List (ByteArray × Int) × List (Int × ByteArray × ByteArray × Int)) : Option Bool :=
  (impl_List.f k y.2.2.1).bind fun r1 => (spec_List.f k (y.2.2.2.1, y.2.2.2.2.1, y.2.1, y.2.2.2.2.2.2)).bind fun r2 => bif (!decide ((r1.length : Int) = (r2.length : Int))) then (some false) else ((iter (X := Bool ⊕ Bool) (laws_FnNames.b3 k) k (y.1, r1, r2, 0, y.2.2.1, y.2.2.2.1, y.2.2.2.2.1, y.2.1, y.2.2.2.2.2.2)).bind fun r => match r with | .inl y => laws_FnNames.d3 k y | .inr o => some o)

def laws_FnNames.c1 (k : Nat) (y : Bool × Int × (Int × Int × List (Int × ByteArray × Int) × List (ByteArray × Int) × List (Int × ByteArray × ByteArray × Int)) × Int × Int × List (Int × ByteArray × Int) × List (ByteArray × Int) × List (Int × ByteArray × ByteArray × Int)) : Option Bool :=
  (cut? y.2.2.1.2.2.2.2.length 0 y.2.1).bind fun p1 => (app? (limOf 48) ([]) ((y.2.2.1.2.2.2.2.take p1.2).drop p1.1)).bind fun l2 => (iter (X := (Bool × List (Int × ByteArray × Int) × (Int × Int × List (Int × ByteArray × Int) × List (ByteArray × Int) × List (Int × ByteArray × ByteArray × Int)) × Int × Int × List (Int × ByteArray × Int) × List (ByteArray × Int) × List (Int × ByteArray × ByteArray × Int)) ⊕ Bool) (laws_FnNames.b0 k) k (y.1, y.2.1, [], 0, y.2.2.1, y.2.2.2, y.2.2.1.1, y.2.2.1.2.1, y.2.2.1.2.2.1, y.2.2.1.2.2.2.1, l2)).bind fun r => match r with | .inl y => laws_FnNames.d2 k y | .inr o => some o

def laws_FnNames.c0 (k : Nat) (y : Bool × Int × (Int × Int × List (Int × ByteArray × Int) × List (ByteArray × Int) × List (Int × ByteArray × ByteArray × Int)) × Int × Int × List (Int × ByteArray × Int) × List (ByteArray × Int) × List (Int × ByteArray × ByteArray × Int)) : Option Bool :=
  Option.bind (α := (Bool × Int × (Int × Int × List (Int × ByteArray × Int) × List (ByteArray × Int) × List (Int × ByteArray × ByteArray × Int)) × Int × Int × List (Int × ByteArray × Int) × List (ByteArray × Int) × List (Int × ByteArray × ByteArray × Int)) ⊕ Bool) (bif (decide ((y.2.2.1.2.2.2.2.length : Int) < y.2.1)) then (some (.inl (y.1, (y.2.2.1.2.2.2.2.length : Int), y.2.2))) else (some (.inl y))) fun r => match r with | .inl y => laws_FnNames.c1 k y | .inr o => some o

def laws_FnNames.f (k : Nat) (a0 : List Int) : Option Bool :=
  (laws_big.f k a0).bind fun r1 => bif r1 then (some true) else ((spec_DrawCrash.f k a0).bind fun r2 => (impl_Crash.f k r2.1 r2.2.1 r2.2.2).bind fun r3 => (spec_DiskOk.f k r2.1).bind fun r4 => bif (!r4) then ((impl_DiskOk.f k r3).bind fun r5 => some (!r5)) else (Option.bind (α := (Bool × Int × (Int × Int × List (Int × ByteArray × Int) × List (ByteArray × Int) × List (Int × ByteArray × ByteArray × Int)) × Int × Int × List (Int × ByteArray × Int) × List (ByteArray × Int) × List (Int × ByteArray × ByteArray × Int)) ⊕ Bool) (bif (decide (r2.2.1 < 0)) then (some (.inl (false, 0, r2.1, r3))) else (some (.inl (false, r2.2.1, r2.1, r3)))) fun r => match r with | .inl y => laws_FnNames.c0 k y | .inr o => some o))

def laws_FnNames.sig : Sig := ⟨[.val false (.sl 5 (.int .u8))], [⟨false, .bool, true⟩]⟩
def laws_FnNames.fn : Fn := ⟨laws_FnNames.sig, fun k (x : List Int) => laws_FnNames.f k x⟩
noncomputable def laws_FnNames.env (k : Nat) : Env := ⟨Try.prog, 198, fun t => bif Nat.beq t 57 then some (.pair (.int .i64) (.pair .str (.int .i64))) else bif Nat.beq t 61 then some (.pair (.int .i64) (.pair .str (.pair .str (.int .i64)))) else none, look [(10, laws_big.fn), (23, spec_DrawCrash.fn), (24, impl_Crash.fn), (25, spec_DiskOk.fn), (26, impl_DiskOk.fn), (27, impl_List.fn), (28, spec_List.fn), (29, impl_Load.fn), (30, spec_Load.fn), (31, laws_begins.fn)], k, laws_FnNames.sig.pin, lookM []⟩
def laws_FnNames.ann : Ann := .seq .leaf (.seq (.seq .leaf (.cond (.seq .leaf .leaf) .leaf)) (.seq .leaf (.seq .leaf (.seq (.seq .leaf (.cond (.seq .leaf .leaf) .leaf)) (.seq .leaf (.seq (.cut [.slot 2 false .bool false, .ptr 3 4006, .ptr 6 5004, .slot 7 false (.int .i64) false, .box 4006 50 (.pair (.int .i64) (.pair (.int .i64) (.pair (.sl 57 (.pair (.int .i64) (.pair .str (.int .i64)))) (.pair (.sl 59 (.pair .str (.int .i64))) (.sl 61 (.pair (.int .i64) (.pair .str (.pair .str (.int .i64))))))))) true false, .box 5004 50 (.pair (.int .i64) (.pair (.int .i64) (.pair (.sl 57 (.pair (.int .i64) (.pair .str (.int .i64)))) (.pair (.sl 59 (.pair .str (.int .i64))) (.sl 61 (.pair (.int .i64) (.pair .str (.pair .str (.int .i64))))))))) true false] (.seq .leaf (.cond .leaf .leaf))) (.seq (.cut [.slot 2 false .bool false, .ptr 3 4006, .ptr 6 5004, .slot 7 false (.int .i64) false, .box 4006 50 (.pair (.int .i64) (.pair (.int .i64) (.pair (.sl 57 (.pair (.int .i64) (.pair .str (.int .i64)))) (.pair (.sl 59 (.pair .str (.int .i64))) (.sl 61 (.pair (.int .i64) (.pair .str (.pair .str (.int .i64))))))))) true false, .box 5004 50 (.pair (.int .i64) (.pair (.int .i64) (.pair (.sl 57 (.pair (.int .i64) (.pair .str (.int .i64)))) (.pair (.sl 59 (.pair .str (.int .i64))) (.sl 61 (.pair (.int .i64) (.pair .str (.pair .str (.int .i64))))))))) true false] (.seq .leaf (.cond .leaf .leaf))) (.seq .leaf (.seq .leaf (.seq .leaf (.seq (.seq .leaf (.loop [.slot 2 false .bool false, .ptr 3 4006, .ptr 6 5004, .slot 7 false (.int .i64) false, .ptr 8 13001, .slot 9 false (.sl 57 (.pair (.int .i64) (.pair .str (.int .i64)))) false, .slot 10 false (.int .i64) false, .box 4006 50 (.pair (.int .i64) (.pair (.int .i64) (.pair (.sl 57 (.pair (.int .i64) (.pair .str (.int .i64)))) (.pair (.sl 59 (.pair .str (.int .i64))) (.sl 61 (.pair (.int .i64) (.pair .str (.pair .str (.int .i64))))))))) false false, .box 5004 50 (.pair (.int .i64) (.pair (.int .i64) (.pair (.sl 57 (.pair (.int .i64) (.pair .str (.int .i64)))) (.pair (.sl 59 (.pair .str (.int .i64))) (.sl 61 (.pair (.int .i64) (.pair .str (.pair .str (.int .i64))))))))) true false, .box 13001 50 (.pair (.int .i64) (.pair (.int .i64) (.pair (.sl 57 (.pair (.int .i64) (.pair .str (.int .i64)))) (.pair (.sl 59 (.pair .str (.int .i64))) (.sl 61 (.pair (.int .i64) (.pair .str (.pair .str (.int .i64))))))))) false false] [.slot 2 false .bool false, .ptr 6 5004, .ptr 8 13001, .slot 9 false (.sl 57 (.pair (.int .i64) (.pair .str (.int .i64)))) false, .box 5004 50 (.pair (.int .i64) (.pair (.int .i64) (.pair (.sl 57 (.pair (.int .i64) (.pair .str (.int .i64)))) (.pair (.sl 59 (.pair .str (.int .i64))) (.sl 61 (.pair (.int .i64) (.pair .str (.pair .str (.int .i64))))))))) true false, .box 13001 50 (.pair (.int .i64) (.pair (.int .i64) (.pair (.sl 57 (.pair (.int .i64) (.pair .str (.int .i64)))) (.pair (.sl 59 (.pair .str (.int .i64))) (.sl 61 (.pair (.int .i64) (.pair .str (.pair .str (.int .i64))))))))) false false] (.seq (.seq .leaf (.cond .leaf .leaf)) (.seq (.blk (.seq .leaf (.seq .leaf (.seq .leaf (.seq .leaf (.seq (.seq .leaf (.loop [.slot 2 false .bool false, .ptr 3 4006, .ptr 6 5004, .slot 7 false (.int .i64) false, .ptr 8 13001, .slot 9 false (.sl 57 (.pair (.int .i64) (.pair .str (.int .i64)))) false, .slot 10 false (.int .i64) false, .ptr 11 19001, .slot 12 false .bool false, .slot 13 false (.int .i64) false, .box 4006 50 (.pair (.int .i64) (.pair (.int .i64) (.pair (.sl 57 (.pair (.int .i64) (.pair .str (.int .i64)))) (.pair (.sl 59 (.pair .str (.int .i64))) (.sl 61 (.pair (.int .i64) (.pair .str (.pair .str (.int .i64))))))))) false false, .box 5004 50 (.pair (.int .i64) (.pair (.int .i64) (.pair (.sl 57 (.pair (.int .i64) (.pair .str (.int .i64)))) (.pair (.sl 59 (.pair .str (.int .i64))) (.sl 61 (.pair (.int .i64) (.pair .str (.pair .str (.int .i64))))))))) true false, .box 13001 50 (.pair (.int .i64) (.pair (.int .i64) (.pair (.sl 57 (.pair (.int .i64) (.pair .str (.int .i64)))) (.pair (.sl 59 (.pair .str (.int .i64))) (.sl 61 (.pair (.int .i64) (.pair .str (.pair .str (.int .i64))))))))) false false, .box 19001 50 (.pair (.int .i64) (.pair (.int .i64) (.pair (.sl 57 (.pair (.int .i64) (.pair .str (.int .i64)))) (.pair (.sl 59 (.pair .str (.int .i64))) (.sl 61 (.pair (.int .i64) (.pair .str (.pair .str (.int .i64))))))))) false false] [.slot 2 false .bool false, .ptr 3 4006, .ptr 6 5004, .slot 7 false (.int .i64) false, .ptr 8 13001, .slot 9 false (.sl 57 (.pair (.int .i64) (.pair .str (.int .i64)))) false, .slot 10 false (.int .i64) false, .ptr 11 19001, .slot 12 false .bool false, .box 4006 50 (.pair (.int .i64) (.pair (.int .i64) (.pair (.sl 57 (.pair (.int .i64) (.pair .str (.int .i64)))) (.pair (.sl 59 (.pair .str (.int .i64))) (.sl 61 (.pair (.int .i64) (.pair .str (.pair .str (.int .i64))))))))) false false, .box 5004 50 (.pair (.int .i64) (.pair (.int .i64) (.pair (.sl 57 (.pair (.int .i64) (.pair .str (.int .i64)))) (.pair (.sl 59 (.pair .str (.int .i64))) (.sl 61 (.pair (.int .i64) (.pair .str (.pair .str (.int .i64))))))))) true false, .box 13001 50 (.pair (.int .i64) (.pair (.int .i64) (.pair (.sl 57 (.pair (.int .i64) (.pair .str (.int .i64)))) (.pair (.sl 59 (.pair .str (.int .i64))) (.sl 61 (.pair (.int .i64) (.pair .str (.pair .str (.int .i64))))))))) false false, .box 19001 50 (.pair (.int .i64) (.pair (.int .i64) (.pair (.sl 57 (.pair (.int .i64) (.pair .str (.int .i64)))) (.pair (.sl 59 (.pair .str (.int .i64))) (.sl 61 (.pair (.int .i64) (.pair .str (.pair .str (.int .i64))))))))) false false] (.seq (.seq .leaf (.cond .leaf .leaf)) (.seq (.blk .leaf) .leaf)))) (.seq (.seq .leaf (.loop [.slot 2 false .bool false, .ptr 3 4006, .ptr 6 5004, .slot 7 false (.int .i64) false, .ptr 8 13001, .slot 9 false (.sl 57 (.pair (.int .i64) (.pair .str (.int .i64)))) false, .slot 10 false (.int .i64) false, .ptr 11 19001, .slot 12 false .bool false, .slot 14 false (.int .i64) false, .box 4006 50 (.pair (.int .i64) (.pair (.int .i64) (.pair (.sl 57 (.pair (.int .i64) (.pair .str (.int .i64)))) (.pair (.sl 59 (.pair .str (.int .i64))) (.sl 61 (.pair (.int .i64) (.pair .str (.pair .str (.int .i64))))))))) false false, .box 5004 50 (.pair (.int .i64) (.pair (.int .i64) (.pair (.sl 57 (.pair (.int .i64) (.pair .str (.int .i64)))) (.pair (.sl 59 (.pair .str (.int .i64))) (.sl 61 (.pair (.int .i64) (.pair .str (.pair .str (.int .i64))))))))) true false, .box 13001 50 (.pair (.int .i64) (.pair (.int .i64) (.pair (.sl 57 (.pair (.int .i64) (.pair .str (.int .i64)))) (.pair (.sl 59 (.pair .str (.int .i64))) (.sl 61 (.pair (.int .i64) (.pair .str (.pair .str (.int .i64))))))))) false false, .box 19001 50 (.pair (.int .i64) (.pair (.int .i64) (.pair (.sl 57 (.pair (.int .i64) (.pair .str (.int .i64)))) (.pair (.sl 59 (.pair .str (.int .i64))) (.sl 61 (.pair (.int .i64) (.pair .str (.pair .str (.int .i64))))))))) false false] [.slot 2 false .bool false, .ptr 3 4006, .ptr 6 5004, .slot 7 false (.int .i64) false, .ptr 8 13001, .slot 9 false (.sl 57 (.pair (.int .i64) (.pair .str (.int .i64)))) false, .slot 10 false (.int .i64) false, .ptr 11 19001, .slot 12 false .bool false, .box 4006 50 (.pair (.int .i64) (.pair (.int .i64) (.pair (.sl 57 (.pair (.int .i64) (.pair .str (.int .i64)))) (.pair (.sl 59 (.pair .str (.int .i64))) (.sl 61 (.pair (.int .i64) (.pair .str (.pair .str (.int .i64))))))))) false false, .box 5004 50 (.pair (.int .i64) (.pair (.int .i64) (.pair (.sl 57 (.pair (.int .i64) (.pair .str (.int .i64)))) (.pair (.sl 59 (.pair .str (.int .i64))) (.sl 61 (.pair (.int .i64) (.pair .str (.pair .str (.int .i64))))))))) true false, .box 13001 50 (.pair (.int .i64) (.pair (.int .i64) (.pair (.sl 57 (.pair (.int .i64) (.pair .str (.int .i64)))) (.pair (.sl 59 (.pair .str (.int .i64))) (.sl 61 (.pair (.int .i64) (.pair .str (.pair .str (.int .i64))))))))) false false, .box 19001 50 (.pair (.int .i64) (.pair (.int .i64) (.pair (.sl 57 (.pair (.int .i64) (.pair .str (.int .i64)))) (.pair (.sl 59 (.pair .str (.int .i64))) (.sl 61 (.pair (.int .i64) (.pair .str (.pair .str (.int .i64))))))))) false false] (.seq (.seq .leaf (.cond .leaf .leaf)) (.seq (.blk .leaf) .leaf)))) (.seq .leaf (.cond .leaf .leaf))))))))) .leaf)))) (.seq .leaf (.seq .leaf (.seq .leaf (.seq (.seq .leaf (.cond (.seq .leaf .leaf) .leaf)) (.seq (.seq .leaf (.loop [.slot 2 false .bool false, .ptr 6 5004, .ptr 8 13001, .slot 15 false (.sl 9 .str) true, .slot 16 false (.sl 9 .str) true, .slot 17 false (.int .i64) false, .box 5004 50 (.pair (.int .i64) (.pair (.int .i64) (.pair (.sl 57 (.pair (.int .i64) (.pair .str (.int .i64)))) (.pair (.sl 59 (.pair .str (.int .i64))) (.sl 61 (.pair (.int .i64) (.pair .str (.pair .str (.int .i64))))))))) true false, .box 13001 50 (.pair (.int .i64) (.pair (.int .i64) (.pair (.sl 57 (.pair (.int .i64) (.pair .str (.int .i64)))) (.pair (.sl 59 (.pair .str (.int .i64))) (.sl 61 (.pair (.int .i64) (.pair .str (.pair .str (.int .i64))))))))) false false] [.slot 2 false .bool false] (.seq (.seq .leaf (.cond .leaf .leaf)) (.seq (.blk (.seq .leaf (.seq .leaf (.seq .leaf (.cond (.seq .leaf .leaf) .leaf))))) .leaf)))) (.seq .leaf .leaf)))))))))))))))))
theorem laws_FnNames.ok (k : Nat) : FnOk Try.prog k 5 laws_FnNames.fn :=
  fnOk_of (E := laws_FnNames.env k) (ann := laws_FnNames.ann) ⟨look_cons (laws_big.ok k) (look_cons (spec_DrawCrash.ok k) (look_cons (impl_Crash.ok k) (look_cons (spec_DiskOk.ok k) (look_cons (impl_DiskOk.ok k) (look_cons (impl_List.ok k) (look_cons (spec_List.ok k) (look_cons (impl_Load.ok k) (look_cons (spec_Load.ok k) (look_cons (laws_begins.ok k) (look_nil)))))))))), lookM_nil⟩ (by kernel_rfl) Try.func5 (by kernel_rfl) (by kernel_rfl) (by kernel_rfl) (of_decide_eq_true (by kernel_rfl)) (of_decide_eq_true (by kernel_rfl)) (fun _ h => h) (fun x => by kernel_rfl)

/-! loop.example/g00358/spec.l4Two -/
def spec_l4Two.f (k : Nat) (a0 : List Int) : Option ((Int × Int × List (Int × ByteArray × Int) × List (ByteArray × Int) × List (Int × ByteArray × ByteArray × Int)) × ByteArray) :=
  (spec_l1New.f k a0).bind fun r1 => (spec_l4DrawName.f k r1).bind fun r2 => (spec_l1Size.f k a0 30).bind fun r3 => (spec_l4Some.f k r2.2 r3).bind fun r4 => some (r4.1, r2.1)

def spec_l4Two.sig : Sig := ⟨[.val false (.sl 5 (.int .u8))], [⟨true, (.pair (.int .i64) (.pair (.int .i64) (.pair (.sl 57 (.pair (.int .i64) (.pair .str (.int .i64)))) (.pair (.sl 59 (.pair .str (.int .i64))) (.sl 61 (.pair (.int .i64) (.pair .str (.pair .str (.int .i64))))))))), true⟩, ⟨false, .str, true⟩]⟩
def spec_l4Two.fn : Fn := ⟨spec_l4Two.sig, fun k (x : List Int) => spec_l4Two.f k x⟩
noncomputable def spec_l4Two.env (k : Nat) : Env := ⟨Try.prog, 15, fun t => none, look [(141, spec_l4DrawName.fn), (76, spec_l1Size.fn), (75, spec_l4Some.fn)], k, spec_l4Two.sig.pin, lookM [(58, spec_l1New.mk)]⟩
def spec_l4Two.ann : Ann := .seq .leaf (.seq .leaf (.seq .leaf (.seq .leaf .leaf)))
theorem spec_l4Two.ok (k : Nat) : FnOk Try.prog k 158 spec_l4Two.fn :=
  fnOk_of (E := spec_l4Two.env k) (ann := spec_l4Two.ann) ⟨look_cons (spec_l4DrawName.ok k) (look_cons (spec_l1Size.ok k) (look_cons (spec_l4Some.ok k) (look_nil))), lookM_cons (spec_l1New.ok k) (lookM_nil)⟩ (by kernel_rfl) Try.func158 (by kernel_rfl) (by kernel_rfl) (by kernel_rfl) (of_decide_eq_true (by kernel_rfl)) (of_decide_eq_true (by kernel_rfl)) (fun _ h => h) (fun x => by kernel_rfl)

/-! loop.example/g00358/spec.DrawSync -/
def spec_DrawSync.f (k : Nat) (a0 : List Int) : Option ((Int × Int × List (Int × ByteArray × Int) × List (ByteArray × Int) × List (Int × ByteArray × ByteArray × Int)) × ByteArray) :=
  (spec_l4Two.f k a0).bind fun r1 => some r1

def spec_DrawSync.sig : Sig := ⟨[.val false (.sl 5 (.int .u8))], [⟨true, (.pair (.int .i64) (.pair (.int .i64) (.pair (.sl 57 (.pair (.int .i64) (.pair .str (.int .i64)))) (.pair (.sl 59 (.pair .str (.int .i64))) (.sl 61 (.pair (.int .i64) (.pair .str (.pair .str (.int .i64))))))))), true⟩, ⟨false, .str, true⟩]⟩
def spec_DrawSync.fn : Fn := ⟨spec_DrawSync.sig, fun k (x : List Int) => spec_DrawSync.f k x⟩
noncomputable def spec_DrawSync.env (k : Nat) : Env := ⟨Try.prog, 13, fun t => none, look [(158, spec_l4Two.fn)], k, spec_DrawSync.sig.pin, lookM []⟩
def spec_DrawSync.ann : Ann := .seq .leaf (.seq .leaf (.seq .leaf .leaf))
theorem spec_DrawSync.ok (k : Nat) : FnOk Try.prog k 93 spec_DrawSync.fn :=
  fnOk_of (E := spec_DrawSync.env k) (ann := spec_DrawSync.ann) ⟨look_cons (spec_l4Two.ok k) (look_nil), lookM_nil⟩ (by kernel_rfl) Try.func93 (by kernel_rfl) (by kernel_rfl) (by kernel_rfl) (of_decide_eq_true (by kernel_rfl)) (of_decide_eq_true (by kernel_rfl)) (fun _ h => h) (fun x => by kernel_rfl)

/-! loop.example/g00358/laws.synced -/
def laws_synced.f (k : Nat) (a0 : List Int) : Option ((Int × Int × List (Int × ByteArray × Int) × List (ByteArray × Int) × List (Int × ByteArray × ByteArray × Int)) × ByteArray × ByteArray × Bool) :=
  (spec_DrawSync.f k a0).bind fun r1 => (spec_Sync.f k r1.1 r1.2).bind fun r2 => (spec_SyncDir.f k r2.1).bind fun r3 => (spec_Load.f k r3.1 r1.2).bind fun r4 => bif r4.2 then (bif (decide (r2.2 = 0)) then (some (r3.1, r1.2, r4.1, (decide (r3.2 = 0)))) else (some (r3.1, r1.2, r4.1, false))) else (some (r3.1, r1.2, r4.1, false))

def laws_synced.sig : Sig := ⟨[.val false (.sl 5 (.int .u8))], [⟨true, (.pair (.int .i64) (.pair (.int .i64) (.pair (.sl 57 (.pair (.int .i64) (.pair .str (.int .i64)))) (.pair (.sl 59 (.pair .str (.int .i64))) (.sl 61 (.pair (.int .i64) (.pair .str (.pair .str (.int .i64))))))))), true⟩, ⟨false, .str, true⟩, ⟨false, .str, true⟩, ⟨false, .bool, true⟩]⟩
def laws_synced.fn : Fn := ⟨laws_synced.sig, fun k (x : List Int) => laws_synced.f k x⟩
noncomputable def laws_synced.env (k : Nat) : Env := ⟨Try.prog, 46, fun t => none, look [(93, spec_DrawSync.fn), (35, spec_Sync.fn), (36, spec_SyncDir.fn), (30, spec_Load.fn)], k, laws_synced.sig.pin, lookM []⟩
def laws_synced.ann : Ann := .seq .leaf (.seq .leaf (.seq .leaf (.seq .leaf (.seq .leaf (.seq .leaf .leaf)))))
theorem laws_synced.ok (k : Nat) : FnOk Try.prog k 32 laws_synced.fn :=
  fnOk_of (E := laws_synced.env k) (ann := laws_synced.ann) ⟨look_cons (spec_DrawSync.ok k) (look_cons (spec_Sync.ok k) (look_cons (spec_SyncDir.ok k) (look_cons (spec_Load.ok k) (look_nil)))), lookM_nil⟩ (by kernel_rfl) Try.func32 (by kernel_rfl) (by kernel_rfl) (by kernel_rfl) (of_decide_eq_true (by kernel_rfl)) (of_decide_eq_true (by kernel_rfl)) (fun _ h => h) (fun x => by kernel_rfl)

/-! loop.example/g00358/spec.DrawHex -/
def spec_DrawHex.f (k : Nat) (a0 : List Int) : Option ByteArray :=
  (spec_l1New.f k a0).bind fun r1 => (spec_l1Text.f k r1 40).bind fun r2 => some r2.1

def spec_DrawHex.sig : Sig := ⟨[.val false (.sl 5 (.int .u8))], [⟨false, .str, true⟩]⟩
def spec_DrawHex.fn : Fn := ⟨spec_DrawHex.sig, fun k (x : List Int) => spec_DrawHex.f k x⟩
noncomputable def spec_DrawHex.env (k : Nat) : Env := ⟨Try.prog, 8, fun t => none, look [(97, spec_l1Text.fn)], k, spec_DrawHex.sig.pin, lookM [(58, spec_l1New.mk)]⟩
def spec_DrawHex.ann : Ann := .seq .leaf (.seq .leaf (.seq .leaf .leaf))
theorem spec_DrawHex.ok (k : Nat) : FnOk Try.prog k 37 spec_DrawHex.fn :=
  fnOk_of (E := spec_DrawHex.env k) (ann := spec_DrawHex.ann) ⟨look_cons (spec_l1Text.ok k) (look_nil), lookM_cons (spec_l1New.ok k) (lookM_nil)⟩ (by kernel_rfl) Try.func37 (by kernel_rfl) (by kernel_rfl) (by kernel_rfl) (of_decide_eq_true (by kernel_rfl)) (of_decide_eq_true (by kernel_rfl)) (fun _ h => h) (fun x => by kernel_rfl)

/-! loop.example/g00358/impl.Add -/
def impl_Add.f (k : Nat) (a0 : Int × Int × List (Int × ByteArray × Int) × List (ByteArray × Int) × List (Int × ByteArray × ByteArray × Int)) (a1 : ByteArray) (a2 : ByteArray) : Option ((Int × Int × List (Int × ByteArray × Int) × List (ByteArray × Int) × List (Int × ByteArray × ByteArray × Int)) × Int) :=
  (impl_DiskOk.f k a0).bind fun r1 => bif (!r1) then (some ((0, 0, [], [], []), 1)) else ((impl_copyDisk.f k a0).bind fun r2 => (impl_Disk_file.f k a0 a1).bind fun r3 => (impl_isName.f k a1).bind fun r4 => bif (!r4) then (some (r2, 1)) else (bif (decide (r3 < 0)) then (some (r2, 2)) else ((impl_Disk_size.f k a0).bind fun r5 => bif (decide (a0.1 < IntKind.wrap .i64 (r5 + (a2.size : Int)))) then (some (r2, 4)) else ((inb? a0.2.2.1.length r3).bind fun j6 => (a0.2.2.1[j6]?).bind fun y7 => (cat? y7.2.1 a2).bind fun s8 => (inb? r2.2.2.1.length r3).bind fun j9 => (r2.2.2.1[j9]?).bind fun y10 => some ((r2.1, r2.2.1, r2.2.2.1.set j9 (y10.1, s8, y10.2.2), r2.2.2.2), 0)))))

def impl_Add.sig : Sig := ⟨[.val true (.pair (.int .i64) (.pair (.int .i64) (.pair (.sl 57 (.pair (.int .i64) (.pair .str (.int .i64)))) (.pair (.sl 59 (.pair .str (.int .i64))) (.sl 61 (.pair (.int .i64) (.pair .str (.pair .str (.int .i64))))))))), .val false .str, .val false .str], [⟨true, (.pair (.int .i64) (.pair (.int .i64) (.pair (.sl 57 (.pair (.int .i64) (.pair .str (.int .i64)))) (.pair (.sl 59 (.pair .str (.int .i64))) (.sl 61 (.pair (.int .i64) (.pair .str (.pair .str (.int .i64))))))))), true⟩, ⟨false, (.int .i64), true⟩]⟩
def impl_Add.fn : Fn := ⟨impl_Add.sig, fun k (x : (Int × Int × List (Int × ByteArray × Int) × List (ByteArray × Int) × List (Int × ByteArray × ByteArray × Int)) × ByteArray × ByteArray) => impl_Add.f k x.1 x.2.1 x.2.2⟩
noncomputable def impl_Add.env (k : Nat) : Env := ⟨Try.prog, 52, fun t => none, look [(26, impl_DiskOk.fn), (77, impl_copyDisk.fn), (91, impl_Disk_file.fn), (98, impl_isName.fn), (87, impl_Disk_size.fn)], k, impl_Add.sig.pin, lookM []⟩
def impl_Add.ann : Ann := .seq .leaf (.seq (.seq .leaf (.cond (.seq .leaf .leaf) .leaf)) (.seq .leaf (.seq .leaf (.seq (.blk (.seq .leaf (.cond (.seq .leaf .leaf) (.seq .leaf (.cond (.seq .leaf .leaf) (.seq .leaf (.cond (.seq .leaf .leaf) .leaf))))))) (.seq .leaf (.seq .leaf .leaf))))))
theorem impl_Add.ok (k : Nat) : FnOk Try.prog k 38 impl_Add.fn :=
  fnOk_of (E := impl_Add.env k) (ann := impl_Add.ann) ⟨look_cons (impl_DiskOk.ok k) (look_cons (impl_copyDisk.ok k) (look_cons (impl_Disk_file.ok k) (look_cons (impl_isName.ok k) (look_cons (impl_Disk_size.ok k) (look_nil))))), lookM_nil⟩ (by kernel_rfl) Try.func38 (by kernel_rfl) (by kernel_rfl) (by kernel_rfl) (of_decide_eq_true (by kernel_rfl)) (of_decide_eq_true (by kernel_rfl)) (fun _ h => h) (fun x => by kernel_rfl)

/-! loop.example/g00358/impl.Make -/
def impl_Make.f (k : Nat) (a0 : Int × Int × List (Int × ByteArray × Int) × List (ByteArray × Int) × List (Int × ByteArray × ByteArray × Int)) (a1 : ByteArray) : Option ((Int × Int × List (Int × ByteArray × Int) × List (ByteArray × Int) × List (Int × ByteArray × ByteArray × Int)) × Int) :=
  (impl_DiskOk.f k a0).bind fun r1 => bif (!r1) then (some ((0, 0, [], [], []), 1)) else ((impl_copyDisk.f k a0).bind fun r2 => (impl_isName.f k a1).bind fun r3 => bif (!r3) then (some (r2, 1)) else ((impl_Disk_file.f k a0 a1).bind fun r4 => bif (decide (0 ≤ r4)) then (some (r2, 3)) else (bif (decide ((a0.2.2.1.length : Int) = 10)) then (some (r2, 4)) else (bif (decide ((a0.2.2.2.2.length : Int) = 20)) then (some (r2, 4)) else (bif (decide (a0.2.1 = 1000000)) then (some (r2, 4)) else ((app? (limOf 32) r2.2.2.1 ([(a0.2.1, (⟨#[]⟩ : ByteArray), 0)])).bind fun l5 => (app? (limOf 48) r2.2.2.2.2 ([(1, a1, (⟨#[]⟩ : ByteArray), a0.2.1)])).bind fun l6 => some ((r2.1, IntKind.wrap .i64 (r2.2.1 + 1), l5, r2.2.2.2.1, l6), 0)))))))

def impl_Make.sig : Sig := ⟨[.val true (.pair (.int .i64) (.pair (.int .i64) (.pair (.sl 57 (.pair (.int .i64) (.pair .str (.int .i64)))) (.pair (.sl 59 (.pair .str (.int .i64))) (.sl 61 (.pair (.int .i64) (.pair .str (.pair .str (.int .i64))))))))), .val false .str], [⟨true, (.pair (.int .i64) (.pair (.int .i64) (.pair (.sl 57 (.pair (.int .i64) (.pair .str (.int .i64)))) (.pair (.sl 59 (.pair .str (.int .i64))) (.sl 61 (.pair (.int .i64) (.pair .str (.pair .str (.int .i64))))))))), true⟩, ⟨false, (.int .i64), true⟩]⟩
def impl_Make.fn : Fn := ⟨impl_Make.sig, fun k (x : (Int × Int × List (Int × ByteArray × Int) × List (ByteArray × Int) × List (Int × ByteArray × ByteArray × Int)) × ByteArray) => impl_Make.f k x.1 x.2⟩
noncomputable def impl_Make.env (k : Nat) : Env := ⟨Try.prog, 63, fun t => bif Nat.beq t 57 then some (.pair (.int .i64) (.pair .str (.int .i64))) else bif Nat.beq t 61 then some (.pair (.int .i64) (.pair .str (.pair .str (.int .i64)))) else none, look [(26, impl_DiskOk.fn), (77, impl_copyDisk.fn), (98, impl_isName.fn), (91, impl_Disk_file.fn)], k, impl_Make.sig.pin, lookM []⟩
def impl_Make.ann : Ann := .seq .leaf (.seq (.seq .leaf (.cond (.seq .leaf .leaf) .leaf)) (.seq .leaf (.seq (.blk (.seq .leaf (.cond (.seq .leaf .leaf) (.seq .leaf (.cond (.seq .leaf .leaf) (.seq .leaf (.cond (.seq .leaf .leaf) .leaf))))))) (.seq .leaf (.seq .leaf (.seq .leaf (.seq .leaf .leaf)))))))
theorem impl_Make.ok (k : Nat) : FnOk Try.prog k 39 impl_Make.fn :=
  fnOk_of (E := impl_Make.env k) (ann := impl_Make.ann) ⟨look_cons (impl_DiskOk.ok k) (look_cons (impl_copyDisk.ok k) (look_cons (impl_isName.ok k) (look_cons (impl_Disk_file.ok k) (look_nil)))), lookM_nil⟩ (by kernel_rfl) Try.func39 (by kernel_rfl) (by kernel_rfl) (by kernel_rfl) (of_decide_eq_true (by kernel_rfl)) (of_decide_eq_true (by kernel_rfl)) (fun _ h => h) (fun x => by kernel_rfl)

/-! loop.example/g00358/laws.FnSafe -/
def laws_FnSafe.c1 (k : Nat) (y : List Int × Bool × ByteArray × ByteArray × ByteArray × Int × Int × List (Int × ByteArray × Int) × List (ByteArray × Int) × List (Int × ByteArray × ByteArray × Int)) : Option Bool :=
  (impl_Make.f k y.2.2.2.2.2 (⟨#[108, 97, 116, 101, 114]⟩ : ByteArray)).bind fun r1 => (spec_DrawCrash.f k y.1).bind fun r2 => (impl_Crash.f k r1.1 r2.2.1 r2.2.2).bind fun r3 => (impl_Load.f k r3 y.2.2.1).bind fun r4 => bif r4.2 then ((laws_begins.f k y.2.2.2.1 r4.1).bind fun r5 => bif r5 then ((cat? y.2.2.2.1 y.2.2.2.2.1).bind fun s6 => (laws_begins.f k r4.1 s6).bind fun r7 => bif r7 then ((spec_DiskOk.f k r3).bind fun r8 => some r8) else (some false)) else (some false)) else (some false)

def laws_FnSafe.c0 (k : Nat) (y : List Int × Bool × ByteArray × ByteArray × Int × Int × List (Int × ByteArray × Int) × List (ByteArray × Int) × List (Int × ByteArray × ByteArray × Int)) : Option Bool :=
  (spec_DrawHex.f k y.1).bind fun r1 => (impl_Add.f k y.2.2.2.2 y.2.2.1 r1).bind fun r2 => Option.bind (α := (List Int × Bool × ByteArray × ByteArray × ByteArray × Int × Int × List (Int × ByteArray × Int) × List (ByteArray × Int) × List (Int × ByteArray × ByteArray × Int)) ⊕ Bool) (bif (!decide (r2.2 = 0)) then (some (.inl (y.1, y.2.1, y.2.2.1, y.2.2.2.1, (⟨#[]⟩ : ByteArray), r2.1))) else (some (.inl (y.1, y.2.1, y.2.2.1, y.2.2.2.1, r1, r2.1)))) fun r => match r with | .inl y => laws_FnSafe.c1 k y | .inr o => some o

def laws_FnSafe.f (k : Nat) (a0 : List Int) : Option Bool :=
  (laws_big.f k a0).bind fun r1 => bif r1 then (some true) else ((laws_synced.f k a0).bind fun r2 => Option.bind (α := (List Int × Bool × ByteArray × ByteArray × Int × Int × List (Int × ByteArray × Int) × List (ByteArray × Int) × List (Int × ByteArray × ByteArray × Int)) ⊕ Bool) (bif (!r2.2.2.2) then ((spec_NewDisk.f k 500).bind fun r3 => (spec_Make.f k r3.1 (⟨#[108, 111, 103]⟩ : ByteArray)).bind fun r4 => (spec_Sync.f k r4.1 (⟨#[108, 111, 103]⟩ : ByteArray)).bind fun r5 => (spec_SyncDir.f k r5.1).bind fun r6 => some (.inl (a0, false, (⟨#[108, 111, 103]⟩ : ByteArray), (⟨#[]⟩ : ByteArray), r6.1))) else (some (.inl (a0, false, r2.2.1, r2.2.2.1, r2.1)))) fun r => match r with | .inl y => laws_FnSafe.c0 k y | .inr o => some o)

def laws_FnSafe.sig : Sig := ⟨[.val false (.sl 5 (.int .u8))], [⟨false, .bool, true⟩]⟩
def laws_FnSafe.fn : Fn := ⟨laws_FnSafe.sig, fun k (x : List Int) => laws_FnSafe.f k x⟩
noncomputable def laws_FnSafe.env (k : Nat) : Env := ⟨Try.prog, 97, fun t => none, look [(10, laws_big.fn), (32, laws_synced.fn), (33, spec_NewDisk.fn), (34, spec_Make.fn), (35, spec_Sync.fn), (36, spec_SyncDir.fn), (37, spec_DrawHex.fn), (38, impl_Add.fn), (39, impl_Make.fn), (23, spec_DrawCrash.fn), (24, impl_Crash.fn), (29, impl_Load.fn), (31, laws_begins.fn), (25, spec_DiskOk.fn)], k, laws_FnSafe.sig.pin, lookM []⟩
def laws_FnSafe.ann : Ann := .seq .leaf (.seq (.seq .leaf (.cond (.seq .leaf .leaf) .leaf)) (.seq .leaf (.seq (.cut [.slot 0 false (.sl 5 (.int .u8)) false, .slot 2 false .bool false, .ptr 3 4007, .slot 4 false .str false, .slot 5 false .str false, .box 4007 50 (.pair (.int .i64) (.pair (.int .i64) (.pair (.sl 57 (.pair (.int .i64) (.pair .str (.int .i64)))) (.pair (.sl 59 (.pair .str (.int .i64))) (.sl 61 (.pair (.int .i64) (.pair .str (.pair .str (.int .i64))))))))) true false] (.seq .leaf (.cond (.seq .leaf (.seq .leaf (.seq .leaf (.seq .leaf (.seq .leaf .leaf))))) .leaf))) (.seq .leaf (.seq .leaf (.seq (.cut [.slot 0 false (.sl 5 (.int .u8)) false, .slot 2 false .bool false, .slot 4 false .str false, .slot 5 false .str false, .slot 7 false .str false, .ptr 8 13007, .box 13007 50 (.pair (.int .i64) (.pair (.int .i64) (.pair (.sl 57 (.pair (.int .i64) (.pair .str (.int .i64)))) (.pair (.sl 59 (.pair .str (.int .i64))) (.sl 61 (.pair (.int .i64) (.pair .str (.pair .str (.int .i64))))))))) true false] (.seq .leaf (.cond .leaf .leaf))) (.seq .leaf (.seq .leaf (.seq .leaf (.seq .leaf (.seq .leaf .leaf)))))))))))
theorem laws_FnSafe.ok (k : Nat) : FnOk Try.prog k 6 laws_FnSafe.fn :=
  fnOk_of (E := laws_FnSafe.env k) (ann := laws_FnSafe.ann) ⟨look_cons (laws_big.ok k) (look_cons (laws_synced.ok k) (look_cons (spec_NewDisk.ok k) (look_cons (spec_Make.ok k) (look_cons (spec_Sync.ok k) (look_cons (spec_SyncDir.ok k) (look_cons (spec_DrawHex.ok k) (look_cons (impl_Add.ok k) (look_cons (impl_Make.ok k) (look_cons (spec_DrawCrash.ok k) (look_cons (impl_Crash.ok k) (look_cons (impl_Load.ok k) (look_cons (laws_begins.ok k) (look_cons (spec_DiskOk.ok k) (look_nil)))))))))))))), lookM_nil⟩ (by kernel_rfl) Try.func6 (by kernel_rfl) (by kernel_rfl) (by kernel_rfl) (of_decide_eq_true (by kernel_rfl)) (of_decide_eq_true (by kernel_rfl)) (fun _ h => h) (fun x => by kernel_rfl)

/-! loop.example/g00358/spec.l6Step -/
def spec_l6Step.f (k : Nat) (a0 : List Int × Int × Int) : Option ((Int × ByteArray × ByteArray × ByteArray) × List Int × Int × Int) :=
  (spec_l1Below.f k a0 8).bind fun r1 => (spec_l4DrawName.f k r1.2).bind fun r2 => (spec_l4DrawName.f k r2.2).bind fun r3 => (spec_l1Text.f k r3.2 12).bind fun r4 => some ((r1.1, r2.1, r3.1, r4.1), r4.2)

def spec_l6Step.sig : Sig := ⟨[.box 166 (.pair (.sl 5 (.int .u8)) (.pair (.int .i64) (.int .i64))) false true], [⟨true, (.pair (.int .i64) (.pair .str (.pair .str .str))), true⟩]⟩
def spec_l6Step.fn : Fn := ⟨spec_l6Step.sig, fun k (x : List Int × Int × Int) => spec_l6Step.f k x⟩
noncomputable def spec_l6Step.env (k : Nat) : Env := ⟨Try.prog, 12, fun t => none, look [(74, spec_l1Below.fn), (141, spec_l4DrawName.fn), (97, spec_l1Text.fn)], k, spec_l6Step.sig.pin, lookM []⟩
def spec_l6Step.ann : Ann := .seq .leaf (.seq .leaf .leaf)
theorem spec_l6Step.ok (k : Nat) : FnOk Try.prog k 99 spec_l6Step.fn :=
  fnOk_of (E := spec_l6Step.env k) (ann := spec_l6Step.ann) ⟨look_cons (spec_l1Below.ok k) (look_cons (spec_l4DrawName.ok k) (look_cons (spec_l1Text.ok k) (look_nil))), lookM_nil⟩ (by kernel_rfl) Try.func99 (by kernel_rfl) (by kernel_rfl) (by kernel_rfl) (of_decide_eq_true (by kernel_rfl)) (of_decide_eq_true (by kernel_rfl)) (fun _ h => h) (fun x => by kernel_rfl)

/-! loop.example/g00358/spec.DrawDoStep -/
def spec_DrawDoStep.f (k : Nat) (a0 : List Int) : Option ((Int × Int × List (Int × ByteArray × Int) × List (ByteArray × Int) × List (Int × ByteArray × ByteArray × Int)) × Int × ByteArray × ByteArray × ByteArray) :=
  (spec_l1New.f k a0).bind fun r1 => (spec_l6Step.f k r1).bind fun r2 => (spec_l1Size.f k a0 20).bind fun r3 => (spec_l4Some.f k r2.2 r3).bind fun r4 => some (r4.1, r2.1)

def spec_DrawDoStep.sig : Sig := ⟨[.val false (.sl 5 (.int .u8))], [⟨true, (.pair (.int .i64) (.pair (.int .i64) (.pair (.sl 57 (.pair (.int .i64) (.pair .str (.int .i64)))) (.pair (.sl 59 (.pair .str (.int .i64))) (.sl 61 (.pair (.int .i64) (.pair .str (.pair .str (.int .i64))))))))), true⟩, ⟨true, (.pair (.int .i64) (.pair .str (.pair .str .str))), true⟩]⟩
def spec_DrawDoStep.fn : Fn := ⟨spec_DrawDoStep.sig, fun k (x : List Int) => spec_DrawDoStep.f k x⟩
noncomputable def spec_DrawDoStep.env (k : Nat) : Env := ⟨Try.prog, 15, fun t => none, look [(99, spec_l6Step.fn), (76, spec_l1Size.fn), (75, spec_l4Some.fn)], k, spec_DrawDoStep.sig.pin, lookM [(58, spec_l1New.mk)]⟩
def spec_DrawDoStep.ann : Ann := .seq .leaf (.seq .leaf (.seq .leaf (.seq .leaf .leaf)))
theorem spec_DrawDoStep.ok (k : Nat) : FnOk Try.prog k 40 spec_DrawDoStep.fn :=
  fnOk_of (E := spec_DrawDoStep.env k) (ann := spec_DrawDoStep.ann) ⟨look_cons (spec_l6Step.ok k) (look_cons (spec_l1Size.ok k) (look_cons (spec_l4Some.ok k) (look_nil))), lookM_cons (spec_l1New.ok k) (lookM_nil)⟩ (by kernel_rfl) Try.func40 (by kernel_rfl) (by kernel_rfl) (by kernel_rfl) (of_decide_eq_true (by kernel_rfl)) (of_decide_eq_true (by kernel_rfl)) (fun _ h => h) (fun x => by kernel_rfl)

/-! loop.example/g00358/impl.Sync -/
def impl_Sync.f (k : Nat) (a0 : Int × Int × List (Int × ByteArray × Int) × List (ByteArray × Int) × List (Int × ByteArray × ByteArray × Int)) (a1 : ByteArray) : Option ((Int × Int × List (Int × ByteArray × Int) × List (ByteArray × Int) × List (Int × ByteArray × ByteArray × Int)) × Int) :=
  (impl_DiskOk.f k a0).bind fun r1 => bif (!r1) then (some ((0, 0, [], [], []), 1)) else ((impl_copyDisk.f k a0).bind fun r2 => (impl_Disk_file.f k a0 a1).bind fun r3 => (impl_isName.f k a1).bind fun r4 => bif (!r4) then (some (r2, 1)) else (bif (decide (r3 < 0)) then (some (r2, 2)) else ((inb? a0.2.2.1.length r3).bind fun j5 => (a0.2.2.1[j5]?).bind fun y6 => (inb? r2.2.2.1.length r3).bind fun j7 => (r2.2.2.1[j7]?).bind fun y8 => some ((r2.1, r2.2.1, r2.2.2.1.set j7 (y8.1, y8.2.1, (y6.2.1.size : Int)), r2.2.2.2), 0))))

def impl_Sync.sig : Sig := ⟨[.val true (.pair (.int .i64) (.pair (.int .i64) (.pair (.sl 57 (.pair (.int .i64) (.pair .str (.int .i64)))) (.pair (.sl 59 (.pair .str (.int .i64))) (.sl 61 (.pair (.int .i64) (.pair .str (.pair .str (.int .i64))))))))), .val false .str], [⟨true, (.pair (.int .i64) (.pair (.int .i64) (.pair (.sl 57 (.pair (.int .i64) (.pair .str (.int .i64)))) (.pair (.sl 59 (.pair .str (.int .i64))) (.sl 61 (.pair (.int .i64) (.pair .str (.pair .str (.int .i64))))))))), true⟩, ⟨false, (.int .i64), true⟩]⟩
def impl_Sync.fn : Fn := ⟨impl_Sync.sig, fun k (x : (Int × Int × List (Int × ByteArray × Int) × List (ByteArray × Int) × List (Int × ByteArray × ByteArray × Int)) × ByteArray) => impl_Sync.f k x.1 x.2⟩
noncomputable def impl_Sync.env (k : Nat) : Env := ⟨Try.prog, 39, fun t => none, look [(26, impl_DiskOk.fn), (77, impl_copyDisk.fn), (91, impl_Disk_file.fn), (98, impl_isName.fn)], k, impl_Sync.sig.pin, lookM []⟩
def impl_Sync.ann : Ann := .seq .leaf (.seq (.seq .leaf (.cond (.seq .leaf .leaf) .leaf)) (.seq .leaf (.seq .leaf (.seq (.blk (.seq .leaf (.cond (.seq .leaf .leaf) (.seq .leaf (.cond (.seq .leaf .leaf) .leaf))))) (.seq .leaf (.seq .leaf .leaf))))))
theorem impl_Sync.ok (k : Nat) : FnOk Try.prog k 100 impl_Sync.fn :=
  fnOk_of (E := impl_Sync.env k) (ann := impl_Sync.ann) ⟨look_cons (impl_DiskOk.ok k) (look_cons (impl_copyDisk.ok k) (look_cons (impl_Disk_file.ok k) (look_cons (impl_isName.ok k) (look_nil)))), lookM_nil⟩ (by kernel_rfl) Try.func100 (by kernel_rfl) (by kernel_rfl) (by kernel_rfl) (of_decide_eq_true (by kernel_rfl)) (of_decide_eq_true (by kernel_rfl)) (fun _ h => h) (fun x => by kernel_rfl)

/-! loop.example/g00358/impl.moved -/
def impl_moved.f (k : Nat) (a0 : Int × Int × List (Int × ByteArray × Int) × List (ByteArray × Int) × List (Int × ByteArray × ByteArray × Int)) (a1 : Int × ByteArray × ByteArray × Int) (a2 : Bool) : Option ((Int × Int × List (Int × ByteArray × Int) × List (ByteArray × Int) × List (Int × ByteArray × ByteArray × Int)) × Int) :=
  (impl_DiskOk.f k a0).bind fun r1 => bif (!r1) then (some ((0, 0, [], [], []), 1)) else ((impl_copyDisk.f k a0).bind fun r2 => bif (!a2) then (some (r2, 1)) else ((impl_Disk_file.f k a0 a1.2.1).bind fun r3 => bif (decide (r3 < 0)) then (some (r2, 2)) else (bif (decide ((a0.2.2.2.2.length : Int) = 20)) then (some (r2, 4)) else ((app? (limOf 48) r2.2.2.2.2 ([a1])).bind fun l4 => some ((r2.1, r2.2.1, r2.2.2.1, r2.2.2.2.1, l4), 0)))))

def impl_moved.sig : Sig := ⟨[.val true (.pair (.int .i64) (.pair (.int .i64) (.pair (.sl 57 (.pair (.int .i64) (.pair .str (.int .i64)))) (.pair (.sl 59 (.pair .str (.int .i64))) (.sl 61 (.pair (.int .i64) (.pair .str (.pair .str (.int .i64))))))))), .val true (.pair (.int .i64) (.pair .str (.pair .str (.int .i64)))), .val false .bool], [⟨true, (.pair (.int .i64) (.pair (.int .i64) (.pair (.sl 57 (.pair (.int .i64) (.pair .str (.int .i64)))) (.pair (.sl 59 (.pair .str (.int .i64))) (.sl 61 (.pair (.int .i64) (.pair .str (.pair .str (.int .i64))))))))), true⟩, ⟨false, (.int .i64), true⟩]⟩
def impl_moved.fn : Fn := ⟨impl_moved.sig, fun k (x : (Int × Int × List (Int × ByteArray × Int) × List (ByteArray × Int) × List (Int × ByteArray × ByteArray × Int)) × (Int × ByteArray × ByteArray × Int) × Bool) => impl_moved.f k x.1 x.2.1 x.2.2⟩
noncomputable def impl_moved.env (k : Nat) : Env := ⟨Try.prog, 39, fun t => bif Nat.beq t 61 then some (.pair (.int .i64) (.pair .str (.pair .str (.int .i64)))) else none, look [(26, impl_DiskOk.fn), (77, impl_copyDisk.fn), (91, impl_Disk_file.fn)], k, impl_moved.sig.pin, lookM []⟩
def impl_moved.ann : Ann := .seq .leaf (.seq (.seq .leaf (.cond (.seq .leaf .leaf) .leaf)) (.seq .leaf (.seq (.blk (.seq .leaf (.cond (.seq .leaf .leaf) (.seq .leaf (.cond (.seq .leaf .leaf) (.seq .leaf (.cond (.seq .leaf .leaf) .leaf))))))) (.seq .leaf (.seq .leaf .leaf)))))
theorem impl_moved.ok (k : Nat) : FnOk Try.prog k 159 impl_moved.fn :=
  fnOk_of (E := impl_moved.env k) (ann := impl_moved.ann) ⟨look_cons (impl_DiskOk.ok k) (look_cons (impl_copyDisk.ok k) (look_cons (impl_Disk_file.ok k) (look_nil))), lookM_nil⟩ (by kernel_rfl) Try.func159 (by kernel_rfl) (by kernel_rfl) (by kernel_rfl) (of_decide_eq_true (by kernel_rfl)) (of_decide_eq_true (by kernel_rfl)) (fun _ h => h) (fun x => by kernel_rfl)

/-! loop.example/g00358/impl.Rename -/
def impl_Rename.f (k : Nat) (a0 : Int × Int × List (Int × ByteArray × Int) × List (ByteArray × Int) × List (Int × ByteArray × ByteArray × Int)) (a1 : ByteArray) (a2 : ByteArray) : Option ((Int × Int × List (Int × ByteArray × Int) × List (ByteArray × Int) × List (Int × ByteArray × ByteArray × Int)) × Int) :=
  (impl_isName.f k a1).bind fun r1 => bif r1 then ((impl_isName.f k a2).bind fun r2 => bif r2 then ((impl_moved.f k a0 (2, a1, a2, 0) (!decide (a1 = a2))).bind fun r3 => some r3) else ((impl_moved.f k a0 (2, a1, a2, 0) false).bind fun r4 => some r4)) else ((impl_moved.f k a0 (2, a1, a2, 0) false).bind fun r5 => some r5)

def impl_Rename.sig : Sig := ⟨[.val true (.pair (.int .i64) (.pair (.int .i64) (.pair (.sl 57 (.pair (.int .i64) (.pair .str (.int .i64)))) (.pair (.sl 59 (.pair .str (.int .i64))) (.sl 61 (.pair (.int .i64) (.pair .str (.pair .str (.int .i64))))))))), .val false .str, .val false .str], [⟨true, (.pair (.int .i64) (.pair (.int .i64) (.pair (.sl 57 (.pair (.int .i64) (.pair .str (.int .i64)))) (.pair (.sl 59 (.pair .str (.int .i64))) (.sl 61 (.pair (.int .i64) (.pair .str (.pair .str (.int .i64))))))))), true⟩, ⟨false, (.int .i64), true⟩]⟩
def impl_Rename.fn : Fn := ⟨impl_Rename.sig, fun k (x : (Int × Int × List (Int × ByteArray × Int) × List (ByteArray × Int) × List (Int × ByteArray × ByteArray × Int)) × ByteArray × ByteArray) => impl_Rename.f k x.1 x.2.1 x.2.2⟩
noncomputable def impl_Rename.env (k : Nat) : Env := ⟨Try.prog, 26, fun t => none, look [(98, impl_isName.fn), (159, impl_moved.fn)], k, impl_Rename.sig.pin, lookM []⟩
def impl_Rename.ann : Ann := .seq .leaf (.seq .leaf .leaf)
theorem impl_Rename.ok (k : Nat) : FnOk Try.prog k 101 impl_Rename.fn :=
  fnOk_of (E := impl_Rename.env k) (ann := impl_Rename.ann) ⟨look_cons (impl_isName.ok k) (look_cons (impl_moved.ok k) (look_nil)), lookM_nil⟩ (by kernel_rfl) Try.func101 (by kernel_rfl) (by kernel_rfl) (by kernel_rfl) (of_decide_eq_true (by kernel_rfl)) (of_decide_eq_true (by kernel_rfl)) (fun _ h => h) (fun x => by kernel_rfl)

/-! loop.example/g00358/impl.Drop -/
def impl_Drop.f (k : Nat) (a0 : Int × Int × List (Int × ByteArray × Int) × List (ByteArray × Int) × List (Int × ByteArray × ByteArray × Int)) (a1 : ByteArray) : Option ((Int × Int × List (Int × ByteArray × Int) × List (ByteArray × Int) × List (Int × ByteArray × ByteArray × Int)) × Int) :=
  (impl_isName.f k a1).bind fun r1 => (impl_moved.f k a0 (3, a1, (⟨#[]⟩ : ByteArray), 0) r1).bind fun r2 => some r2

def impl_Drop.sig : Sig := ⟨[.val true (.pair (.int .i64) (.pair (.int .i64) (.pair (.sl 57 (.pair (.int .i64) (.pair .str (.int .i64)))) (.pair (.sl 59 (.pair .str (.int .i64))) (.sl 61 (.pair (.int .i64) (.pair .str (.pair .str (.int .i64))))))))), .val false .str], [⟨true, (.pair (.int .i64) (.pair (.int .i64) (.pair (.sl 57 (.pair (.int .i64) (.pair .str (.int .i64)))) (.pair (.sl 59 (.pair .str (.int .i64))) (.sl 61 (.pair (.int .i64) (.pair .str (.pair .str (.int .i64))))))))), true⟩, ⟨false, (.int .i64), true⟩]⟩
def impl_Drop.fn : Fn := ⟨impl_Drop.sig, fun k (x : (Int × Int × List (Int × ByteArray × Int) × List (ByteArray × Int) × List (Int × ByteArray × ByteArray × Int)) × ByteArray) => impl_Drop.f k x.1 x.2⟩
noncomputable def impl_Drop.env (k : Nat) : Env := ⟨Try.prog, 14, fun t => none, look [(98, impl_isName.fn), (159, impl_moved.fn)], k, impl_Drop.sig.pin, lookM []⟩
def impl_Drop.ann : Ann := .seq .leaf (.seq .leaf .leaf)
theorem impl_Drop.ok (k : Nat) : FnOk Try.prog k 102 impl_Drop.fn :=
  fnOk_of (E := impl_Drop.env k) (ann := impl_Drop.ann) ⟨look_cons (impl_isName.ok k) (look_cons (impl_moved.ok k) (look_nil)), lookM_nil⟩ (by kernel_rfl) Try.func102 (by kernel_rfl) (by kernel_rfl) (by kernel_rfl) (of_decide_eq_true (by kernel_rfl)) (of_decide_eq_true (by kernel_rfl)) (fun _ h => h) (fun x => by kernel_rfl)

/-! loop.example/g00358/impl.SyncDir -/
def impl_SyncDir.f (k : Nat) (a0 : Int × Int × List (Int × ByteArray × Int) × List (ByteArray × Int) × List (Int × ByteArray × ByteArray × Int)) : Option ((Int × Int × List (Int × ByteArray × Int) × List (ByteArray × Int) × List (Int × ByteArray × ByteArray × Int)) × Int) :=
  (impl_DiskOk.f k a0).bind fun r1 => bif (!r1) then (some ((0, 0, [], [], []), 1)) else ((impl_copyDisk.f k a0).bind fun r2 => (impl_Disk_now.f k a0).bind fun r3 => (impl_swept.f k (r2.1, r2.2.1, r2.2.2.1, r3, [])).bind fun r4 => some (r4, 0))

def impl_SyncDir.sig : Sig := ⟨[.val true (.pair (.int .i64) (.pair (.int .i64) (.pair (.sl 57 (.pair (.int .i64) (.pair .str (.int .i64)))) (.pair (.sl 59 (.pair .str (.int .i64))) (.sl 61 (.pair (.int .i64) (.pair .str (.pair .str (.int .i64)))))))))], [⟨true, (.pair (.int .i64) (.pair (.int .i64) (.pair (.sl 57 (.pair (.int .i64) (.pair .str (.int .i64)))) (.pair (.sl 59 (.pair .str (.int .i64))) (.sl 61 (.pair (.int .i64) (.pair .str (.pair .str (.int .i64))))))))), true⟩, ⟨false, (.int .i64), true⟩]⟩
def impl_SyncDir.fn : Fn := ⟨impl_SyncDir.sig, fun k (x : Int × Int × List (Int × ByteArray × Int) × List (ByteArray × Int) × List (Int × ByteArray × ByteArray × Int)) => impl_SyncDir.f k x⟩
noncomputable def impl_SyncDir.env (k : Nat) : Env := ⟨Try.prog, 17, fun t => none, look [(26, impl_DiskOk.fn), (77, impl_copyDisk.fn), (89, impl_Disk_now.fn), (79, impl_swept.fn)], k, impl_SyncDir.sig.pin, lookM []⟩
def impl_SyncDir.ann : Ann := .seq .leaf (.seq (.seq .leaf (.cond (.seq .leaf .leaf) .leaf)) (.seq .leaf (.seq .leaf (.seq .leaf (.seq .leaf .leaf)))))
theorem impl_SyncDir.ok (k : Nat) : FnOk Try.prog k 103 impl_SyncDir.fn :=
  fnOk_of (E := impl_SyncDir.env k) (ann := impl_SyncDir.ann) ⟨look_cons (impl_DiskOk.ok k) (look_cons (impl_copyDisk.ok k) (look_cons (impl_Disk_now.ok k) (look_cons (impl_swept.ok k) (look_nil)))), lookM_nil⟩ (by kernel_rfl) Try.func103 (by kernel_rfl) (by kernel_rfl) (by kernel_rfl) (of_decide_eq_true (by kernel_rfl)) (of_decide_eq_true (by kernel_rfl)) (fun _ h => h) (fun x => by kernel_rfl)

/-! loop.example/g00358/impl.DoStep -/
def impl_DoStep.f (k : Nat) (a0 : Int × Int × List (Int × ByteArray × Int) × List (ByteArray × Int) × List (Int × ByteArray × ByteArray × Int)) (a1 : Int × ByteArray × ByteArray × ByteArray) : Option ((Int × Int × List (Int × ByteArray × Int) × List (ByteArray × Int) × List (Int × ByteArray × ByteArray × Int)) × Int) :=
  bif (decide (a1.1 = 1)) then ((impl_Make.f k a0 a1.2.1).bind fun r1 => some r1) else (bif (decide (a1.1 = 2)) then ((impl_Add.f k a0 a1.2.1 a1.2.2.2).bind fun r2 => some r2) else (bif (decide (a1.1 = 3)) then ((impl_Sync.f k a0 a1.2.1).bind fun r3 => some r3) else (bif (decide (a1.1 = 4)) then ((impl_Rename.f k a0 a1.2.1 a1.2.2.1).bind fun r4 => some r4) else (bif (decide (a1.1 = 5)) then ((impl_Drop.f k a0 a1.2.1).bind fun r5 => some r5) else (bif (decide (a1.1 = 6)) then ((impl_SyncDir.f k a0).bind fun r6 => some r6) else ((impl_DiskOk.f k a0).bind fun r7 => bif (!r7) then (some ((0, 0, [], [], []), 1)) else ((impl_copyDisk.f k a0).bind fun r8 => some (r8, 1))))))))

def impl_DoStep.sig : Sig := ⟨[.val true (.pair (.int .i64) (.pair (.int .i64) (.pair (.sl 57 (.pair (.int .i64) (.pair .str (.int .i64)))) (.pair (.sl 59 (.pair .str (.int .i64))) (.sl 61 (.pair (.int .i64) (.pair .str (.pair .str (.int .i64))))))))), .val true (.pair (.int .i64) (.pair .str (.pair .str .str)))], [⟨true, (.pair (.int .i64) (.pair (.int .i64) (.pair (.sl 57 (.pair (.int .i64) (.pair .str (.int .i64)))) (.pair (.sl 59 (.pair .str (.int .i64))) (.sl 61 (.pair (.int .i64) (.pair .str (.pair .str (.int .i64))))))))), true⟩, ⟨false, (.int .i64), true⟩]⟩
def impl_DoStep.fn : Fn := ⟨impl_DoStep.sig, fun k (x : (Int × Int × List (Int × ByteArray × Int) × List (ByteArray × Int) × List (Int × ByteArray × ByteArray × Int)) × Int × ByteArray × ByteArray × ByteArray) => impl_DoStep.f k x.1 x.2⟩
noncomputable def impl_DoStep.env (k : Nat) : Env := ⟨Try.prog, 64, fun t => none, look [(39, impl_Make.fn), (38, impl_Add.fn), (100, impl_Sync.fn), (101, impl_Rename.fn), (102, impl_Drop.fn), (103, impl_SyncDir.fn), (26, impl_DiskOk.fn), (77, impl_copyDisk.fn)], k, impl_DoStep.sig.pin, lookM []⟩
def impl_DoStep.ann : Ann := .seq .leaf (.seq (.seq .leaf (.blk (.seq .leaf (.cond (.seq .leaf .leaf) (.seq .leaf (.cond (.seq .leaf .leaf) (.seq .leaf (.cond (.seq .leaf .leaf) (.seq .leaf (.cond (.seq .leaf .leaf) (.seq .leaf (.cond (.seq .leaf .leaf) (.seq .leaf (.cond (.seq .leaf .leaf) .leaf)))))))))))))) (.seq (.seq .leaf (.cond (.seq .leaf .leaf) .leaf)) (.seq .leaf .leaf)))
theorem impl_DoStep.ok (k : Nat) : FnOk Try.prog k 41 impl_DoStep.fn :=
  fnOk_of (E := impl_DoStep.env k) (ann := impl_DoStep.ann) ⟨look_cons (impl_Make.ok k) (look_cons (impl_Add.ok k) (look_cons (impl_Sync.ok k) (look_cons (impl_Rename.ok k) (look_cons (impl_Drop.ok k) (look_cons (impl_SyncDir.ok k) (look_cons (impl_DiskOk.ok k) (look_cons (impl_copyDisk.ok k) (look_nil)))))))), lookM_nil⟩ (by kernel_rfl) Try.func41 (by kernel_rfl) (by kernel_rfl) (by kernel_rfl) (of_decide_eq_true (by kernel_rfl)) (of_decide_eq_true (by kernel_rfl)) (fun _ h => h) (fun x => by kernel_rfl)

/-! loop.example/g00358/laws.sameDisk -/
def laws_sameDisk.b0 (k : Nat) (s : Bool × Int × (Int × Int × List (Int × ByteArray × Int) × List (ByteArray × Int) × List (Int × ByteArray × ByteArray × Int)) × Int × Int × List (Int × ByteArray × Int) × List (ByteArray × Int) × List (Int × ByteArray × ByteArray × Int)) : Option ((Bool × Int × (Int × Int × List (Int × ByteArray × Int) × List (ByteArray × Int) × List (Int × ByteArray × ByteArray × Int)) × Int × Int × List (Int × ByteArray × Int) × List (ByteArray × Int) × List (Int × ByteArray × ByteArray × Int)) ⊕ (Bool × (Int × Int × List (Int × ByteArray × Int) × List (ByteArray × Int) × List (Int × ByteArray × ByteArray × Int)) × Int × Int × List (Int × ByteArray × Int) × List (ByteArray × Int) × List (Int × ByteArray × ByteArray × Int)) ⊕ Bool) :=
  bif (decide (s.2.1 < (s.2.2.1.2.2.1.length : Int))) then ((inb? s.2.2.1.2.2.1.length s.2.1).bind fun j1 => (s.2.2.1.2.2.1[j1]?).bind fun y2 => (inb? s.2.2.2.2.2.1.length s.2.1).bind fun j3 => (s.2.2.2.2.2.1[j3]?).bind fun y4 => bif (!(decide (y2.1 = y4.1) && (decide (y2.2.1 = y4.2.1) && (decide (y2.2.2 = y4.2.2) && true)))) then (some (.inr (.inr false))) else (some (.inl (s.1, IntKind.wrap .i64 (s.2.1 + 1), s.2.2)))) else (some (.inr (.inl (s.1, s.2.2))))

def laws_sameDisk.b1 (k : Nat) (s : Bool × Int × (Int × Int × List (Int × ByteArray × Int) × List (ByteArray × Int) × List (Int × ByteArray × ByteArray × Int)) × Int × Int × List (Int × ByteArray × Int) × List (ByteArray × Int) × List (Int × ByteArray × ByteArray × Int)) : Option ((Bool × Int × (Int × Int × List (Int × ByteArray × Int) × List (ByteArray × Int) × List (Int × ByteArray × ByteArray × Int)) × Int × Int × List (Int × ByteArray × Int) × List (ByteArray × Int) × List (Int × ByteArray × ByteArray × Int)) ⊕ (Bool × (Int × Int × List (Int × ByteArray × Int) × List (ByteArray × Int) × List (Int × ByteArray × ByteArray × Int)) × Int × Int × List (Int × ByteArray × Int) × List (ByteArray × Int) × List (Int × ByteArray × ByteArray × Int)) ⊕ Bool) :=
  bif (decide (s.2.1 < (s.2.2.1.2.2.2.1.length : Int))) then ((inb? s.2.2.1.2.2.2.1.length s.2.1).bind fun j1 => (s.2.2.1.2.2.2.1[j1]?).bind fun y2 => (inb? s.2.2.2.2.2.2.1.length s.2.1).bind fun j3 => (s.2.2.2.2.2.2.1[j3]?).bind fun y4 => bif (!(decide (y2.1 = y4.1) && (decide (y2.2 = y4.2) && true))) then (some (.inr (.inr false))) else (some (.inl (s.1, IntKind.wrap .i64 (s.2.1 + 1), s.2.2)))) else (some (.inr (.inl (s.1, s.2.2))))

def laws_sameDisk.b2 (k : Nat) (s : Bool × Int × (Int × Int × List (Int × ByteArray × Int) × List (ByteArray × Int) × List (Int × ByteArray × ByteArray × Int)) × Int × Int × List (Int × ByteArray × Int) × List (ByteArray × Int) × List (Int × ByteArray × ByteArray × Int)) : Option ((Bool × Int × (Int × Int × List (Int × ByteArray × Int) × List (ByteArray × Int) × List (Int × ByteArray × ByteArray × Int)) × Int × Int × List (Int × ByteArray × Int) × List (ByteArray × Int) × List (Int × ByteArray × ByteArray × Int)) ⊕ Bool ⊕ Bool) :=
  bif (decide (s.2.1 < (s.2.2.1.2.2.2.2.length : Int))) then ((inb? s.2.2.1.2.2.2.2.length s.2.1).bind fun j1 => (s.2.2.1.2.2.2.2[j1]?).bind fun y2 => (inb? s.2.2.2.2.2.2.2.length s.2.1).bind fun j3 => (s.2.2.2.2.2.2.2[j3]?).bind fun y4 => bif (!(decide (y2.1 = y4.1) && (decide (y2.2.1 = y4.2.1) && (decide (y2.2.2.1 = y4.2.2.1) && (decide (y2.2.2.2 = y4.2.2.2) && true))))) then (some (.inr (.inr false))) else (some (.inl (s.1, IntKind.wrap .i64 (s.2.1 + 1), s.2.2)))) else (some (.inr (.inl s.1)))

def laws_sameDisk.d2 (k : Nat) (y : Bool) : Option Bool :=
  some true

def laws_sameDisk.d1 (k : Nat) (y : Bool × (Int × Int × List (Int × ByteArray × Int) × List (ByteArray × Int) × List (Int × ByteArray × ByteArray × Int)) × Int × Int × List (Int × ByteArray × Int) × List (ByteArray × Int) × List (Int × ByteArray × ByteArray × Int)) : Option Bool :=
  (iter (X := Bool ⊕ Bool) (laws_sameDisk.b2 k) k (y.1, 0, y.2)).bind fun r => match r with | .inl y => laws_sameDisk.d2 k y | .inr o => some o

def laws_sameDisk.d0 (k : Nat) (y : Bool × (Int × Int × List (Int × ByteArray × Int) × List (ByteArray × Int) × List (Int × ByteArray × ByteArray × Int)) × Int × Int × List (Int × ByteArray × Int) × List (ByteArray × Int) × List (Int × ByteArray × ByteArray × Int)) : Option Bool :=
  (iter (X := (Bool × (Int × Int × List (Int × ByteArray × Int) × List (ByteArray × Int) × List (Int × ByteArray × ByteArray × Int)) × Int × Int × List (Int × ByteArray × Int) × List (ByteArray × Int) × List (Int × ByteArray × ByteArray × Int)) ⊕ Bool) (laws_sameDisk.b1 k) k (y.1, 0, y.2)).bind fun r => match r with | .inl y => laws_sameDisk.d1 k y | .inr o => some o

def laws_sameDisk.f (k : Nat) (a0 : Int × Int × List (Int × ByteArray × Int) × List (ByteArray × Int) × List (Int × ByteArray × ByteArray × Int)) (a1 : Int × Int × List (Int × ByteArray × Int) × List (ByteArray × Int) × List (Int × ByteArray × ByteArray × Int)) : Option Bool :=
  bif (!decide (a0.1 = a1.1)) then (some false) else (bif (!decide (a0.2.1 = a1.2.1)) then (some false) else (bif (!decide ((a0.2.2.1.length : Int) = (a1.2.2.1.length : Int))) then (some false) else (bif (!decide ((a0.2.2.2.1.length : Int) = (a1.2.2.2.1.length : Int))) then (some false) else (bif (!decide ((a0.2.2.2.2.length : Int) = (a1.2.2.2.2.length : Int))) then (some false) else ((iter (X := (Bool × (Int × Int × List (Int × ByteArray × Int) × List (ByteArray × Int) × List (Int × ByteArray × ByteArray × Int)) × Int × Int × List (Int × ByteArray × Int) × List (ByteArray × Int) × List (Int × ByteArray × ByteArray × Int)) ⊕ Bool) (laws_sameDisk.b0 k) k (false, 0, a0, a1)).bind fun r => match r with | .inl y => laws_sameDisk.d0 k y | .inr o => some o)))))

def laws_sameDisk.sig : Sig := ⟨[.val true (.pair (.int .i64) (.pair (.int .i64) (.pair (.sl 57 (.pair (.int .i64) (.pair .str (.int .i64)))) (.pair (.sl 59 (.pair .str (.int .i64))) (.sl 61 (.pair (.int .i64) (.pair .str (.pair .str (.int .i64))))))))), .val true (.pair (.int .i64) (.pair (.int .i64) (.pair (.sl 57 (.pair (.int .i64) (.pair .str (.int .i64)))) (.pair (.sl 59 (.pair .str (.int .i64))) (.sl 61 (.pair (.int .i64) (.pair .str (.pair .str (.int .i64)))))))))], [⟨false, .bool, true⟩]⟩
def laws_sameDisk.fn : Fn := ⟨laws_sameDisk.sig, fun k (x : (Int × Int × List (Int × ByteArray × Int) × List (ByteArray × Int) × List (Int × ByteArray × ByteArray × Int)) × Int × Int × List (Int × ByteArray × Int) × List (ByteArray × Int) × List (Int × ByteArray × ByteArray × Int)) => laws_sameDisk.f k x.1 x.2⟩
noncomputable def laws_sameDisk.env (k : Nat) : Env := ⟨Try.prog, 101, fun t => none, look [], k, laws_sameDisk.sig.pin, lookM []⟩
def laws_sameDisk.ann : Ann := .seq .leaf (.seq (.seq .leaf (.cond (.seq .leaf .leaf) .leaf)) (.seq (.seq .leaf (.loop [.ptr 2 1000, .ptr 3 1001, .slot 4 false .bool false, .slot 5 false (.int .i64) false, .box 1000 50 (.pair (.int .i64) (.pair (.int .i64) (.pair (.sl 57 (.pair (.int .i64) (.pair .str (.int .i64)))) (.pair (.sl 59 (.pair .str (.int .i64))) (.sl 61 (.pair (.int .i64) (.pair .str (.pair .str (.int .i64))))))))) false false, .box 1001 50 (.pair (.int .i64) (.pair (.int .i64) (.pair (.sl 57 (.pair (.int .i64) (.pair .str (.int .i64)))) (.pair (.sl 59 (.pair .str (.int .i64))) (.sl 61 (.pair (.int .i64) (.pair .str (.pair .str (.int .i64))))))))) false false] [.ptr 2 1000, .ptr 3 1001, .slot 4 false .bool false, .box 1000 50 (.pair (.int .i64) (.pair (.int .i64) (.pair (.sl 57 (.pair (.int .i64) (.pair .str (.int .i64)))) (.pair (.sl 59 (.pair .str (.int .i64))) (.sl 61 (.pair (.int .i64) (.pair .str (.pair .str (.int .i64))))))))) false false, .box 1001 50 (.pair (.int .i64) (.pair (.int .i64) (.pair (.sl 57 (.pair (.int .i64) (.pair .str (.int .i64)))) (.pair (.sl 59 (.pair .str (.int .i64))) (.sl 61 (.pair (.int .i64) (.pair .str (.pair .str (.int .i64))))))))) false false] (.seq (.seq .leaf (.cond .leaf .leaf)) (.seq (.blk (.seq .leaf (.cond (.seq .leaf .leaf) .leaf))) .leaf)))) (.seq (.seq .leaf (.loop [.ptr 2 1000, .ptr 3 1001, .slot 4 false .bool false, .slot 6 false (.int .i64) false, .box 1000 50 (.pair (.int .i64) (.pair (.int .i64) (.pair (.sl 57 (.pair (.int .i64) (.pair .str (.int .i64)))) (.pair (.sl 59 (.pair .str (.int .i64))) (.sl 61 (.pair (.int .i64) (.pair .str (.pair .str (.int .i64))))))))) false false, .box 1001 50 (.pair (.int .i64) (.pair (.int .i64) (.pair (.sl 57 (.pair (.int .i64) (.pair .str (.int .i64)))) (.pair (.sl 59 (.pair .str (.int .i64))) (.sl 61 (.pair (.int .i64) (.pair .str (.pair .str (.int .i64))))))))) false false] [.ptr 2 1000, .ptr 3 1001, .slot 4 false .bool false, .box 1000 50 (.pair (.int .i64) (.pair (.int .i64) (.pair (.sl 57 (.pair (.int .i64) (.pair .str (.int .i64)))) (.pair (.sl 59 (.pair .str (.int .i64))) (.sl 61 (.pair (.int .i64) (.pair .str (.pair .str (.int .i64))))))))) false false, .box 1001 50 (.pair (.int .i64) (.pair (.int .i64) (.pair (.sl 57 (.pair (.int .i64) (.pair .str (.int .i64)))) (.pair (.sl 59 (.pair .str (.int .i64))) (.sl 61 (.pair (.int .i64) (.pair .str (.pair .str (.int .i64))))))))) false false] (.seq (.seq .leaf (.cond .leaf .leaf)) (.seq (.blk (.seq .leaf (.cond (.seq .leaf .leaf) .leaf))) .leaf)))) (.seq (.seq .leaf (.loop [.ptr 2 1000, .ptr 3 1001, .slot 4 false .bool false, .slot 7 false (.int .i64) false, .box 1000 50 (.pair (.int .i64) (.pair (.int .i64) (.pair (.sl 57 (.pair (.int .i64) (.pair .str (.int .i64)))) (.pair (.sl 59 (.pair .str (.int .i64))) (.sl 61 (.pair (.int .i64) (.pair .str (.pair .str (.int .i64))))))))) false false, .box 1001 50 (.pair (.int .i64) (.pair (.int .i64) (.pair (.sl 57 (.pair (.int .i64) (.pair .str (.int .i64)))) (.pair (.sl 59 (.pair .str (.int .i64))) (.sl 61 (.pair (.int .i64) (.pair .str (.pair .str (.int .i64))))))))) false false] [.slot 4 false .bool false] (.seq (.seq .leaf (.cond .leaf .leaf)) (.seq (.blk (.seq .leaf (.cond (.seq .leaf .leaf) .leaf))) .leaf)))) (.seq .leaf .leaf)))))
theorem laws_sameDisk.ok (k : Nat) : FnOk Try.prog k 42 laws_sameDisk.fn :=
  fnOk_of (E := laws_sameDisk.env k) (ann := laws_sameDisk.ann) ⟨look_nil, lookM_nil⟩ (by kernel_rfl) Try.func42 (by kernel_rfl) (by kernel_rfl) (by kernel_rfl) (of_decide_eq_true (by kernel_rfl)) (of_decide_eq_true (by kernel_rfl)) (fun _ h => h) (fun x => by kernel_rfl)

/-! loop.example/g00358/laws.at -/
def laws_at.f (k : Nat) (a0 : List Int) (a1 : Int) : Option Int :=
  bif (decide (a1 < (a0.length : Int))) then ((inb? a0.length a1).bind fun j1 => (a0[j1]?).bind fun y2 => some (IntKind.wrap .i64 (y2))) else (some (Int.tmod (IntKind.wrap .i64 ((IntKind.wrap .i64 (a1 * 37)) + (IntKind.wrap .i64 ((a0.length : Int) * 11)))) 256))

def laws_at.sig : Sig := ⟨[.val false (.sl 5 (.int .u8)), .val false (.int .i64)], [⟨false, (.int .i64), true⟩]⟩
def laws_at.fn : Fn := ⟨laws_at.sig, fun k (x : List Int × Int) => laws_at.f k x.1 x.2⟩
noncomputable def laws_at.env (k : Nat) : Env := ⟨Try.prog, 21, fun t => none, look [], k, laws_at.sig.pin, lookM []⟩
def laws_at.ann : Ann := .seq .leaf (.seq (.seq .leaf (.cond (.seq .leaf .leaf) .leaf)) (.seq .leaf .leaf))
theorem laws_at.ok (k : Nat) : FnOk Try.prog k 43 laws_at.fn :=
  fnOk_of (E := laws_at.env k) (ann := laws_at.ann) ⟨look_nil, lookM_nil⟩ (by kernel_rfl) Try.func43 (by kernel_rfl) (by kernel_rfl) (by kernel_rfl) (of_decide_eq_true (by kernel_rfl)) (of_decide_eq_true (by kernel_rfl)) (fun _ h => h) (fun x => by kernel_rfl)

/-! loop.example/g00358/laws.FnDiskCalls -/
def laws_FnDiskCalls.c0 (k : Nat) (y : List Int × Bool × Int × Int × List (Int × ByteArray × Int) × List (ByteArray × Int) × List (Int × ByteArray × ByteArray × Int)) : Option Bool :=
  (spec_DrawCrash.f k y.1).bind fun r1 => (impl_Crash.f k y.2.2 r1.2.1 r1.2.2).bind fun r2 => (laws_at.f k y.1 1).bind fun r3 => (laws_at.f k y.1 2).bind fun r4 => (laws_at.f k y.1 3).bind fun r5 => (impl_Crash.f k r2 r3 ([r4, r5])).bind fun r6 => (spec_DiskOk.f k r2).bind fun r7 => bif r7 then ((laws_sameDisk.f k r2 r6).bind fun r8 => bif r8 then (some (decide ((r2.2.2.2.2.length : Int) = 0))) else (some false)) else (some false)

def laws_FnDiskCalls.f (k : Nat) (a0 : List Int) : Option Bool :=
  (laws_big.f k a0).bind fun r1 => bif r1 then (some true) else ((spec_DrawDoStep.f k a0).bind fun r2 => (impl_DoStep.f k r2.1 r2.2).bind fun r3 => (spec_DiskOk.f k r2.1).bind fun r4 => bif (!r4) then (bif (decide (r3.2 = 1)) then ((impl_DiskOk.f k r3.1).bind fun r5 => some (!r5)) else (some false)) else (Option.bind (α := (List Int × Bool × Int × Int × List (Int × ByteArray × Int) × List (ByteArray × Int) × List (Int × ByteArray × ByteArray × Int)) ⊕ Bool) ((spec_DiskOk.f k r3.1).bind fun r6 => bif (!r6) then (some (.inr false)) else (bif (!decide (r3.2 = 0)) then ((laws_sameDisk.f k r3.1 r2.1).bind fun r7 => bif (!r7) then (some (.inr false)) else (some (.inl (a0, false, r3.1)))) else (some (.inl (a0, false, r3.1))))) fun r => match r with | .inl y => laws_FnDiskCalls.c0 k y | .inr o => some o))

def laws_FnDiskCalls.sig : Sig := ⟨[.val false (.sl 5 (.int .u8))], [⟨false, .bool, true⟩]⟩
def laws_FnDiskCalls.fn : Fn := ⟨laws_FnDiskCalls.sig, fun k (x : List Int) => laws_FnDiskCalls.f k x⟩
noncomputable def laws_FnDiskCalls.env (k : Nat) : Env := ⟨Try.prog, 82, fun t => bif Nat.beq t 3 then some (.int .i64) else none, look [(10, laws_big.fn), (40, spec_DrawDoStep.fn), (41, impl_DoStep.fn), (25, spec_DiskOk.fn), (26, impl_DiskOk.fn), (42, laws_sameDisk.fn), (23, spec_DrawCrash.fn), (24, impl_Crash.fn), (43, laws_at.fn)], k, laws_FnDiskCalls.sig.pin, lookM []⟩
def laws_FnDiskCalls.ann : Ann := .seq .leaf (.seq (.seq .leaf (.cond (.seq .leaf .leaf) .leaf)) (.seq .leaf (.seq .leaf (.seq .leaf (.seq (.seq .leaf (.cond (.seq .leaf .leaf) .leaf)) (.seq (.cut [.slot 0 false (.sl 5 (.int .u8)) false, .slot 2 false .bool false, .ptr 5 5006, .box 5006 50 (.pair (.int .i64) (.pair (.int .i64) (.pair (.sl 57 (.pair (.int .i64) (.pair .str (.int .i64)))) (.pair (.sl 59 (.pair .str (.int .i64))) (.sl 61 (.pair (.int .i64) (.pair .str (.pair .str (.int .i64))))))))) true false] (.seq .leaf (.cond (.seq .leaf .leaf) .leaf))) (.seq .leaf (.seq .leaf (.seq .leaf (.seq .leaf .leaf))))))))))
theorem laws_FnDiskCalls.ok (k : Nat) : FnOk Try.prog k 7 laws_FnDiskCalls.fn :=
  fnOk_of (E := laws_FnDiskCalls.env k) (ann := laws_FnDiskCalls.ann) ⟨look_cons (laws_big.ok k) (look_cons (spec_DrawDoStep.ok k) (look_cons (impl_DoStep.ok k) (look_cons (spec_DiskOk.ok k) (look_cons (impl_DiskOk.ok k) (look_cons (laws_sameDisk.ok k) (look_cons (spec_DrawCrash.ok k) (look_cons (impl_Crash.ok k) (look_cons (laws_at.ok k) (look_nil))))))))), lookM_nil⟩ (by kernel_rfl) Try.func7 (by kernel_rfl) (by kernel_rfl) (by kernel_rfl) (of_decide_eq_true (by kernel_rfl)) (of_decide_eq_true (by kernel_rfl)) (fun _ h => h) (fun x => by kernel_rfl)

end Go.Proofs.Ytlloaipjkejkgaa.Rx
