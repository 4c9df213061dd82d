/- The plain side of the law: part 1. No condition beside those that each theorem states. -/
import Derived.Test.YtgocmmfhglppjaaGreatDoorRxLoop
import Derived.Test.YtgocmmfhglppjaaGreatDoorRxFnsB
set_option linter.unusedVariables false
set_option linter.unusedSimpArgs false
namespace Go.Proofs.YtgocmmfhglppjaaGreatDoor.Rx

abbrev LinkT := ByteArray × Int
abbrev InodeT := Int × ByteArray × Int
abbrev MoveT := Int × ByteArray × ByteArray × Int
abbrev DiskT := Int × Int × List InodeT × List LinkT × List MoveT

theorem l1In_eq (k : Nat) (a b c : Int) : spec_l1In.f k a b c = some (decide (b ≤ a) && decide (a ≤ c)) := by
  unfold spec_l1In.f
  cases decide (b ≤ a) <;> rfl
theorem within_eq (k : Nat) (a b c : Int) : impl_within.f k a b c = some (decide (b ≤ a) && decide (a ≤ c)) := l1In_eq k a b c

/-! names -/
def chB (b : Int) : Bool := (decide (97 ≤ b) && decide (b ≤ 122)) || (decide (48 ≤ b) && decide (b ≤ 57)) || decide (b = 46)
def nameB (s : ByteArray) : Bool := decide (1 ≤ (s.size : Int)) && decide ((s.size : Int) ≤ 12) && (List.range s.size).all fun i => chB (byteAt s i)

theorem name_step {S X : Type} (b : Int) (x : Option (S ⊕ X ⊕ Bool)) :
    (bif decide (97 ≤ b) then (bif decide (b ≤ 122) then x else (bif decide (48 ≤ b) then (bif decide (b ≤ 57) then x else (bif !(decide (b = 46)) then some (.inr (.inr false)) else x)) else (bif !(decide (b = 46)) then some (.inr (.inr false)) else x)))
      else (bif decide (48 ≤ b) then (bif decide (b ≤ 57) then x else (bif !(decide (b = 46)) then some (.inr (.inr false)) else x)) else (bif !(decide (b = 46)) then some (.inr (.inr false)) else x))) = if chB b then x else some (.inr (.inr false)) := by
  unfold chB
  cases decide (97 ≤ b) <;> cases decide (b ≤ 122) <;> cases decide (48 ≤ b) <;> cases decide (b ≤ 57) <;> cases decide (b = 46) <;> rfl

theorem specName {k : Nat} (hk : 9223372036854775808 ≤ k) (s : ByteArray) (hs : s.size ≤ 1048576) : spec_l4Name.f k s = some (nameB s) := by
  unfold spec_l4Name.f nameB
  rw [l1In_eq]
  simp only [Option.bind_some]
  cases h : (decide (1 ≤ (s.size : Int)) && decide ((s.size : Int) ≤ 12)) with
  | false => rfl
  | true =>
    simp only [Bool.not_true, cond_false, Bool.true_and]
    have key := all_iter2 (B := spec_l4Name.b0 k) s.size (fun i => (s, false, (i : Int))) (fun i => chB (byteAt s i)) (.inl false) (.inr false) (fun i hi _ => by
      have e1 : decide ((i : Int) < (s.size : Int)) = true := by simp; omega
      have e2 : inb? s.size (i : Int) = some i := by rw [inb_ok (by omega) (by omega), Int.toNat_natCast]
      unfold spec_l4Name.b0
      dsimp only
      simp only [e1, cond_true, e2, Option.bind_some, name_step]
      rw [wrap_i64 (by omega) (by omega)]
      rfl) (fun _ => by
      have e1 : decide ((s.size : Int) < (s.size : Int)) = false := by simp
      unfold spec_l4Name.b0
      dsimp only
      rw [e1]; rfl) k (by omega)
    have e0 : ((0 : Nat) : Int) = 0 := rfl
    simp only [e0] at key
    rw [key]
    cases (List.range s.size).all fun i => chB (byteAt s i) <;> rfl

theorem implName {k : Nat} (hk : 9223372036854775808 ≤ k) (s : ByteArray) (hs : s.size ≤ 1048576) : impl_isName.f k s = some (nameB s) := by
  unfold impl_isName.f nameB
  have key := all_iter2 (B := impl_isName.b0 k) s.size (fun i => (s, false, (i : Int))) (fun i => chB (byteAt s i)) (.inl (s, false)) (.inr false) (fun i hi _ => by
    have e1 : decide ((i : Int) < (s.size : Int)) = true := by simp; omega
    have e2 : inb? s.size (i : Int) = some i := by rw [inb_ok (by omega) (by omega), Int.toNat_natCast]
    unfold impl_isName.b0
    dsimp only
    simp only [e1, cond_true, e2, Option.bind_some, name_step]
    rw [wrap_i64 (by omega) (by omega)]
    rfl) (fun _ => by
    have e1 : decide ((s.size : Int) < (s.size : Int)) = false := by simp
    unfold impl_isName.b0
    dsimp only
    rw [e1]; rfl) k (by omega)
  have e0 : ((0 : Nat) : Int) = 0 := rfl
  simp only [e0] at key
  rw [key]
  cases (List.range s.size).all fun i => chB (byteAt s i) with
  | false => simp
  | true =>
    simp only [if_true, Option.bind_some, Bool.and_true]
    unfold impl_isName.d0
    rw [within_eq]; rfl

/-! searches -/
theorem specAt {k : Nat} (hk : 9223372036854775808 ≤ k) (l : List LinkT) (n : ByteArray) (hl : l.length ≤ 4194304) : spec_l4At.f k l n = some (idxOf (fun x => decide (x.1 = n)) l) := by
  unfold spec_l4At.f idxOf
  have key := iter_find (B := spec_l4At.b0 k) l (fun i => (l, n, 0, (i : Int))) (fun x => decide (x.1 = n)) (fun i => .inr (i : Int)) (.inl 0) (fun i hi => by
    have e1 : decide ((i : Int) < (l.length : Int)) = true := by simp; omega
    have e2 : inb? l.length (i : Int) = some i := by rw [inb_ok (by omega) (by omega), Int.toNat_natCast]
    unfold spec_l4At.b0
    dsimp only
    simp only [e1, cond_true, e2, Option.bind_some, List.getElem?_eq_getElem hi]
    rw [wrap_i64 (by omega) (by omega)]
    rfl) (by
    have e1 : decide ((l.length : Int) < (l.length : Int)) = false := by simp
    unfold spec_l4At.b0
    dsimp only
    rw [e1]; rfl) k (by omega)
  have e0 : ((0 : Nat) : Int) = 0 := rfl
  simp only [e0] at key
  rw [key]
  cases l.findIdx? (fun x => decide (x.1 = n)) <;> rfl

theorem specLinked {k : Nat} (hk : 9223372036854775808 ≤ k) (l : List LinkT) (n : Int) (hl : l.length ≤ 4194304) : spec_l4Linked.f k l n = some (l.any fun x => decide (x.2 = n)) := by
  rw [any_idx]
  unfold spec_l4Linked.f idxOf
  have key := iter_find (B := spec_l4Linked.b0 k) l (fun i => (l, n, false, (i : Int))) (fun x => decide (x.2 = n)) (fun i => .inr true) (.inl false) (fun i hi => by
    have e1 : decide ((i : Int) < (l.length : Int)) = true := by simp; omega
    have e2 : inb? l.length (i : Int) = some i := by rw [inb_ok (by omega) (by omega), Int.toNat_natCast]
    unfold spec_l4Linked.b0
    dsimp only
    simp only [e1, cond_true, e2, Option.bind_some, List.getElem?_eq_getElem hi]
    rw [wrap_i64 (by omega) (by omega)]
    rfl) (by
    have e1 : decide ((l.length : Int) < (l.length : Int)) = false := by simp
    unfold spec_l4Linked.b0
    dsimp only
    rw [e1]; rfl) k (by omega)
  have e0 : ((0 : Nat) : Int) = 0 := rfl
  simp only [e0] at key
  rw [key]
  cases l.findIdx? (fun x => decide (x.2 = n)) with
  | none => rfl
  | some i => simp

theorem specMade {k : Nat} (hk : 9223372036854775808 ≤ k) (l : List MoveT) (n : Int) (hl : l.length ≤ 4194304) : spec_l4Made.f k l n = some (l.any fun x => decide (x.1 = 1) && decide (x.2.2.2 = n)) := by
  rw [any_idx]
  unfold spec_l4Made.f idxOf
  have key := iter_find (B := spec_l4Made.b0 k) l (fun i => (l, n, false, (i : Int))) (fun x => decide (x.1 = 1) && decide (x.2.2.2 = n)) (fun i => .inr true) (.inl false) (fun i hi => by
    have e1 : decide ((i : Int) < (l.length : Int)) = true := by simp; omega
    have e2 : inb? l.length (i : Int) = some i := by rw [inb_ok (by omega) (by omega), Int.toNat_natCast]
    unfold spec_l4Made.b0
    dsimp only
    simp only [e1, cond_true, e2, Option.bind_some, List.getElem?_eq_getElem hi]
    rw [wrap_i64 (by omega) (by omega)]
    cases decide (l[i].1 = 1) <;> cases decide (l[i].2.2.2 = n) <;> rfl) (by
    have e1 : decide ((l.length : Int) < (l.length : Int)) = false := by simp
    unfold spec_l4Made.b0
    dsimp only
    rw [e1]; rfl) k (by omega)
  have e0 : ((0 : Nat) : Int) = 0 := rfl
  simp only [e0] at key
  rw [key]
  cases l.findIdx? (fun x => decide (x.1 = 1) && decide (x.2.2.2 = n)) with
  | none => rfl
  | some i => simp

theorem specInode {k : Nat} (hk : 9223372036854775808 ≤ k) (d : DiskT) (n : Int) (hl : d.2.2.1.length ≤ 1048576) : spec_l4Inode.f k d n = some (idxOf (fun x => decide (x.1 = n)) d.2.2.1) := by
  unfold spec_l4Inode.f idxOf
  have key := iter_find (B := spec_l4Inode.b0 k) d.2.2.1 (fun i => (n, 0, (i : Int), d)) (fun x => decide (x.1 = n)) (fun i => .inr (i : Int)) (.inl 0) (fun i hi => by
    have e1 : decide ((i : Int) < (d.2.2.1.length : Int)) = true := by simp; omega
    have e2 : inb? d.2.2.1.length (i : Int) = some i := by rw [inb_ok (by omega) (by omega), Int.toNat_natCast]
    unfold spec_l4Inode.b0
    dsimp only
    simp only [e1, cond_true, e2, Option.bind_some, List.getElem?_eq_getElem hi]
    rw [wrap_i64 (by omega) (by omega)]
    rfl) (by
    have e1 : decide ((d.2.2.1.length : Int) < (d.2.2.1.length : Int)) = false := by simp
    unfold spec_l4Inode.b0
    dsimp only
    rw [e1]; rfl) k (by omega)
  have e0 : ((0 : Nat) : Int) = 0 := rfl
  simp only [e0] at key
  try simp only [Prod.eta]
  rw [key]
  cases d.2.2.1.findIdx? (fun x => decide (x.1 = n)) <;> rfl

theorem implAt {k : Nat} (hk : 9223372036854775808 ≤ k) (l : List LinkT) (n : ByteArray) (hl : l.length ≤ 4194304) : impl_linkAt.f k l n = some (idxOf (fun x => decide (x.1 = n)) l) := by
  unfold impl_linkAt.f slices_IndexFunc_Link_impl_linkAt_in.f idxOf
  have key := iter_find (B := slices_IndexFunc_Link_impl_linkAt_in.b0 k) l (fun i => (l, 0, (l.length : Int), (i : Int), n)) (fun x => decide (x.1 = n)) (fun i => .inr (i : Int)) (.inl 0) (fun i hi => by
    have e1 : decide ((i : Int) < (l.length : Int)) = true := by simp; omega
    have e2 : inb? l.length (i : Int) = some i := by rw [inb_ok (by omega) (by omega), Int.toNat_natCast]
    unfold slices_IndexFunc_Link_impl_linkAt_in.b0 impl_linkAt_in.f
    dsimp only
    simp only [e1, cond_true, e2, Option.bind_some, List.getElem?_eq_getElem hi]
    rw [wrap_i64 (by omega) (by omega)]
    rfl) (by
    have e1 : decide ((l.length : Int) < (l.length : Int)) = false := by simp
    unfold slices_IndexFunc_Link_impl_linkAt_in.b0
    dsimp only
    rw [e1]; rfl) k (by omega)
  have e0 : ((0 : Nat) : Int) = 0 := rfl
  simp only [e0] at key
  rw [key]
  cases l.findIdx? (fun x => decide (x.1 = n)) <;> rfl

theorem implInode {k : Nat} (hk : 9223372036854775808 ≤ k) (d : DiskT) (n : Int) (hl : d.2.2.1.length ≤ 1048576) : impl_Disk_at.f k d n = some (idxOf (fun x => decide (x.1 = n)) d.2.2.1) := by
  unfold impl_Disk_at.f slices_IndexFunc_Inode_impl_Disk_at_in.f idxOf
  have key := iter_find (B := slices_IndexFunc_Inode_impl_Disk_at_in.b0 k) d.2.2.1 (fun i => (d.2.2.1, 0, (d.2.2.1.length : Int), (i : Int), n)) (fun x => decide (x.1 = n)) (fun i => .inr (i : Int)) (.inl 0) (fun i hi => by
    have e1 : decide ((i : Int) < (d.2.2.1.length : Int)) = true := by simp; omega
    have e2 : inb? d.2.2.1.length (i : Int) = some i := by rw [inb_ok (by omega) (by omega), Int.toNat_natCast]
    unfold slices_IndexFunc_Inode_impl_Disk_at_in.b0 impl_Disk_at_in.f
    dsimp only
    simp only [e1, cond_true, e2, Option.bind_some, List.getElem?_eq_getElem hi]
    rw [wrap_i64 (by omega) (by omega)]
    rfl) (by
    have e1 : decide ((d.2.2.1.length : Int) < (d.2.2.1.length : Int)) = false := by simp
    unfold slices_IndexFunc_Inode_impl_Disk_at_in.b0
    dsimp only
    rw [e1]; rfl) k (by omega)
  have e0 : ((0 : Nat) : Int) = 0 := rfl
  simp only [e0] at key
  rw [key]
  cases d.2.2.1.findIdx? (fun x => decide (x.1 = n)) <;> rfl

theorem implContains {k : Nat} (hk : 9223372036854775808 ≤ k) (l : List Int) (n : Int) (hl : l.length ≤ 4194304) : slices_Contains.f k l n = some (decide (n ∈ l)) := by
  unfold slices_Contains.f slices_Index.f
  have key := iter_find (B := slices_Index.b0 k) l (fun i => (l, n, 0, (l.length : Int), (i : Int))) (fun x => decide (n = x)) (fun i => .inr (i : Int)) (.inl 0) (fun i hi => by
    have e1 : decide ((i : Int) < (l.length : Int)) = true := by simp; omega
    have e2 : inb? l.length (i : Int) = some i := by rw [inb_ok (by omega) (by omega), Int.toNat_natCast]
    unfold slices_Index.b0
    dsimp only
    simp only [e1, cond_true, e2, Option.bind_some, List.getElem?_eq_getElem hi]
    rw [wrap_i64 (by omega) (by omega)]
    rfl) (by
    have e1 : decide ((l.length : Int) < (l.length : Int)) = false := by simp
    unfold slices_Index.b0
    dsimp only
    rw [e1]; rfl) k (by omega)
  have e0 : ((0 : Nat) : Int) = 0 := rfl
  simp only [e0] at key
  rw [key]
  cases h : l.findIdx? (fun x => decide (n = x)) with
  | none =>
    have := List.findIdx?_eq_none_iff.1 h
    have : n ∉ l := fun hm => by simpa using this n hm
    simp [this, slices_Index.d0]
  | some i =>
    obtain ⟨h1, h2, _⟩ := List.findIdx?_eq_some_iff_getElem.1 h
    have : n ∈ l := by
      have h2 : n = l[i] := of_decide_eq_true h2
      rw [h2]; exact List.getElem_mem h1
    simp [this]

/-! rows of links, turned -/
def withoutM (l : List LinkT) (n : ByteArray) : List LinkT := l.filter fun x => !decide (x.1 = n)
/-- x ahead of the first that p names -/
def insM (p : LinkT → Bool) (x : LinkT) (l : List LinkT) : List LinkT := l.takeWhile (fun y => !p y) ++ x :: l.dropWhile (fun y => !p y)
def withS (l : List LinkT) (x : LinkT) : List LinkT := insM (fun y => strLt x.1 y.1) x (withoutM l x.1)
def linkI (l : List LinkT) (x : LinkT) : List LinkT := insM (fun y => !strLt y.1 x.1) x l

theorem withoutM_len (l : List LinkT) (n : ByteArray) : (withoutM l n).length ≤ l.length := List.length_filter_le _ _
theorem insM_len (p : LinkT → Bool) (x : LinkT) (l : List LinkT) : (insM p x l).length = l.length + 1 := by
  unfold insM
  have := congrArg List.length (List.takeWhile_append_dropWhile (p := fun y => !p y) (l := l))
  simp only [List.length_append, List.length_cons] at this ⊢
  omega

theorem foldl_filter {α : Type} (p : α → Bool) : ∀ (l a : List α), l.foldl (fun a x => bif p x then a ++ [x] else a) a = a ++ l.filter p
  | [], a => by simp
  | x :: l, a => by
    rw [List.foldl_cons, foldl_filter p l]
    cases h : p x <;> simp [h]

theorem specWithout {k : Nat} (hk : 9223372036854775808 ≤ k) (l : List LinkT) (n : ByteArray) (hl : l.length ≤ 4194304) : spec_l4Without.f k l n = some (withoutM l n) := by
  unfold spec_l4Without.f
  have key := iter_foldl (B := spec_l4Without.b0 k) l (fun i a => (l, n, [], a, (i : Int))) (fun a x => bif !decide (x.1 = n) then a ++ [x] else a) (fun a => .inl ([], a)) [] (fun i hi => by
    have e1 : decide ((i : Int) < (l.length : Int)) = true := by simp; omega
    have e2 : inb? l.length (i : Int) = some i := by rw [inb_ok (by omega) (by omega), Int.toNat_natCast]
    rw [foldl_filter]
    have hlen := List.length_filter_le (fun x => !decide (x.1 = n)) (l.take i)
    rw [List.length_take] at hlen
    unfold spec_l4Without.b0
    dsimp only
    simp only [e1, cond_true, e2, Option.bind_some, List.getElem?_eq_getElem hi]
    rw [wrap_i64 (by omega) (by omega), app_ok (by unfold limOf; simp only [List.length_append, List.length_nil, List.length_cons]; omega)]
    cases !decide (l[i].1 = n) <;> rfl) (by
    have e1 : decide ((l.length : Int) < (l.length : Int)) = false := by simp
    unfold spec_l4Without.b0
    dsimp only
    rw [e1]; rfl) k (by omega)
  have e0 : ((0 : Nat) : Int) = 0 := rfl
  simp only [e0] at key
  rw [key, foldl_filter]
  rfl

/-- what gathers where one is put in -/
def putG (x : LinkT) (a : List LinkT × Bool) (y : LinkT) : List LinkT × Bool := bif !a.2 && strLt x.1 y.1 then (a.1 ++ [x, y], true) else (a.1 ++ [y], a.2)
def putE (x : LinkT) (a : List LinkT × Bool) : List LinkT := bif !a.2 then a.1 ++ [x] else a.1

theorem putG_true (x : LinkT) : ∀ (l a : List LinkT), l.foldl (putG x) (a, true) = (a ++ l, true)
  | [], a => by simp
  | y :: l, a => by
    rw [List.foldl_cons]
    have : putG x (a, true) y = (a ++ [y], true) := rfl
    rw [this, putG_true x l]; simp
theorem putG_eq (x : LinkT) : ∀ (l a : List LinkT), putE x (l.foldl (putG x) (a, false)) = a ++ insM (fun y => strLt x.1 y.1) x l
  | [], a => by simp [putE, insM]
  | y :: l, a => by
    rw [List.foldl_cons]
    cases h : strLt x.1 y.1 with
    | true =>
      have : putG x (a, false) y = (a ++ [x, y], true) := by simp [putG, h]
      rw [this, putG_true]
      simp [putE, insM, List.takeWhile, List.dropWhile, h]
    | false =>
      have : putG x (a, false) y = (a ++ [y], false) := by simp [putG, h]
      rw [this, putG_eq x l]
      simp [insM, List.takeWhile, List.dropWhile, h]
theorem putG_len (x : LinkT) : ∀ (l : List LinkT) (a : List LinkT × Bool), (l.foldl (putG x) a).1.length ≤ a.1.length + 2 * l.length
  | [], a => by simp
  | y :: l, a => by
    rw [List.foldl_cons]
    have := putG_len x l (putG x a y)
    have h2 : (putG x a y).1.length ≤ a.1.length + 2 := by
      unfold putG
      cases !a.2 && strLt x.1 y.1 <;> simp
    simp only [List.length_cons]
    omega

theorem specWith {k : Nat} (hk : 9223372036854775808 ≤ k) (l : List LinkT) (x : LinkT) (hl : l.length ≤ 4194304) : spec_l4With.f k l x = some (withS l x) := by
  unfold spec_l4With.f
  rw [specWithout hk l x.1 hl]
  simp only [Option.bind_some]
  have hwl := withoutM_len l x.1
  obtain ⟨w, hw⟩ : ∃ w, withoutM l x.1 = w := ⟨_, rfl⟩
  unfold withS
  rw [hw] at hwl ⊢
  have key := iter_foldl (B := spec_l4With.b0 k) w (fun i a => (w, [], a.1, a.2, (i : Int), x.1, x.2)) (putG x) (fun a => .inl ([], a.1, a.2, x.1, x.2)) ([], false) (fun i hi => by
    have e1 : decide ((i : Int) < (w.length : Int)) = true := by simp; omega
    have e2 : inb? w.length (i : Int) = some i := by rw [inb_ok (by omega) (by omega), Int.toNat_natCast]
    have hlen := putG_len x (w.take i) ([], false)
    rw [List.length_take] at hlen
    simp only [List.length_nil] at hlen
    obtain ⟨a, ha⟩ : ∃ a, (w.take i).foldl (putG x) ([], false) = a := ⟨_, rfl⟩
    rw [ha] at hlen ⊢
    unfold spec_l4With.b0 spec_l4With.c0
    dsimp only
    simp only [e1, cond_true, e2, Option.bind_some, List.getElem?_eq_getElem hi]
    unfold putG
    cases hb : a.2 with
    | true =>
      simp only [Bool.not_true, cond_false, Bool.false_and, Option.bind_some, e2, List.getElem?_eq_getElem hi]
      rw [app_ok (by unfold limOf; simp only [List.length_append, List.length_nil, List.length_cons]; omega)]
      simp only [e2, Option.bind_some, List.getElem?_eq_getElem hi]
      rw [wrap_i64 (by omega) (by omega)]
      rfl
    | false =>
      simp only [Bool.not_false, cond_true, Bool.true_and, Option.bind_some]
      cases strLt x.1 w[i].1 with
      | true =>
        simp only [cond_true]
        rw [app_ok (by unfold limOf; simp only [List.length_append, List.length_nil, List.length_cons]; omega)]
        simp only [e2, Option.bind_some, List.getElem?_eq_getElem hi]
        rw [app_ok (by unfold limOf; simp only [List.length_append, List.length_nil, List.length_cons]; omega)]
        simp only [Option.bind_some]
        rw [wrap_i64 (by omega) (by omega)]
        simp
      | false =>
        simp only [cond_false, e2, Option.bind_some, List.getElem?_eq_getElem hi]
        rw [app_ok (by unfold limOf; simp only [List.length_append, List.length_nil, List.length_cons]; omega)]
        simp only [Option.bind_some]
        rw [wrap_i64 (by omega) (by omega)]
        rfl) (by
    have e1 : decide ((w.length : Int) < (w.length : Int)) = false := by simp
    unfold spec_l4With.b0
    dsimp only
    rw [e1]; rfl) k (by omega)
  have e0 : ((0 : Nat) : Int) = 0 := rfl
  simp only [e0] at key
  rw [key]
  simp only [Option.bind_some]
  have := putG_eq x w []
  have hlen := putG_len x w ([], false)
  simp only [List.length_nil, List.nil_append] at this hlen
  unfold spec_l4With.d0
  rw [← this]
  unfold putE
  cases hb : (w.foldl (putG x) ([], false)).2 with
  | true => simp
  | false =>
    simp only [Bool.not_false, cond_true]
    rw [app_ok (by unfold limOf; simp only [List.length_append, List.length_nil, List.length_cons]; omega)]
    rfl

theorem takeWhile_idx {α : Type} (p : α → Bool) (l : List α) : l.takeWhile (fun y => !p y) = l.take (match l.findIdx? p with | some i => i | none => l.length) ∧ l.dropWhile (fun y => !p y) = l.drop (match l.findIdx? p with | some i => i | none => l.length) := by
  induction l with
  | nil => simp
  | cons x l ih =>
    rw [List.findIdx?_cons]
    cases h : p x with
    | true => simp [List.takeWhile, List.dropWhile, h]
    | false =>
      simp only [List.takeWhile, List.dropWhile, h, Bool.not_false]
      rw [ih.1, ih.2]
      cases l.findIdx? p <;> simp

theorem implLinked {k : Nat} (hk : 9223372036854775808 ≤ k) (l : List LinkT) (x : LinkT) (hl : l.length ≤ 4194304) : impl_linked.f k l x = some (linkI l x) := by
  unfold impl_linked.f
  have key := iter_find (B := impl_linked.b0 k) l (fun i => (l, [], (i : Int), x.1, x.2)) (fun y => !strLt y.1 x.1) (fun i => .inl (l, [], (i : Int), x.1, x.2)) (.inl (l, [], (l.length : Int), x.1, x.2)) (fun i hi => by
    have e1 : decide ((i : Int) < (l.length : Int)) = true := by simp; omega
    have e2 : inb? l.length (i : Int) = some i := by rw [inb_ok (by omega) (by omega), Int.toNat_natCast]
    unfold impl_linked.b0
    dsimp only
    simp only [e1, cond_true, e2, Option.bind_some, List.getElem?_eq_getElem hi]
    rw [wrap_i64 (by omega) (by omega)]
    cases strLt l[i].1 x.1 <;> rfl) (by
    have e1 : decide ((l.length : Int) < (l.length : Int)) = false := by simp
    unfold impl_linked.b0
    dsimp only
    rw [e1]; rfl) k (by omega)
  have e0 : ((0 : Nat) : Int) = 0 := rfl
  simp only [e0] at key
  rw [key]
  unfold linkI insM
  obtain ⟨t1, t2⟩ := takeWhile_idx (fun y : LinkT => !strLt y.1 x.1) l
  rw [t1, t2]
  have fin : ∀ i : Nat, i ≤ l.length → impl_linked.d0 k (l, [], (i : Int), x.1, x.2) = some (l.take i ++ x :: l.drop i) := fun i hi => by
    unfold impl_linked.d0 slices_Insert_Link.f insF
    rw [if_pos ⟨rfl, by simp, by simp; omega, by simp only; omega⟩]
    simp
  cases h : l.findIdx? (fun y : LinkT => !strLt y.1 x.1) with
  | none => simp only [Option.bind_some]; exact fin l.length (Nat.le_refl _)
  | some i =>
    obtain ⟨h1, _⟩ := List.findIdx?_eq_some_iff_getElem.1 h
    simp only [Option.bind_some]; exact fin i (by omega)

/-- slices.DeleteFunc, whose search is the same predicate's -/
theorem delG_eq {α : Type} {p : α → Option Bool} {q : α → Bool} {l : List α} (hp : ∀ x ∈ l, p x = some (q x)) (hl : l.length ≤ 9223372036854775806) : delG (some (idxOf q l)) p l = some (l.filter fun x => !q x) := by
  unfold delG idxOf
  simp only [Option.bind_some]
  cases h : l.findIdx? q with
  | none =>
    have := List.findIdx?_eq_none_iff.1 h
    rw [if_pos rfl, List.filter_eq_self.2 fun x hx => by simp [this x hx]]
  | some i =>
    obtain ⟨h1, h2, h3⟩ := List.findIdx?_eq_some_iff_getElem.1 h
    simp only
    rw [if_neg (by omega), if_pos ⟨by omega, by omega, hl⟩, Int.toNat_natCast, delF_of (q := q) fun x hx => hp x (List.mem_of_mem_drop hx)]
    simp only [Option.map_some]
    congr 1
    conv => rhs; rw [← List.take_append_drop i l, List.filter_append, List.drop_eq_getElem_cons h1]
    rw [List.filter_cons, h2]
    simp only [Bool.not_true, Bool.false_eq_true, if_false]
    have : (l.take i).filter (fun x => !q x) = l.take i := by
      refine List.filter_eq_self.2 fun x hx => ?_
      obtain ⟨j, hj, rfl⟩ := List.getElem_of_mem hx
      rw [List.length_take] at hj
      simp only [List.getElem_take]
      have := h3 j (by omega)
      simpa using this
    rw [this]

theorem implDel {k : Nat} (hk : 9223372036854775808 ≤ k) (l : List LinkT) (m : MoveT) (hl : l.length ≤ 4194304) : slices_DeleteFunc_Link_impl_apply_in.f k l m = some (l.filter fun x => !(decide (x.1 = m.2.1) || decide (x.1 = m.2.2.1))) := by
  have hp : ∀ x : LinkT, impl_apply_in.f k x m = some (decide (x.1 = m.2.1) || decide (x.1 = m.2.2.1)) := fun x => by
    unfold impl_apply_in.f
    cases decide (x.1 = m.2.1) <;> rfl
  have hi : slices_IndexFunc_Link_impl_apply_in.f k l m = some (idxOf (fun x => decide (x.1 = m.2.1) || decide (x.1 = m.2.2.1)) l) := by
    unfold slices_IndexFunc_Link_impl_apply_in.f idxOf
    have key := iter_find (B := slices_IndexFunc_Link_impl_apply_in.b0 k) l (fun i => (l, 0, (l.length : Int), (i : Int), m)) (fun x => decide (x.1 = m.2.1) || decide (x.1 = m.2.2.1)) (fun i => .inr (i : Int)) (.inl 0) (fun i hi => by
      have e1 : decide ((i : Int) < (l.length : Int)) = true := by simp; omega
      have e2 : inb? l.length (i : Int) = some i := by rw [inb_ok (by omega) (by omega), Int.toNat_natCast]
      unfold slices_IndexFunc_Link_impl_apply_in.b0
      dsimp only
      simp only [e1, cond_true, e2, Option.bind_some, List.getElem?_eq_getElem hi, Prod.eta, hp]
      rw [wrap_i64 (by omega) (by omega)]
      rfl) (by
      have e1 : decide ((l.length : Int) < (l.length : Int)) = false := by simp
      unfold slices_IndexFunc_Link_impl_apply_in.b0
      dsimp only
      rw [e1]; rfl) k (by omega)
    have e0 : ((0 : Nat) : Int) = 0 := rfl
    simp only [e0] at key
    try simp only [Prod.eta]
    rw [key]
    cases l.findIdx? (fun x => decide (x.1 = m.2.1) || decide (x.1 = m.2.2.1)) <;> rfl
  unfold slices_DeleteFunc_Link_impl_apply_in.f
  rw [hi]
  exact delG_eq (fun x _ => hp x) (by omega)

/-! moves -/
def at? (l : List LinkT) (n : ByteArray) : Int := idxOf (fun x => decide (x.1 = n)) l
def idAt (l : List LinkT) (n : ByteArray) : Int := match l[(at? l n).toNat]? with | some x => x.2 | none => 0

def applyS (l : List LinkT) (m : MoveT) : List LinkT × Bool :=
  if nameB m.2.1 = false then (l, false)
  else if m.1 = 1 ∧ m.2.2.1 = ⟨#[]⟩ ∧ at? l m.2.1 < 0 then (withS l (m.2.1, m.2.2.2), true)
  else if m.1 = 2 ∧ m.2.2.2 = 0 ∧ 0 ≤ at? l m.2.1 ∧ nameB m.2.2.1 = true ∧ m.2.2.1 ≠ m.2.1 then (withS (withoutM l m.2.1) (m.2.2.1, idAt l m.2.1), true)
  else if m.1 = 3 ∧ m.2.2.2 = 0 ∧ m.2.2.1 = ⟨#[]⟩ ∧ 0 ≤ at? l m.2.1 then (withoutM l m.2.1, true)
  else (l, false)

def applyI (l : List LinkT) (m : MoveT) : List LinkT × Bool :=
  if m.1 = 1 ∧ m.2.2.1 = ⟨#[]⟩ ∧ at? l m.2.1 < 0 then (linkI l (m.2.1, m.2.2.2), true)
  else if m.1 = 2 ∧ m.2.2.2 = 0 ∧ 0 ≤ at? l m.2.1 ∧ m.2.2.1 ≠ m.2.1 ∧ nameB m.2.2.1 = true then (linkI (l.filter fun x => !(decide (x.1 = m.2.1) || decide (x.1 = m.2.2.1))) (m.2.2.1, idAt l m.2.1), true)
  else if m.1 = 3 ∧ m.2.2.1 = ⟨#[]⟩ ∧ m.2.2.2 = 0 ∧ 0 ≤ at? l m.2.1 then (l.take (at? l m.2.1).toNat ++ l.drop ((at? l m.2.1).toNat + 1), true)
  else (l, false)

theorem idAt_get {l : List LinkT} {n : ByteArray} (h : 0 ≤ at? l n) : inb? l.length (at? l n) = some (at? l n).toNat ∧ ∃ x, l[(at? l n).toNat]? = some x ∧ x.2 = idAt l n := by
  obtain ⟨h1, h2⟩ := idxOf_lt (fun x : LinkT => decide (x.1 = n)) l
  have hlt : (at? l n).toNat < l.length := by unfold at? at *; omega
  refine ⟨inb_ok h (by unfold at?; omega), _, List.getElem?_eq_getElem hlt, ?_⟩
  unfold idAt
  rw [List.getElem?_eq_getElem hlt]

theorem specApply {k : Nat} (hk : 9223372036854775808 ≤ k) (l : List LinkT) (m : MoveT) (hl : l.length ≤ 4194000) (h1 : m.2.1.size ≤ 1048576) (h2 : m.2.2.1.size ≤ 1048576) : spec_l4Apply.f k l m = some (applyS l m) := by
  have hw : (withoutM l m.2.1).length ≤ 4194304 := by have := withoutM_len l m.2.1; omega
  unfold spec_l4Apply.f
  rw [specAt hk l m.2.1 (by omega), specName hk m.2.1 h1, specName hk m.2.2.1 h2]
  simp only [Option.bind_some, specWith hk l _ (show l.length ≤ 4194304 by omega), specWithout hk l _ (show l.length ≤ 4194304 by omega), specWith hk (withoutM l m.2.1) _ hw]
  change _ = some (applyS l m)
  have hat : idxOf (fun x => decide (x.1 = m.2.1)) l = at? l m.2.1 := rfl
  rw [hat]
  unfold applyS
  cases hn : nameB m.2.1 with
  | false => simp
  | true =>
    by_cases hp : 0 ≤ at? l m.2.1
    · obtain ⟨e1, x, e2, e3⟩ := idAt_get hp
      have hp' : ¬ at? l m.2.1 < 0 := by omega
      simp only [e1, e2, e3, Option.bind_some, hp, hp', decide_true, decide_false, Bool.not_true, cond_false, cond_true]
      by_cases c1 : m.1 = 1 <;> by_cases c2 : m.1 = 2 <;> by_cases c3 : m.1 = 3 <;> by_cases c4 : m.2.2.2 = 0 <;> by_cases c5 : m.2.2.1 = ⟨#[]⟩ <;> by_cases c6 : m.2.2.1 = m.2.1 <;> cases c7 : nameB m.2.2.1 <;> simp [c1, c2, c3, c4, c5, c6, c7] <;> first | (exfalso; omega) | simp_all
    · have hp' : at? l m.2.1 < 0 := by omega
      simp only [Option.bind_some, hp, hp', decide_true, decide_false, Bool.not_true, cond_false, cond_true]
      by_cases c1 : m.1 = 1 <;> by_cases c2 : m.1 = 2 <;> by_cases c3 : m.1 = 3 <;> by_cases c4 : m.2.2.2 = 0 <;> by_cases c5 : m.2.2.1 = ⟨#[]⟩ <;> simp [c1, c2, c3, c4, c5] <;> omega

theorem implApply {k : Nat} (hk : 9223372036854775808 ≤ k) (l : List LinkT) (m : MoveT) (hl : l.length ≤ 4194000) (h2 : m.2.2.1.size ≤ 1048576) : impl_apply.f k l m = some (applyI l m) := by
  unfold impl_apply.f impl_copyLinks.f
  rw [app_ok (by unfold limOf; simp only [List.length_nil]; omega)]
  simp only [Option.bind_some, List.nil_append, implAt hk l m.2.1 (show l.length ≤ 4194304 by omega), implName hk m.2.2.1 h2, Prod.eta, implDel hk l m (show l.length ≤ 4194304 by omega), implLinked hk l _ (show l.length ≤ 4194304 by omega)]
  have hf : (l.filter fun x => !(decide (x.1 = m.2.1) || decide (x.1 = m.2.2.1))).length ≤ 4194304 := by have := List.length_filter_le (fun x : LinkT => !(decide (x.1 = m.2.1) || decide (x.1 = m.2.2.1))) l; omega
  simp only [implLinked hk _ _ hf]
  have hat : idxOf (fun x => decide (x.1 = m.2.1)) l = at? l m.2.1 := rfl
  rw [hat]
  unfold applyI
  by_cases hp : 0 ≤ at? l m.2.1
  · obtain ⟨e1, x, e2, e3⟩ := idAt_get hp
    have hp' : ¬ at? l m.2.1 < 0 := by omega
    obtain ⟨h3, h4⟩ := idxOf_lt (fun x : LinkT => decide (x.1 = m.2.1)) l
    rw [hat] at h3 h4
    have ed : slices_Delete_Link.f k l (at? l m.2.1) (IntKind.wrap .i64 (at? l m.2.1 + 1)) = some (l.take (at? l m.2.1).toNat ++ l.drop ((at? l m.2.1).toNat + 1)) := by
      unfold slices_Delete_Link.f delR
      rw [wrap_i64 (by omega) (by omega), if_pos ⟨hp, by omega, by omega⟩, show (at? l m.2.1 + 1).toNat = (at? l m.2.1).toNat + 1 by omega]
    simp only [e1, e2, e3, ed, Option.bind_some, hp, hp', decide_true, decide_false, Bool.not_true, cond_false, cond_true]
    by_cases c1 : m.1 = 1 <;> by_cases c2 : m.1 = 2 <;> by_cases c3 : m.1 = 3 <;> by_cases c4 : m.2.2.2 = 0 <;> by_cases c5 : m.2.2.1 = ⟨#[]⟩ <;> by_cases c6 : m.2.2.1 = m.2.1 <;> cases c7 : nameB m.2.2.1 <;> simp [c1, c2, c3, c4, c5, c6, c7] <;> first | (exfalso; omega) | simp_all
  · have hp' : at? l m.2.1 < 0 := by omega
    simp only [Option.bind_some, hp, hp', decide_true, decide_false, Bool.not_true, cond_false, cond_true]
    by_cases c1 : m.1 = 1 <;> by_cases c2 : m.1 = 2 <;> by_cases c3 : m.1 = 3 <;> by_cases c4 : m.2.2.2 = 0 <;> by_cases c5 : m.2.2.1 = ⟨#[]⟩ <;> simp [c1, c2, c3, c4, c5] <;> omega

def rg (a b c : Int) : Bool := decide (b ≤ a) && decide (a ≤ c)
theorem bif_ff {b : Bool} {x : Option Bool} {y : Bool} (h : b = true → x = some y) : (bif !b then some false else x) = some (b && y) := by
  cases b with
  | true => simpa using h rfl
  | false => rfl
theorem bif_gt {a b : Int} {x : Option Bool} {y : Bool} (h : a ≤ b → x = some y) : (bif decide (b < a) then some false else x) = some (decide (a ≤ b) && y) := by
  by_cases c : a ≤ b
  · have e1 : decide (b < a) = false := by simp; omega
    rw [e1, cond_false, h c, decide_eq_true c]; rfl
  · have e1 : decide (b < a) = true := by simp; omega
    rw [e1, decide_eq_false c]; rfl

/-- how many bytes -/
def bytesM (l : List InodeT) : Int := l.foldl (fun n x => n + (x.2.1.size : Int)) 0
def amtI (l : List InodeT) : Nat := (l.map fun x => x.2.1.size).sum

theorem bytes_fold : ∀ (l : List InodeT) (n : Int), l.foldl (fun n x => n + (x.2.1.size : Int)) n = n + amtI l
  | [], n => by simp [amtI]
  | x :: l, n => by
    rw [List.foldl_cons, bytes_fold l]
    simp only [amtI, List.map_cons, List.sum_cons]
    omega
theorem amtI_take (l : List InodeT) (i : Nat) : amtI (l.take i) ≤ amtI l := by
  have := congrArg amtI (List.take_append_drop i l)
  unfold amtI at *
  rw [List.map_append, List.sum_append] at this
  omega
theorem amtI_at {l : List InodeT} {i : Nat} (hi : i < l.length) : amtI (l.take i) + l[i].2.1.size ≤ amtI l := by
  have := amtI_take l (i + 1)
  rw [List.take_add_one, List.getElem?_eq_getElem hi] at this
  unfold amtI at *
  rw [List.map_append, List.sum_append] at this
  simpa using this

structure Small (d : DiskT) : Prop where
  ino : d.2.2.1.length ≤ 1048576
  dir : d.2.2.2.1.length ≤ 1048576
  mov : d.2.2.2.2.length ≤ 1048576
  amt : amtI d.2.2.1 ≤ 1048576
  dirN : ∀ x ∈ d.2.2.2.1, x.1.size ≤ 1048576
  movN : ∀ x ∈ d.2.2.2.2, x.2.1.size ≤ 1048576 ∧ x.2.2.1.size ≤ 1048576

theorem specBytes {k : Nat} (hk : 9223372036854775808 ≤ k) (d : DiskT) (hs : Small d) : spec_l4Bytes.f k d = some (bytesM d.2.2.1) := by
  unfold spec_l4Bytes.f
  have ha := hs.amt
  have hl := hs.ino
  have key := iter_foldl (B := spec_l4Bytes.b0 k) d.2.2.1 (fun i a => (0, a, (i : Int), d)) (fun n x => n + (x.2.1.size : Int)) (fun a => .inl (0, a)) 0 (fun i hi => by
    have e1 : decide ((i : Int) < (d.2.2.1.length : Int)) = true := by simp; omega
    have e2 : inb? d.2.2.1.length (i : Int) = some i := by rw [inb_ok (by omega) (by omega), Int.toNat_natCast]
    have hb := amtI_at hi
    rw [bytes_fold]
    unfold spec_l4Bytes.b0
    dsimp only
    simp only [e1, cond_true, e2, Option.bind_some, List.getElem?_eq_getElem hi]
    rw [wrap_i64 (by omega) (by omega), wrap_i64 (by omega) (by omega)]
    rfl) (by
    have e1 : decide ((d.2.2.1.length : Int) < (d.2.2.1.length : Int)) = false := by simp
    unfold spec_l4Bytes.b0
    dsimp only
    rw [e1]; rfl) k (by omega)
  have e0 : ((0 : Nat) : Int) = 0 := rfl
  simp only [e0] at key
  try simp only [Prod.eta]
  rw [key]; rfl

theorem implBytes {k : Nat} (hk : 9223372036854775808 ≤ k) (d : DiskT) (hs : Small d) : impl_Disk_size.f k d = some (bytesM d.2.2.1) := by
  unfold impl_Disk_size.f
  have ha := hs.amt
  have hl := hs.ino
  have key := iter_foldl (B := impl_Disk_size.b0 k) d.2.2.1 (fun i a => (0, a, d.2.2.1, (d.2.2.1.length : Int), (i : Int))) (fun n x => n + (x.2.1.size : Int)) (fun a => .inl (0, a)) 0 (fun i hi => by
    have e1 : decide ((i : Int) < (d.2.2.1.length : Int)) = true := by simp; omega
    have e2 : inb? d.2.2.1.length (i : Int) = some i := by rw [inb_ok (by omega) (by omega), Int.toNat_natCast]
    have hb := amtI_at hi
    rw [bytes_fold]
    unfold impl_Disk_size.b0
    dsimp only
    simp only [e1, cond_true, e2, Option.bind_some, List.getElem?_eq_getElem hi]
    rw [wrap_i64 (by omega) (by omega), wrap_i64 (by omega) (by omega)]
    rfl) (by
    have e1 : decide ((d.2.2.1.length : Int) < (d.2.2.1.length : Int)) = false := by simp
    unfold impl_Disk_size.b0
    dsimp only
    rw [e1]; rfl) k (by omega)
  have e0 : ((0 : Nat) : Int) = 0 := rfl
  simp only [e0] at key
  rw [key]; rfl

/-! what is asked of a disk -/
def upI (l : List InodeT) (i : Nat) : Bool := decide (i = 0) || match l[i - 1]?, l[i]? with | some y, some x => decide (y.1 < x.1) | _, _ => false
def upD (l : List LinkT) (i : Nat) : Bool := decide (i = 0) || match l[i - 1]?, l[i]? with | some y, some x => strLt y.1 x.1 | _, _ => false
def hasI (d : DiskT) (n : Int) : Bool := !decide (idxOf (fun x => decide (x.1 = n)) d.2.2.1 < 0)
def madeB (l : List MoveT) (n : Int) : Bool := l.any fun x => decide (x.1 = 1) && decide (x.2.2.2 = n)
def linkB (l : List LinkT) (n : Int) : Bool := l.any fun x => decide (x.2 = n)
def pI (d : DiskT) (i : Nat) : Bool := match d.2.2.1[i]? with
  | some x => rg x.1 1 (d.2.1 - 1) && (rg x.2.2 0 (x.2.1.size : Int) && upI d.2.2.1 i)
  | none => false
def pIS (d : DiskT) (i : Nat) : Bool := match d.2.2.1[i]? with
  | some x => rg x.1 1 (d.2.1 - 1) && (rg x.2.2 0 (x.2.1.size : Int) && (upI d.2.2.1 i && (linkB d.2.2.2.1 x.1 || madeB d.2.2.2.2 x.1)))
  | none => false
def pD (d : DiskT) (i : Nat) : Bool := match d.2.2.2.1[i]? with
  | some x => nameB x.1 && (upD d.2.2.2.1 i && (hasI d x.2 && !linkB (d.2.2.2.1.take i) x.2))
  | none => false
def linksS (dir : List LinkT) (ms : List MoveT) : List LinkT := ms.foldl (fun l m => (applyS l m).1) dir
def linksI (dir : List LinkT) (ms : List MoveT) : List LinkT := ms.foldl (fun l m => (applyI l m).1) dir
def makes (ms : List MoveT) : List Int := (ms.filter fun m => decide (m.1 = 1)).map (·.2.2.2)
def pMS (d : DiskT) (i : Nat) : Bool := match d.2.2.2.2[i]? with
  | some m => (!decide (m.1 = 1) || (hasI d m.2.2.2 && (!linkB d.2.2.2.1 m.2.2.2 && !madeB (d.2.2.2.2.take i) m.2.2.2))) && (applyS (linksS d.2.2.2.1 (d.2.2.2.2.take i)) m).2
  | none => false
def pMI (d : DiskT) (i : Nat) : Bool := match d.2.2.2.2[i]? with
  | some m => (applyI (linksI d.2.2.2.1 (d.2.2.2.2.take i)) m).2 && (nameB m.2.1 && (!decide (m.1 = 1) || (hasI d m.2.2.2 && !decide (m.2.2.2 ∈ d.2.2.2.1.map (·.2) ++ makes (d.2.2.2.2.take i)))))
  | none => false

def diskS (d : DiskT) : Bool :=
  rg d.1 0 1048576 && (rg d.2.1 1 1000000 && (decide ((d.2.2.1.length : Int) ≤ 10) && (decide ((d.2.2.2.2.length : Int) ≤ 20) && (decide ((d.2.2.2.1.length : Int) ≤ 10) && (decide (bytesM d.2.2.1 ≤ d.1) &&
    ((List.range d.2.2.1.length).all (pIS d) && ((List.range d.2.2.2.1.length).all (pD d) && (List.range d.2.2.2.2.length).all (pMS d))))))))
def diskI (d : DiskT) : Bool :=
  rg d.1 0 1048576 && (rg d.2.1 1 1000000 && (decide ((d.2.2.1.length : Int) ≤ 10) && (decide (bytesM d.2.2.1 ≤ d.1) && (decide ((d.2.2.2.2.length : Int) ≤ 20) &&
    ((List.range d.2.2.1.length).all (pI d) && ((List.range d.2.2.2.1.length).all (pD d) && ((List.range d.2.2.2.2.length).all (pMI d) && decide (((d.2.2.2.1.map (·.2) ++ makes d.2.2.2.2).length : Int) = (d.2.2.1.length : Int)))))))))

theorem linksS_len : ∀ (ms : List MoveT) (l : List LinkT), (linksS l ms).length ≤ l.length + ms.length
  | [], l => by simp [linksS]
  | m :: ms, l => by
    have h := linksS_len ms (applyS l m).1
    have h2 : (applyS l m).1.length ≤ l.length + 1 := by
      unfold applyS withS
      have w1 := withoutM_len l m.2.1
      have w2 := withoutM_len (withoutM l m.2.1) m.2.2.1
      have w3 := withoutM_len l (m.2.1, m.2.2.2).1
      split
      · simp
      · split
        · simp only [insM_len]; omega
        · split
          · simp only [insM_len]; omega
          · split
            · simp only; omega
            · simp
    simp only [linksS, List.foldl_cons, List.length_cons] at h ⊢
    omega
theorem linksI_len : ∀ (ms : List MoveT) (l : List LinkT), (linksI l ms).length ≤ l.length + ms.length
  | [], l => by simp [linksI]
  | m :: ms, l => by
    have h := linksI_len ms (applyI l m).1
    have h2 : (applyI l m).1.length ≤ l.length + 1 := by
      unfold applyI linkI
      have w1 := List.length_filter_le (fun x : LinkT => !(decide (x.1 = m.2.1) || decide (x.1 = m.2.2.1))) l
      split
      · simp only [insM_len]; omega
      · split
        · simp only [insM_len]; omega
        · split
          · simp only [List.length_append, List.length_take, List.length_drop]; omega
          · simp
    simp only [linksI, List.foldl_cons, List.length_cons] at h ⊢
    omega
theorem linksS_succ {dir : List LinkT} {ms : List MoveT} {i : Nat} (hi : i < ms.length) : linksS dir (ms.take (i + 1)) = (applyS (linksS dir (ms.take i)) ms[i]).1 := by
  unfold linksS
  rw [List.take_add_one, List.getElem?_eq_getElem hi, Option.toList_some, List.foldl_append]; rfl
theorem linksI_succ {dir : List LinkT} {ms : List MoveT} {i : Nat} (hi : i < ms.length) : linksI dir (ms.take (i + 1)) = (applyI (linksI dir (ms.take i)) ms[i]).1 := by
  unfold linksI
  rw [List.take_add_one, List.getElem?_eq_getElem hi, Option.toList_some, List.foldl_append]; rfl
theorem makes_succ {ms : List MoveT} {i : Nat} (hi : i < ms.length) : makes (ms.take (i + 1)) = if ms[i].1 = 1 then makes (ms.take i) ++ [ms[i].2.2.2] else makes (ms.take i) := by
  unfold makes
  rw [List.take_add_one, List.getElem?_eq_getElem hi, Option.toList_some, List.filter_append, List.map_append]
  by_cases h : ms[i].1 = 1 <;> simp [h]
theorem makes_len (ms : List MoveT) : (makes ms).length ≤ ms.length := by
  unfold makes; rw [List.length_map]; exact List.length_filter_le _ _

theorem dec_le (a b : Int) : decide (a ≤ b) = !decide (b < a) := by
  by_cases h : b < a
  · have : ¬ a ≤ b := by omega
    simp [h, this]
  · have : a ≤ b := by omega
    simp [h, this]
theorem range_all {n : Nat} {p : Nat → Bool} : (List.range n).all p = true ↔ ∀ i, i < n → p i = true := by
  rw [List.all_eq_true]
  exact ⟨fun h i hi => h i (List.mem_range.2 hi), fun h i hi => h i (List.mem_range.1 hi)⟩
theorem ino_step {k : Nat} (hk : 9223372036854775808 ≤ k) (d : DiskT) (hs : Small d) (hn : 1 ≤ d.2.1) (hn2 : d.2.1 ≤ 1000000) (i : Nat) (hi : i < d.2.2.1.length) :
    spec_DiskOk.b0 k (false, (i : Int), d) = if pIS d i then some (.inl (false, ((i + 1 : Nat) : Int), d)) else some (.inr (.inr false)) := by
  have hl := hs.ino
  have e1 : decide ((i : Int) < (d.2.2.1.length : Int)) = true := by simp; omega
  have e2 : inb? d.2.2.1.length (i : Int) = some i := by rw [inb_ok (by omega) (by omega), Int.toNat_natCast]
  unfold spec_DiskOk.b0 pIS
  dsimp only
  simp only [e1, cond_true, e2, Option.bind_some, List.getElem?_eq_getElem hi, l1In_eq, specLinked hk _ _ (show d.2.2.2.1.length ≤ 4194304 by have := hs.dir; omega), specMade hk _ _ (show d.2.2.2.2.length ≤ 4194304 by have := hs.mov; omega), Prod.eta]
  simp (disch := omega) only [wrap_i64]
  obtain ⟨x, hx⟩ : ∃ x, d.2.2.1[i] = x := ⟨_, rfl⟩
  have hx? : d.2.2.1[i]? = some x := by rw [List.getElem?_eq_getElem hi, hx]
  rw [hx]
  have eL : (d.2.2.2.1.any fun y => decide (y.2 = x.1)) = linkB d.2.2.2.1 x.1 := rfl
  have eM : (d.2.2.2.2.any fun y => decide (y.1 = 1) && decide (y.2.2.2 = x.1)) = madeB d.2.2.2.2 x.1 := rfl
  have eA : (decide (1 ≤ x.1) && decide (x.1 ≤ d.2.1 - 1)) = rg x.1 1 (d.2.1 - 1) := rfl
  have eB : (decide (0 ≤ x.2.2) && decide (x.2.2 ≤ (x.2.1.size : Int))) = rg x.2.2 0 (x.2.1.size : Int) := rfl
  rw [eL, eM, eA, eB]
  by_cases h0 : i = 0
  · subst h0
    have e3 : decide (0 < ((0 : Nat) : Int)) = false := by simp
    have eu : upI d.2.2.1 0 = true := rfl
    rw [e3, eu]
    cases rg x.1 1 (d.2.1 - 1) <;> cases rg x.2.2 0 (x.2.1.size : Int) <;> cases linkB d.2.2.2.1 x.1 <;> cases madeB d.2.2.2.2 x.1 <;> rfl
  · have e3 : decide (0 < (i : Int)) = true := by simp; omega
    have e4 : inb? d.2.2.1.length ((i : Int) - 1) = some (i - 1) := by
      rw [inb_ok (by omega) (by omega)]; congr 1; omega
    have hi1 : i - 1 < d.2.2.1.length := by omega
    obtain ⟨y, hy⟩ : ∃ y, d.2.2.1[i - 1] = y := ⟨_, rfl⟩
    have hy? : d.2.2.1[i - 1]? = some y := by rw [List.getElem?_eq_getElem hi1, hy]
    have eu : upI d.2.2.1 i = decide (y.1 < x.1) := by unfold upI; rw [hx?, hy?, decide_eq_false h0]; rfl
    rw [e3, eu]
    simp only [cond_true, e4, Option.bind_some, hy?, dec_le x.1 y.1]
    cases rg x.1 1 (d.2.1 - 1) <;> cases rg x.2.2 0 (x.2.1.size : Int) <;> cases linkB d.2.2.2.1 x.1 <;> cases madeB d.2.2.2.2 x.1 <;> cases decide (y.1 < x.1) <;> rfl

theorem dir_step {k : Nat} (hk : 9223372036854775808 ≤ k) (d : DiskT) (hs : Small d) (i : Nat) (hi : i < d.2.2.2.1.length) :
    spec_DiskOk.b1 k (false, (i : Int), d) = if pD d i then some (.inl (false, ((i + 1 : Nat) : Int), d)) else some (.inr (.inr false)) := by
  have hl := hs.dir
  have e1 : decide ((i : Int) < (d.2.2.2.1.length : Int)) = true := by simp; omega
  have e2 : inb? d.2.2.2.1.length (i : Int) = some i := by rw [inb_ok (by omega) (by omega), Int.toNat_natCast]
  have e5 : cut? d.2.2.2.1.length 0 (i : Int) = some (0, i) := by rw [cut_ok (by omega) (by omega) (by omega)]; simp
  have htl : ((d.2.2.2.1.take i).drop 0).length ≤ 4194304 := by simp; omega
  unfold spec_DiskOk.b1 pD
  dsimp only
  simp only [e1, cond_true, e2, Option.bind_some, List.getElem?_eq_getElem hi, specName hk _ (hs.dirN _ (List.getElem_mem hi)), Prod.eta, e5, specInode hk d _ hs.ino, specLinked hk _ _ htl]
  simp (disch := omega) only [wrap_i64]
  obtain ⟨x, hx⟩ : ∃ x, d.2.2.2.1[i] = x := ⟨_, rfl⟩
  have hx? : d.2.2.2.1[i]? = some x := by rw [List.getElem?_eq_getElem hi, hx]
  rw [hx]
  have eL : (((d.2.2.2.1.take i).drop 0).any fun y => decide (y.2 = x.2)) = linkB (d.2.2.2.1.take i) x.2 := rfl
  have eH : decide (idxOf (fun y => decide (y.1 = x.2)) d.2.2.1 < 0) = !hasI d x.2 := by unfold hasI; rw [Bool.not_not]
  rw [eL, eH]
  by_cases h0 : i = 0
  · subst h0
    have e3 : decide (0 < ((0 : Nat) : Int)) = false := by simp
    have eu : upD d.2.2.2.1 0 = true := rfl
    rw [e3, eu]
    cases nameB x.1 <;> cases hasI d x.2 <;> cases linkB (d.2.2.2.1.take 0) x.2 <;> rfl
  · have e3 : decide (0 < (i : Int)) = true := by simp; omega
    have e4 : inb? d.2.2.2.1.length ((i : Int) - 1) = some (i - 1) := by
      rw [inb_ok (by omega) (by omega)]; congr 1; omega
    have hi1 : i - 1 < d.2.2.2.1.length := by omega
    obtain ⟨y, hy⟩ : ∃ y, d.2.2.2.1[i - 1] = y := ⟨_, rfl⟩
    have hy? : d.2.2.2.1[i - 1]? = some y := by rw [List.getElem?_eq_getElem hi1, hy]
    have eu : upD d.2.2.2.1 i = strLt y.1 x.1 := by unfold upD; rw [hx?, hy?, decide_eq_false h0]; rfl
    rw [e3, eu]
    simp only [cond_true, e4, Option.bind_some, hy?]
    cases nameB x.1 <;> cases hasI d x.2 <;> cases linkB (d.2.2.2.1.take i) x.2 <;> cases strLt y.1 x.1 <;> rfl

theorem mov_step {k : Nat} (hk : 9223372036854775808 ≤ k) (d : DiskT) (hs : Small d) (hd : d.2.2.2.1.length ≤ 10) (hm : d.2.2.2.2.length ≤ 20) (i : Nat) (hi : i < d.2.2.2.2.length) :
    spec_DiskOk.b2 k (false, linksS d.2.2.2.1 (d.2.2.2.2.take i), (i : Int), d) = if pMS d i then some (.inl (false, linksS d.2.2.2.1 (d.2.2.2.2.take (i + 1)), ((i + 1 : Nat) : Int), d)) else some (.inr (.inr false)) := by
  have e1 : decide ((i : Int) < (d.2.2.2.2.length : Int)) = true := by simp; omega
  have e2 : inb? d.2.2.2.2.length (i : Int) = some i := by rw [inb_ok (by omega) (by omega), Int.toNat_natCast]
  have e5 : cut? d.2.2.2.2.length 0 (i : Int) = some (0, i) := by rw [cut_ok (by omega) (by omega) (by omega)]; simp
  have htl : ((d.2.2.2.2.take i).drop 0).length ≤ 4194304 := by simp; omega
  have hll := linksS_len (d.2.2.2.2.take i) d.2.2.2.1
  rw [List.length_take] at hll
  obtain ⟨n1, n2⟩ := hs.movN _ (List.getElem_mem hi)
  rw [linksS_succ hi]
  obtain ⟨l, hl⟩ : ∃ l, linksS d.2.2.2.1 (d.2.2.2.2.take i) = l := ⟨_, rfl⟩
  unfold spec_DiskOk.b2 pMS
  rw [hl] at hll ⊢
  obtain ⟨m, hm'⟩ : ∃ m, d.2.2.2.2[i] = m := ⟨_, rfl⟩
  have hm? : d.2.2.2.2[i]? = some m := by rw [List.getElem?_eq_getElem hi, hm']
  rw [hm'] at n1 n2 ⊢
  dsimp only
  simp only [e1, cond_true, e2, Option.bind_some, hm?, Prod.eta, e5, specInode hk d _ hs.ino, specLinked hk _ _ (show d.2.2.2.1.length ≤ 4194304 by have := hs.dir; omega), specMade hk _ _ htl]
  have eL : (d.2.2.2.1.any fun y => decide (y.2 = m.2.2.2)) = linkB d.2.2.2.1 m.2.2.2 := rfl
  have eM : (((d.2.2.2.2.take i).drop 0).any fun y => decide (y.1 = 1) && decide (y.2.2.2 = m.2.2.2)) = madeB (d.2.2.2.2.take i) m.2.2.2 := rfl
  have eH : decide (idxOf (fun y => decide (y.1 = m.2.2.2)) d.2.2.1 < 0) = !hasI d m.2.2.2 := by unfold hasI; rw [Bool.not_not]
  rw [eL, eM, eH]
  have ec : spec_DiskOk.c0 k (false, l, (i : Int), d, m) = if (applyS l m).2 then some (.inl (false, (applyS l m).1, ((i + 1 : Nat) : Int), d)) else some (.inr (.inr false)) := by
    unfold spec_DiskOk.c0
    dsimp only
    simp only [Prod.eta, specApply hk l m (by omega) n1 n2, Option.bind_some]
    rw [wrap_i64 (by omega) (by omega)]
    cases (applyS l m).2 <;> rfl
  cases decide (m.1 = 1) <;> cases linkB d.2.2.2.1 m.2.2.2 <;> cases madeB (d.2.2.2.2.take i) m.2.2.2 <;> cases hasI d m.2.2.2 <;> simp [ec]

theorem specOk {k : Nat} (hk : 9223372036854775808 ≤ k) (d : DiskT) (hs : Small d) : spec_DiskOk.f k d = some (diskS d) := by
  unfold spec_DiskOk.f diskS
  simp only [l1In_eq, Option.bind_some, Prod.eta, specBytes hk d hs]
  refine bif_ff fun h1 => bif_ff fun h2 => bif_gt fun h3 => bif_gt fun h4 => bif_gt fun h5 => bif_gt fun h6 => ?_
  simp only [Bool.and_eq_true, decide_eq_true_eq] at h2
  have hl := hs.ino
  have key := all_iter2 (B := spec_DiskOk.b0 k) d.2.2.1.length (fun i => (false, (i : Int), d)) (pIS d) (.inl (false, d)) (.inr false) (fun i hi _ => ino_step hk d hs h2.1 h2.2 i hi) (fun _ => by
    have e1 : decide ((d.2.2.1.length : Int) < (d.2.2.1.length : Int)) = false := by simp
    unfold spec_DiskOk.b0
    dsimp only
    rw [e1]; rfl) k (by omega)
  have key1 := all_iter2 (B := spec_DiskOk.b1 k) d.2.2.2.1.length (fun i => (false, (i : Int), d)) (pD d) (.inl (false, d)) (.inr false) (fun i hi _ => dir_step hk d hs i hi) (fun _ => by
    have e1 : decide ((d.2.2.2.1.length : Int) < (d.2.2.2.1.length : Int)) = false := by simp
    unfold spec_DiskOk.b1
    dsimp only
    rw [e1]; rfl) k (by omega)
  have key2 := all_iter2 (B := spec_DiskOk.b2 k) d.2.2.2.2.length (fun i => (false, linksS d.2.2.2.1 (d.2.2.2.2.take i), (i : Int), d)) (pMS d) (.inl false) (.inr false) (fun i hi _ => mov_step hk d hs (by omega) (by omega) i hi) (fun _ => by
    have e1 : decide ((d.2.2.2.2.length : Int) < (d.2.2.2.2.length : Int)) = false := by simp
    unfold spec_DiskOk.b2
    dsimp only
    rw [e1]; rfl) k (by omega)
  have e0 : ((0 : Nat) : Int) = 0 := rfl
  simp only [e0, List.take_zero] at key key1 key2
  rw [key]
  cases (List.range d.2.2.1.length).all (pIS d) with
  | false => rfl
  | true =>
    simp only [if_true, Option.bind_some, Bool.true_and]
    unfold spec_DiskOk.d0
    simp only [Prod.eta]
    rw [key1]
    cases (List.range d.2.2.2.1.length).all (pD d) with
    | false => rfl
    | true =>
      simp only [if_true, Option.bind_some, Bool.true_and]
      unfold spec_DiskOk.d1
      dsimp only
      rw [app_ok (by unfold limOf; simp only [List.length_nil]; omega)]
      simp only [Option.bind_some, List.nil_append, Prod.eta]
      have e7 : linksS d.2.2.2.1 [] = d.2.2.2.1 := rfl
      rw [e7] at key2
      rw [key2]
      cases (List.range d.2.2.2.2.length).all (pMS d) <;> rfl

theorem inoI_step {k : Nat} (hk : 9223372036854775808 ≤ k) (d : DiskT) (hs : Small d) (hn : 1 ≤ d.2.1) (hn2 : d.2.1 ≤ 1000000) (i : Nat) (hi : i < d.2.2.1.length) :
    impl_DiskOk.b0 k (false, d.2.2.1, (d.2.2.1.length : Int), (i : Int), d) = if pI d i then some (.inl (false, d.2.2.1, (d.2.2.1.length : Int), ((i + 1 : Nat) : Int), d)) else some (.inr (.inr false)) := by
  have hl := hs.ino
  have e1 : decide ((i : Int) < (d.2.2.1.length : Int)) = true := by simp; omega
  have e2 : inb? d.2.2.1.length (i : Int) = some i := by rw [inb_ok (by omega) (by omega), Int.toNat_natCast]
  unfold impl_DiskOk.b0 pI
  dsimp only
  simp only [e1, cond_true, e2, Option.bind_some, List.getElem?_eq_getElem hi, within_eq, Prod.eta]
  simp (disch := omega) only [wrap_i64]
  obtain ⟨x, hx⟩ : ∃ x, d.2.2.1[i] = x := ⟨_, rfl⟩
  have hx? : d.2.2.1[i]? = some x := by rw [List.getElem?_eq_getElem hi, hx]
  rw [hx]
  have eA : (decide (1 ≤ x.1) && decide (x.1 ≤ d.2.1 - 1)) = rg x.1 1 (d.2.1 - 1) := rfl
  have eB : (decide (0 ≤ x.2.2) && decide (x.2.2 ≤ (x.2.1.size : Int))) = rg x.2.2 0 (x.2.1.size : Int) := rfl
  rw [eA, eB]
  by_cases h0 : i = 0
  · subst h0
    have e3 : decide (0 < ((0 : Nat) : Int)) = false := by simp
    have eu : upI d.2.2.1 0 = true := rfl
    rw [e3, eu]
    cases rg x.1 1 (d.2.1 - 1) <;> cases rg x.2.2 0 (x.2.1.size : Int) <;> rfl
  · have e3 : decide (0 < (i : Int)) = true := by simp; omega
    have e4 : inb? d.2.2.1.length ((i : Int) - 1) = some (i - 1) := by
      rw [inb_ok (by omega) (by omega)]; congr 1; omega
    have hi1 : i - 1 < d.2.2.1.length := by omega
    obtain ⟨y, hy⟩ : ∃ y, d.2.2.1[i - 1] = y := ⟨_, rfl⟩
    have hy? : d.2.2.1[i - 1]? = some y := by rw [List.getElem?_eq_getElem hi1, hy]
    have eu : upI d.2.2.1 i = decide (y.1 < x.1) := by unfold upI; rw [hx?, hy?, decide_eq_false h0]; rfl
    rw [e3, eu]
    simp only [cond_true, e4, Option.bind_some, hy?, dec_le x.1 y.1]
    cases rg x.1 1 (d.2.1 - 1) <;> cases rg x.2.2 0 (x.2.1.size : Int) <;> cases decide (y.1 < x.1) <;> rfl

def idsD (d : DiskT) (i : Nat) : List Int := (d.2.2.2.1.take i).map (·.2)
theorem idsD_mem {d : DiskT} {i : Nat} {n : Int} : decide (n ∈ idsD d i) = linkB (d.2.2.2.1.take i) n := by
  unfold idsD linkB
  cases h : (d.2.2.2.1.take i).any fun x => decide (x.2 = n) with
  | true =>
    obtain ⟨x, hx, hp⟩ := List.any_eq_true.1 h
    rw [decide_eq_true_eq, List.mem_map]
    exact ⟨x, hx, of_decide_eq_true hp⟩
  | false =>
    rw [decide_eq_false_iff_not, List.mem_map]
    rintro ⟨x, hx, rfl⟩
    rw [List.any_eq_true.2 ⟨x, hx, by simp⟩] at h; cases h

theorem dirI_step {k : Nat} (hk : 9223372036854775808 ≤ k) (d : DiskT) (hs : Small d) (i : Nat) (hi : i < d.2.2.2.1.length) :
    impl_Disk_linksOk.b0 k (false, idsD d i, d.2.2.2.1, (d.2.2.2.1.length : Int), (i : Int), d) = if pD d i then some (.inl (false, idsD d (i + 1), d.2.2.2.1, (d.2.2.2.1.length : Int), ((i + 1 : Nat) : Int), d)) else some (.inr (.inr false)) := by
  have hl := hs.dir
  have e1 : decide ((i : Int) < (d.2.2.2.1.length : Int)) = true := by simp; omega
  have e2 : inb? d.2.2.2.1.length (i : Int) = some i := by rw [inb_ok (by omega) (by omega), Int.toNat_natCast]
  have hil : (idsD d i).length ≤ 1048576 := by unfold idsD; simp; omega
  have hsu : idsD d (i + 1) = idsD d i ++ [d.2.2.2.1[i].2] := by
    unfold idsD; rw [List.take_add_one, List.getElem?_eq_getElem hi, Option.toList_some, List.map_append]; rfl
  rw [hsu]
  unfold impl_Disk_linksOk.b0 pD impl_Disk_linksOk.c0
  dsimp only
  simp only [e1, cond_true, e2, Option.bind_some, List.getElem?_eq_getElem hi, implName hk _ (hs.dirN _ (List.getElem_mem hi)), Prod.eta, implInode hk d _ hs.ino, implContains hk (idsD d i) _ (show (idsD d i).length ≤ 4194304 by omega), idsD_mem]
  simp (disch := omega) only [wrap_i64]
  obtain ⟨x, hx⟩ : ∃ x, d.2.2.2.1[i] = x := ⟨_, rfl⟩
  have hx? : d.2.2.2.1[i]? = some x := by rw [List.getElem?_eq_getElem hi, hx]
  rw [hx]
  have eH : decide (idxOf (fun y => decide (y.1 = x.2)) d.2.2.1 < 0) = !hasI d x.2 := by unfold hasI; rw [Bool.not_not]
  have ea : app? (limOf 8) (idsD d i) [x.2] = some (idsD d i ++ [x.2]) := app_ok (by unfold limOf; simp only [List.length_cons, List.length_nil]; omega)
  rw [eH]
  by_cases h0 : i = 0
  · subst h0
    have e3 : decide (0 < ((0 : Nat) : Int)) = false := by simp
    have eu : upD d.2.2.2.1 0 = true := rfl
    rw [e3, eu]
    cases nameB x.1 <;> cases hasI d x.2 <;> cases linkB (d.2.2.2.1.take 0) x.2 <;> simp [ea, show IntKind.wrap .i64 1 = 1 from rfl]
  · have e3 : decide (0 < (i : Int)) = true := by simp; omega
    have ew : IntKind.wrap .i64 ((i : Int) + 1) = i + 1 := wrap_i64 (by omega) (by omega)
    have e4 : inb? d.2.2.2.1.length ((i : Int) - 1) = some (i - 1) := by
      rw [inb_ok (by omega) (by omega)]; congr 1; omega
    have hi1 : i - 1 < d.2.2.2.1.length := by omega
    obtain ⟨y, hy⟩ : ∃ y, d.2.2.2.1[i - 1] = y := ⟨_, rfl⟩
    have hy? : d.2.2.2.1[i - 1]? = some y := by rw [List.getElem?_eq_getElem hi1, hy]
    have eu : upD d.2.2.2.1 i = strLt y.1 x.1 := by unfold upD; rw [hx?, hy?, decide_eq_false h0]; rfl
    rw [e3, eu]
    simp only [cond_true, e4, Option.bind_some, hy?]
    cases nameB x.1 <;> cases hasI d x.2 <;> cases linkB (d.2.2.2.1.take i) x.2 <;> cases strLt y.1 x.1 <;> simp [ea, ew]

def idsM (d : DiskT) (i : Nat) : List Int := d.2.2.2.1.map (·.2) ++ makes (d.2.2.2.2.take i)

theorem movI_step {k : Nat} (hk : 9223372036854775808 ≤ k) (d : DiskT) (hs : Small d) (hm : d.2.2.2.2.length ≤ 20) (i : Nat) (hi : i < d.2.2.2.2.length) :
    impl_Disk_linksOk.b1 k (false, idsM d i, linksI d.2.2.2.1 (d.2.2.2.2.take i), d.2.2.2.2, (d.2.2.2.2.length : Int), (i : Int), d) = if pMI d i then some (.inl (false, idsM d (i + 1), linksI d.2.2.2.1 (d.2.2.2.2.take (i + 1)), d.2.2.2.2, (d.2.2.2.2.length : Int), ((i + 1 : Nat) : Int), d)) else some (.inr (.inr false)) := by
  have e1 : decide ((i : Int) < (d.2.2.2.2.length : Int)) = true := by simp; omega
  have e2 : inb? d.2.2.2.2.length (i : Int) = some i := by rw [inb_ok (by omega) (by omega), Int.toNat_natCast]
  have hll := linksI_len (d.2.2.2.2.take i) d.2.2.2.1
  rw [List.length_take] at hll
  have hml := makes_len (d.2.2.2.2.take i)
  rw [List.length_take] at hml
  have hdl := hs.dir
  have hil : (idsM d i).length ≤ 4194304 := by unfold idsM; simp only [List.length_append, List.length_map]; omega
  obtain ⟨n1, n2⟩ := hs.movN _ (List.getElem_mem hi)
  have hsu : idsM d (i + 1) = if d.2.2.2.2[i].1 = 1 then idsM d i ++ [d.2.2.2.2[i].2.2.2] else idsM d i := by
    unfold idsM; rw [makes_succ hi]; split <;> simp
  have eI : (d.2.2.2.1.map (·.2) ++ makes (d.2.2.2.2.take i)) = idsM d i := rfl
  unfold impl_Disk_linksOk.b1 pMI
  rw [linksI_succ hi, hsu]
  rw [eI]
  obtain ⟨l, hl⟩ : ∃ l, linksI d.2.2.2.1 (d.2.2.2.2.take i) = l := ⟨_, rfl⟩
  rw [hl] at hll ⊢
  obtain ⟨m, hm'⟩ : ∃ m, d.2.2.2.2[i] = m := ⟨_, rfl⟩
  have hm? : d.2.2.2.2[i]? = some m := by rw [List.getElem?_eq_getElem hi, hm']
  rw [hm'] at n1 n2 ⊢
  dsimp only
  simp only [e1, cond_true, e2, Option.bind_some, hm?, Prod.eta, implApply hk l m (by omega) n2, implName hk _ n1, implInode hk d _ hs.ino, implContains hk (idsM d i) _ (show (idsM d i).length ≤ 4194304 by omega)]
  simp (disch := omega) only [wrap_i64]
  have ea : app? (limOf 8) (idsM d i) [m.2.2.2] = some (idsM d i ++ [m.2.2.2]) := app_ok (by unfold limOf; simp only [List.length_cons, List.length_nil]; omega)
  have eH : decide (idxOf (fun y => decide (y.1 = m.2.2.2)) d.2.2.1 < 0) = !hasI d m.2.2.2 := by unfold hasI; rw [Bool.not_not]
  rw [eH, ea]
  by_cases c : m.1 = 1 <;> cases (applyI l m).2 <;> cases nameB m.2.1 <;> cases hasI d m.2.2.2 <;> cases decide (m.2.2.2 ∈ idsM d i) <;> simp [c]

theorem implOk {k : Nat} (hk : 9223372036854775808 ≤ k) (d : DiskT) (hs : Small d) : impl_DiskOk.f k d = some (diskI d) := by
  unfold impl_DiskOk.f diskI
  simp only [within_eq, Option.bind_some, Prod.eta, implBytes hk d hs]
  refine bif_ff fun h1 => bif_ff fun h2 => bif_gt fun h3 => bif_gt fun h4 => bif_gt fun h5 => ?_
  simp only [Bool.and_eq_true, decide_eq_true_eq] at h2
  have hl := hs.ino
  have hdl := hs.dir
  have key := all_iter2 (B := impl_DiskOk.b0 k) d.2.2.1.length (fun i => (false, d.2.2.1, (d.2.2.1.length : Int), (i : Int), d)) (pI d) (.inl (false, d)) (.inr false) (fun i hi _ => inoI_step hk d hs h2.1 h2.2 i hi) (fun _ => by
    have e1 : decide ((d.2.2.1.length : Int) < (d.2.2.1.length : Int)) = false := by simp
    unfold impl_DiskOk.b0
    dsimp only
    rw [e1]; rfl) k (by omega)
  have key1 := all_iter2 (B := impl_Disk_linksOk.b0 k) d.2.2.2.1.length (fun i => (false, idsD d i, d.2.2.2.1, (d.2.2.2.1.length : Int), (i : Int), d)) (pD d) (.inl (false, idsM d 0, d)) (.inr false) (fun i hi _ => dirI_step hk d hs i hi) (fun _ => by
    have e1 : decide ((d.2.2.2.1.length : Int) < (d.2.2.2.1.length : Int)) = false := by simp
    unfold impl_Disk_linksOk.b0
    dsimp only
    rw [e1]
    simp [idsD, idsM, makes]) k (by omega)
  have e0 : ((0 : Nat) : Int) = 0 := rfl
  simp only [e0] at key key1
  rw [key]
  cases (List.range d.2.2.1.length).all (pI d) with
  | false => rfl
  | true =>
    simp only [if_true, Option.bind_some, Bool.true_and]
    unfold impl_DiskOk.d0 impl_Disk_linksOk.f
    simp only [Prod.eta]
    have ei : idsD d 0 = [] := rfl
    rw [ei] at key1
    rw [key1]
    cases hD : (List.range d.2.2.2.1.length).all (pD d) with
    | false => rfl
    | true =>
      -- names that rise are few
      simp only [if_true, Option.bind_some, Bool.true_and]
      unfold impl_Disk_linksOk.d0 impl_copyLinks.f
      dsimp only
      rw [app_ok (by unfold limOf; simp only [List.length_nil]; omega)]
      simp only [Option.bind_some, List.nil_append, Prod.eta]
      · have key2 := all_iter2 (B := impl_Disk_linksOk.b1 k) d.2.2.2.2.length (fun i => (false, idsM d i, linksI d.2.2.2.1 (d.2.2.2.2.take i), d.2.2.2.2, (d.2.2.2.2.length : Int), (i : Int), d)) (pMI d) (.inl (false, idsM d d.2.2.2.2.length, d)) (.inr false) (fun i hi _ => movI_step hk d hs (by omega) i hi) (fun _ => by
          have e1 : decide ((d.2.2.2.2.length : Int) < (d.2.2.2.2.length : Int)) = false := by simp
          unfold impl_Disk_linksOk.b1
          dsimp only
          rw [e1]; rfl) k (by omega)
        simp only [e0, List.take_zero] at key2
        have e7 : linksI d.2.2.2.1 [] = d.2.2.2.1 := rfl
        rw [e7] at key2
        rw [key2]
        cases (List.range d.2.2.2.2.length).all (pMI d) with
        | false => rfl
        | true =>
          simp only [if_true, Option.bind_some, Bool.true_and]
          unfold impl_Disk_linksOk.d1
          dsimp only
          unfold idsM
          rw [List.take_length]
          rfl

theorem bytesLess_dec : ∀ (x y : List UInt8), Op.bytesLess x y = decide (x < y)
  | [], [] => by simp [Op.bytesLess]
  | _ :: _, [] => by simp [Op.bytesLess]
  | [], _ :: _ => by simp [Op.bytesLess]
  | a :: x, b :: y => by
    rw [Op.bytesLess, bytesLess_dec x y]
    simp only [List.cons_lt_cons_iff]
    by_cases h1 : a < b <;> by_cases h2 : a = b <;> by_cases h3 : x < y <;> simp [h1, h2, h3]
theorem strLt_dec (a b : ByteArray) : strLt a b = decide (a.toList < b.toList) := by
  unfold strLt; exact bytesLess_dec _ _
theorem strLt_irr (a : ByteArray) : strLt a a = false := by
  rw [strLt_dec]; simp [List.lt_irrefl]
theorem strLt_trans {a b c : ByteArray} (h1 : strLt a b = true) (h2 : strLt b c = true) : strLt a c = true := by
  rw [strLt_dec, decide_eq_true_eq] at *
  exact List.lt_trans h1 h2
theorem baInj {a b : ByteArray} (h : a.toList = b.toList) : a = b :=
  of_decide_eq_true (by rw [← toList_inj]; simp [h])
theorem strLt_tri {a b : ByteArray} (h : a ≠ b) : strLt a b = !strLt b a := by
  rw [strLt_dec, strLt_dec]
  by_cases c : a.toList < b.toList
  · have : ¬ b.toList < a.toList := fun d => List.lt_irrefl _ (List.lt_trans c d)
    simp [c, this]
  · by_cases c2 : b.toList < a.toList
    · simp [c, c2]
    · exact absurd (baInj (List.le_antisymm (List.not_lt.1 c2) (List.not_lt.1 c))) h

/-- nodup rows within others are no longer -/
theorem nodup_le {α : Type} [DecidableEq α] : ∀ {a b : List α}, a.Nodup → (∀ x ∈ a, x ∈ b) → a.length ≤ b.length
  | [], b, _, _ => by simp
  | x :: a, b, hn, hs => by
    obtain ⟨h1, h2⟩ := List.nodup_cons.1 hn
    have := nodup_le (b := b.erase x) h2 fun y hy => (List.mem_erase_of_ne (fun (e : y = x) => h1 (e ▸ hy))).2 (hs y (by simp [hy]))
    have hx := hs x (by simp)
    rw [List.length_erase_of_mem hx] at this
    have := List.length_pos_of_mem hx
    simp only [List.length_cons]
    omega

/-- links whose names rise -/
def Srt (l : List LinkT) : Prop := l.Pairwise fun x y => strLt x.1 y.1 = true

theorem Srt.ne {x y : LinkT} (h : strLt x.1 y.1 = true) : x.1 ≠ y.1 := fun e => by rw [e, strLt_irr] at h; cases h

theorem mem_without {l : List LinkT} {n : ByteArray} {y : LinkT} : y ∈ withoutM l n ↔ y ∈ l ∧ y.1 ≠ n := by
  unfold withoutM; simp [List.mem_filter]
theorem without_self {l : List LinkT} {n : ByteArray} (h : ∀ y ∈ l, y.1 ≠ n) : withoutM l n = l := by
  unfold withoutM
  exact List.filter_eq_self.2 fun y hy => by simp [h y hy]

theorem insM_congr {p q : LinkT → Bool} {x : LinkT} {l : List LinkT} (h : ∀ y ∈ l, p y = q y) : insM p x l = insM q x l := by
  unfold insM
  induction l with
  | nil => rfl
  | cons y l ih =>
    have hy := h y (by simp)
    simp only [List.takeWhile, List.dropWhile, hy]
    cases hq : q y with
    | true => simp
    | false =>
      have := ih fun z hz => h z (by simp [hz])
      simpa using this

theorem ins_same {l : List LinkT} {x : LinkT} (h : ∀ y ∈ l, y.1 ≠ x.1) : insM (fun y => strLt x.1 y.1) x l = linkI l x := by
  unfold linkI
  exact insM_congr fun y hy => strLt_tri (fun e => h y hy e.symm)

theorem linkI_srt {l : List LinkT} {x : LinkT} (hs : Srt l) (h : ∀ y ∈ l, y.1 ≠ x.1) : Srt (linkI l x) := by
  unfold linkI insM Srt
  have e := List.takeWhile_append_dropWhile (p := fun y : LinkT => !(fun y : LinkT => !strLt y.1 x.1) y) (l := l)
  simp only [Bool.not_not] at e ⊢
  obtain ⟨A, hA⟩ : ∃ A, l.takeWhile (fun y : LinkT => strLt y.1 x.1) = A := ⟨_, rfl⟩
  obtain ⟨B, hB⟩ : ∃ B, l.dropWhile (fun y : LinkT => strLt y.1 x.1) = B := ⟨_, rfl⟩
  have hAx : ∀ a ∈ A, strLt a.1 x.1 = true := fun a ha => by
    rw [← hA] at ha
    exact List.all_eq_true.1 (List.all_takeWhile (l := l) (p := fun y : LinkT => strLt y.1 x.1)) a ha
  have hBh : ∀ b B', B = b :: B' → strLt b.1 x.1 = false := fun b B' hb => by
    have := List.head?_dropWhile_not (p := fun y : LinkT => strLt y.1 x.1) (l := l)
    rw [hB, hb] at this
    simpa using this
  rw [hA, hB] at e ⊢
  unfold Srt at hs
  rw [← e, List.pairwise_append] at hs
  obtain ⟨h1, h2, h3⟩ := hs
  have hBx : ∀ b ∈ B, strLt x.1 b.1 = true := fun b hb => by
    cases B with
    | nil => simp at hb
    | cons b0 B' =>
      have h0 := hBh b0 B' rfl
      have hx0 : strLt x.1 b0.1 = true := by
        rw [strLt_tri (fun e' => h b0 (by rw [← e]; simp) e'.symm), h0]; rfl
      rcases List.mem_cons.1 hb with rfl | hb
      · exact hx0
      · exact strLt_trans hx0 ((List.pairwise_cons.1 h2).1 b hb)
  refine List.pairwise_append.2 ⟨h1, List.pairwise_cons.2 ⟨hBx, h2⟩, fun a ha b hb => ?_⟩
  rcases List.mem_cons.1 hb with rfl | hb
  · exact hAx a ha
  · exact h3 a ha b hb

theorem without_twice (l : List LinkT) (a b : ByteArray) : withoutM (withoutM l a) b = l.filter fun x => !(decide (x.1 = a) || decide (x.1 = b)) := by
  unfold withoutM
  rw [List.filter_filter]
  exact List.filter_congr fun x _ => by cases decide (x.1 = a) <;> cases decide (x.1 = b) <;> rfl

theorem at_neg {l : List LinkT} {n : ByteArray} : at? l n < 0 ↔ ∀ y ∈ l, y.1 ≠ n := by
  unfold at?
  rw [idxOf_neg]
  exact ⟨fun h y hy => by simpa using h y hy, fun h y hy => by simpa using h y hy⟩

theorem drop_one {l : List LinkT} {n : ByteArray} (hs : Srt l) (h : 0 ≤ at? l n) : withoutM l n = l.take (at? l n).toNat ++ l.drop ((at? l n).toNat + 1) := by
  obtain ⟨i, hi, he, hp, hq⟩ := idxOf_ge (p := fun x : LinkT => decide (x.1 = n)) (l := l) (by unfold at? at h; omega)
  have e : (at? l n).toNat = i := by unfold at?; rw [he]; simp
  rw [e]
  have hp : l[i].1 = n := of_decide_eq_true hp
  unfold Srt at hs
  have hl : l = l.take i ++ l[i] :: l.drop (i + 1) := by rw [← List.drop_eq_getElem_cons hi, List.take_append_drop]
  have hs' := hs
  rw [hl, List.pairwise_append] at hs'
  obtain ⟨h1, h2, h3⟩ := hs'
  conv => lhs; rw [hl]
  unfold withoutM
  rw [List.filter_append, List.filter_cons]
  simp only [hp, decide_true, Bool.not_true, Bool.false_eq_true, if_false]
  congr 1
  · refine List.filter_eq_self.2 fun y hy => ?_
    have := Srt.ne (h3 y hy l[i] List.mem_cons_self)
    rw [hp] at this
    simp [this]
  · refine List.filter_eq_self.2 fun y hy => ?_
    have := Srt.ne ((List.pairwise_cons.1 h2).1 y hy)
    rw [hp] at this
    simp [Ne.symm this]

theorem apply_same {l : List LinkT} {m : MoveT} (hs : Srt l) (hn : nameB m.2.1 = true) : applyI l m = applyS l m := by
  unfold applyI applyS
  rw [if_neg (show ¬ nameB m.2.1 = false by rw [hn]; simp)]
  by_cases c1 : m.1 = 1 ∧ m.2.2.1 = ⟨#[]⟩ ∧ at? l m.2.1 < 0
  · rw [if_pos c1, if_pos c1]
    have hne := at_neg.1 c1.2.2
    unfold withS
    rw [without_self hne, ins_same hne]
  · rw [if_neg c1, if_neg c1]
    by_cases c2 : m.1 = 2 ∧ m.2.2.2 = 0 ∧ 0 ≤ at? l m.2.1 ∧ m.2.2.1 ≠ m.2.1 ∧ nameB m.2.2.1 = true
    · rw [if_pos c2, if_pos ⟨c2.1, c2.2.1, c2.2.2.1, c2.2.2.2.2, c2.2.2.2.1⟩]
      unfold withS
      rw [without_twice, ins_same]
      intro y hy
      have := (List.mem_filter.1 hy).2
      intro e
      simp only at e
      rw [e] at this; simp at this
    · rw [if_neg c2, if_neg (show ¬ (m.1 = 2 ∧ m.2.2.2 = 0 ∧ 0 ≤ at? l m.2.1 ∧ nameB m.2.2.1 = true ∧ m.2.2.1 ≠ m.2.1) from fun c => c2 ⟨c.1, c.2.1, c.2.2.1, c.2.2.2.2, c.2.2.2.1⟩)]
      by_cases c3 : m.1 = 3 ∧ m.2.2.1 = ⟨#[]⟩ ∧ m.2.2.2 = 0 ∧ 0 ≤ at? l m.2.1
      · rw [if_pos c3, if_pos ⟨c3.1, c3.2.2.1, c3.2.1, c3.2.2.2⟩, drop_one hs c3.2.2.2]
      · rw [if_neg c3, if_neg (show ¬ (m.1 = 3 ∧ m.2.2.2 = 0 ∧ m.2.2.1 = ⟨#[]⟩ ∧ 0 ≤ at? l m.2.1) from fun c => c3 ⟨c.1, c.2.2.1, c.2.1, c.2.2.2⟩)]

theorem without_srt {l : List LinkT} {n : ByteArray} (hs : Srt l) : Srt (withoutM l n) := hs.filter _

theorem apply_srt {l : List LinkT} {m : MoveT} (hs : Srt l) : Srt (applyS l m).1 := by
  unfold applyS
  split
  · exact hs
  · split
    · unfold withS
      rw [ins_same fun y hy => (mem_without.1 hy).2]
      exact linkI_srt (without_srt hs) fun y hy => (mem_without.1 hy).2
    · split
      · unfold withS
        rw [ins_same fun y hy => (mem_without.1 hy).2]
        exact linkI_srt (without_srt (without_srt hs)) fun y hy => (mem_without.1 hy).2
      · split
        · exact without_srt hs
        · exact hs

theorem apply_name {l : List LinkT} {m : MoveT} (h : (applyS l m).2 = true) : nameB m.2.1 = true := by
  unfold applyS at h
  split at h
  · cases h
  · rename_i hn; simpa using hn

/-- names that rise, step by step -/
theorem srt_of {l : List LinkT} (h : ∀ i, i < l.length → upD l i = true) : Srt l := by
  unfold Srt
  rw [List.pairwise_iff_getElem]
  have step : ∀ i, ∀ hi : i + 1 < l.length, strLt l[i].1 l[i + 1].1 = true := fun i hi => by
    have := h (i + 1) hi
    unfold upD at this
    rw [show i + 1 - 1 = i by omega, List.getElem?_eq_getElem hi, List.getElem?_eq_getElem (show i < l.length by omega)] at this
    simpa using this
  intro i j hi hj hij
  induction j with
  | zero => omega
  | succ j ih =>
    by_cases e : i = j
    · subst e; exact step i hj
    · exact strLt_trans (ih (by omega) (by omega)) (step j hj)

theorem all_same {n : Nat} {p q : Nat → Bool} (h : ∀ i, i < n → (∀ j, j < i → p j = true) → p i = q i) : (List.range n).all p = (List.range n).all q := by
  by_cases hp : ∀ i, i < n → p i = true
  · have hq : ∀ i, i < n → q i = true := fun i hi => by rw [← h i hi fun j hj => hp j (by omega)]; exact hp i hi
    rw [range_all.2 hp, range_all.2 hq]
  · have e1 : (List.range n).all p = false := by
      cases c : (List.range n).all p with
      | false => rfl
      | true => exact absurd (range_all.1 c) hp
    rw [e1]
    cases c : (List.range n).all q with
    | false => rfl
    | true =>
      exfalso
      have hq := range_all.1 c
      refine hp fun i => ?_
      induction i using Nat.strongRecOn with
      | _ i ih =>
        intro hi
        rw [h i hi fun j hj => ih j hj (by omega)]
        exact hq i hi

theorem links_same {d : DiskT} (hd : (List.range d.2.2.2.1.length).all (pD d) = true) : ∀ i, i ≤ d.2.2.2.2.length → (∀ j, j < i → pMS d j = true) → linksI d.2.2.2.1 (d.2.2.2.2.take i) = linksS d.2.2.2.1 (d.2.2.2.2.take i) ∧ Srt (linksS d.2.2.2.1 (d.2.2.2.2.take i))
  | 0, _, _ => by
    refine ⟨by simp [linksI, linksS], ?_⟩
    simp only [List.take_zero, linksS, List.foldl_nil]
    refine srt_of fun i hi => ?_
    have := range_all.1 hd i hi
    unfold pD at this
    rw [List.getElem?_eq_getElem hi] at this
    simp only [Bool.and_eq_true] at this
    exact this.2.1
  | i + 1, hi, hp => by
    obtain ⟨h1, h2⟩ := links_same hd i (by omega) fun j hj => hp j (by omega)
    have hm := hp i (by omega)
    unfold pMS at hm
    have hi' : i < d.2.2.2.2.length := by omega
    rw [List.getElem?_eq_getElem hi'] at hm
    simp only [Bool.and_eq_true] at hm
    rw [linksI_succ hi', linksS_succ hi', h1]
    exact ⟨by rw [apply_same h2 (apply_name hm.2)], apply_srt h2⟩

theorem mem_makes {ms : List MoveT} {n : Int} : decide (n ∈ makes ms) = madeB ms n := by
  unfold makes madeB
  cases h : ms.any fun x => decide (x.1 = 1) && decide (x.2.2.2 = n) with
  | true =>
    obtain ⟨x, hx, hp⟩ := List.any_eq_true.1 h
    simp only [Bool.and_eq_true, decide_eq_true_eq] at hp
    rw [decide_eq_true_eq, List.mem_map]
    exact ⟨x, List.mem_filter.2 ⟨hx, by simp [hp.1]⟩, hp.2⟩
  | false =>
    rw [decide_eq_false_iff_not, List.mem_map]
    rintro ⟨x, hx, rfl⟩
    obtain ⟨h1, h2⟩ := List.mem_filter.1 hx
    rw [List.any_eq_true.2 ⟨x, h1, by simpa using h2⟩] at h; cases h
theorem mem_dir {l : List LinkT} {n : Int} : decide (n ∈ l.map (·.2)) = linkB l n := by
  unfold linkB
  cases h : l.any fun x => decide (x.2 = n) with
  | true =>
    obtain ⟨x, hx, hp⟩ := List.any_eq_true.1 h
    rw [decide_eq_true_eq, List.mem_map]
    exact ⟨x, hx, of_decide_eq_true hp⟩
  | false =>
    rw [decide_eq_false_iff_not, List.mem_map]
    rintro ⟨x, hx, rfl⟩
    rw [List.any_eq_true.2 ⟨x, hx, by simp⟩] at h; cases h
theorem mem_ids {l : List LinkT} {ms : List MoveT} {n : Int} : decide (n ∈ l.map (·.2) ++ makes ms) = (linkB l n || madeB ms n) := by
  rw [← mem_dir, ← mem_makes]
  by_cases h1 : n ∈ l.map (·.2) <;> by_cases h2 : n ∈ makes ms <;> simp [h1, h2]

theorem moves_same {d : DiskT} (hd : (List.range d.2.2.2.1.length).all (pD d) = true) : (List.range d.2.2.2.2.length).all (pMS d) = (List.range d.2.2.2.2.length).all (pMI d) := by
  refine all_same fun i hi hp => ?_
  obtain ⟨h1, h2⟩ := links_same hd i (by omega) hp
  unfold pMS pMI
  rw [List.getElem?_eq_getElem hi]
  simp only
  obtain ⟨m, hm⟩ : ∃ m, d.2.2.2.2[i] = m := ⟨_, rfl⟩
  rw [hm, mem_ids, h1]
  cases hn : nameB m.2.1 with
  | false =>
    have : (applyS (linksS d.2.2.2.1 (d.2.2.2.2.take i)) m).2 = false := by unfold applyS; rw [if_pos hn]
    rw [this]; simp
  | true =>
    rw [apply_same h2 hn]
    cases (applyS (linksS d.2.2.2.1 (d.2.2.2.2.take i)) m).2 <;> cases decide (m.1 = 1) <;> cases hasI d m.2.2.2 <;> cases linkB d.2.2.2.1 m.2.2.2 <;> cases madeB (d.2.2.2.2.take i) m.2.2.2 <;> rfl

theorem has_mem {d : DiskT} {n : Int} : hasI d n = true ↔ n ∈ d.2.2.1.map (·.1) := by
  unfold hasI
  have := any_idx (fun x : InodeT => decide (x.1 = n)) d.2.2.1
  rw [← this, List.any_eq_true, List.mem_map]
  exact ⟨fun ⟨x, hx, hp⟩ => ⟨x, hx, of_decide_eq_true hp⟩, fun ⟨x, hx, hp⟩ => ⟨x, hx, decide_eq_true hp⟩⟩

theorem ino_nodup {d : DiskT} (h : (List.range d.2.2.1.length).all (pI d) = true) : (d.2.2.1.map (·.1)).Nodup := by
  have step : ∀ i, ∀ hi : i + 1 < d.2.2.1.length, d.2.2.1[i].1 < d.2.2.1[i + 1].1 := fun i hi => by
    have := range_all.1 h (i + 1) hi
    unfold pI upI at this
    rw [show i + 1 - 1 = i by omega, List.getElem?_eq_getElem hi, List.getElem?_eq_getElem (show i < d.2.2.1.length by omega)] at this
    simp only [Bool.and_eq_true] at this
    simpa using this.2.2
  have lt : ∀ i j, ∀ hi : i < d.2.2.1.length, ∀ hj : j < d.2.2.1.length, i < j → d.2.2.1[i].1 < d.2.2.1[j].1 := by
    intro i j hi hj hij
    induction j with
    | zero => omega
    | succ j ih =>
      by_cases e : i = j
      · subst e; exact step i hj
      · exact Int.lt_trans (ih (by omega) (by omega)) (step j hj)
  rw [List.Nodup, List.pairwise_map, List.pairwise_iff_getElem]
  intro i j hi hj hij
  have := lt i j hi hj hij
  omega

theorem ids_nodup {d : DiskT} (hd : (List.range d.2.2.2.1.length).all (pD d) = true) (hm : (List.range d.2.2.2.2.length).all (pMI d) = true) :
    (d.2.2.2.1.map (·.2) ++ makes d.2.2.2.2).Nodup ∧ ∀ n ∈ d.2.2.2.1.map (·.2) ++ makes d.2.2.2.2, n ∈ d.2.2.1.map (·.1) := by
  have h1 : ∀ i, i ≤ d.2.2.2.1.length → ((d.2.2.2.1.take i).map (·.2)).Nodup ∧ ∀ n ∈ (d.2.2.2.1.take i).map (·.2), n ∈ d.2.2.1.map (·.1) := by
    intro i
    induction i with
    | zero => intro _; simp
    | succ i ih =>
      intro hi
      obtain ⟨i1, i2⟩ := ih (by omega)
      have hi' : i < d.2.2.2.1.length := by omega
      have := range_all.1 hd i hi'
      unfold pD at this
      rw [List.getElem?_eq_getElem hi'] at this
      simp only [Bool.and_eq_true, Bool.not_eq_true', ← mem_dir, decide_eq_false_iff_not] at this
      obtain ⟨_, _, h3, h4⟩ := this
      rw [List.take_add_one, List.getElem?_eq_getElem hi', Option.toList_some, List.map_append]
      simp only [List.map_cons, List.map_nil]
      refine ⟨List.nodup_append.2 ⟨i1, by simp, fun a ha b hb => ?_⟩, fun n hn => ?_⟩
      · simp only [List.mem_singleton] at hb
        subst hb
        exact fun e => h4 (e ▸ ha)
      · rcases List.mem_append.1 hn with hn | hn
        · exact i2 n hn
        · simp only [List.mem_singleton] at hn
          subst hn
          exact has_mem.1 h3
  have h2 : ∀ i, i ≤ d.2.2.2.2.length → (d.2.2.2.1.map (·.2) ++ makes (d.2.2.2.2.take i)).Nodup ∧ ∀ n ∈ d.2.2.2.1.map (·.2) ++ makes (d.2.2.2.2.take i), n ∈ d.2.2.1.map (·.1) := by
    intro i
    induction i with
    | zero =>
      intro _
      have := h1 _ (Nat.le_refl _)
      rw [List.take_length] at this
      simpa [makes] using this
    | succ i ih =>
      intro hi
      obtain ⟨i1, i2⟩ := ih (by omega)
      have hi' : i < d.2.2.2.2.length := by omega
      rw [makes_succ hi']
      split
      · rename_i hk
        have := range_all.1 hm i hi'
        unfold pMI at this
        rw [List.getElem?_eq_getElem hi'] at this
        simp only [Bool.and_eq_true, Bool.or_eq_true, Bool.not_eq_true', decide_eq_false_iff_not] at this
        obtain ⟨_, _, h5⟩ := this
        obtain ⟨h3, h4⟩ := h5.resolve_left (fun c => c hk)
        rw [← List.append_assoc]
        refine ⟨List.nodup_append.2 ⟨i1, by simp, fun a ha b hb => ?_⟩, fun n hn => ?_⟩
        · simp only [List.mem_singleton] at hb
          subst hb
          exact fun e => h4 (e ▸ ha)
        · rcases List.mem_append.1 hn with hn | hn
          · exact i2 n hn
          · simp only [List.mem_singleton] at hn
            subst hn
            exact has_mem.1 h3
      · exact ⟨i1, i2⟩
  have := h2 _ (Nat.le_refl _)
  rwa [List.take_length] at this

theorem pIS_eq {d : DiskT} {i : Nat} (hi : i < d.2.2.1.length) : pIS d i = (pI d i && (linkB d.2.2.2.1 d.2.2.1[i].1 || madeB d.2.2.2.2 d.2.2.1[i].1)) := by
  unfold pIS pI
  rw [List.getElem?_eq_getElem hi]
  simp only [Bool.and_assoc]

theorem disk_same (d : DiskT) : diskS d = diskI d := by
  unfold diskS diskI
  cases rg d.1 0 1048576 with
  | false => rfl
  | true =>
  cases rg d.2.1 1 1000000 with
  | false => rfl
  | true =>
  by_cases c1 : (d.2.2.1.length : Int) ≤ 10
  case neg => simp [c1]
  by_cases c2 : (d.2.2.2.2.length : Int) ≤ 20
  case neg => simp [c2]
  by_cases c3 : bytesM d.2.2.1 ≤ d.1
  case neg => simp [c3]
  simp only [c1, c2, c3, decide_true, Bool.true_and]
  cases hD : (List.range d.2.2.2.1.length).all (pD d) with
  | false => simp
  | true =>
  rw [moves_same hD]
  cases hM : (List.range d.2.2.2.2.length).all (pMI d) with
  | false => simp
  | true =>
  simp only [Bool.and_true, Bool.true_and]
  obtain ⟨n1, n2⟩ := ids_nodup hD hM
  cases hI : (List.range d.2.2.1.length).all (pI d) with
  | false =>
    have : (List.range d.2.2.1.length).all (pIS d) = false := by
      cases c : (List.range d.2.2.1.length).all (pIS d) with
      | false => rfl
      | true =>
        have : (List.range d.2.2.1.length).all (pI d) = true := range_all.2 fun i hi => by
          have := range_all.1 c i hi
          rw [pIS_eq hi, Bool.and_eq_true] at this
          exact this.1
        rw [hI] at this; cases this
    rw [this]; simp
  | true =>
    have n3 := ino_nodup hI
    have hle := nodup_le n1 n2
    have hdir : (d.2.2.2.1.length : Int) ≤ 10 := by
      simp only [List.length_append, List.length_map] at hle
      omega
    rw [decide_eq_true hdir]
    simp only [Bool.true_and]
    by_cases hall : ∀ n ∈ d.2.2.1.map (·.1), n ∈ d.2.2.2.1.map (·.2) ++ makes d.2.2.2.2
    · have hge := nodup_le n3 hall
      rw [List.length_map] at hge hle
      rw [decide_eq_true (by omega)]
      refine range_all.2 fun i hi => ?_
      rw [pIS_eq hi, range_all.1 hI i hi, Bool.true_and, ← mem_ids, decide_eq_true_eq]
      exact hall _ (List.mem_map.2 ⟨_, List.getElem_mem hi, rfl⟩)
    · have hx : ∃ n ∈ d.2.2.1.map (·.1), n ∉ d.2.2.2.1.map (·.2) ++ makes d.2.2.2.2 := by
        apply Classical.byContradiction
        intro hc
        exact hall fun n hn => Classical.byContradiction fun h => hc ⟨n, hn, h⟩
      obtain ⟨n, hn, hnn⟩ := hx
      have hlt := nodup_le (a := n :: (d.2.2.2.1.map (·.2) ++ makes d.2.2.2.2)) (b := d.2.2.1.map (·.1)) (List.nodup_cons.2 ⟨hnn, n1⟩) (fun y hy => by
        rcases List.mem_cons.1 hy with rfl | hy
        · exact hn
        · exact n2 y hy)
      rw [List.length_cons, List.length_map] at hlt
      rw [decide_eq_false (by omega)]
      cases c : (List.range d.2.2.1.length).all (pIS d) with
      | false => rfl
      | true =>
        exfalso
        obtain ⟨x, hx, rfl⟩ := List.mem_map.1 hn
        obtain ⟨i, hi, rfl⟩ := List.getElem_of_mem hx
        have := range_all.1 c i hi
        rw [pIS_eq hi, Bool.and_eq_true, ← mem_ids, decide_eq_true_eq] at this
        exact hnn this.2

end Go.Proofs.YtgocmmfhglppjaaGreatDoor.Rx
namespace Go.Proofs.YtgocmmfhglppjaaGreatDoor.Rx

/-- a right disk -/
structure Right (d : DiskT) : Prop where
  small : Small d
  ok : diskS d = true
theorem Right.parts {d : DiskT} (h : Right d) : 0 ≤ d.1 ∧ d.1 ≤ 1048576 ∧ 1 ≤ d.2.1 ∧ d.2.1 ≤ 1000000 ∧ d.2.2.1.length ≤ 10 ∧ d.2.2.2.2.length ≤ 20 ∧ d.2.2.2.1.length ≤ 10 ∧ bytesM d.2.2.1 ≤ d.1 ∧
    (List.range d.2.2.1.length).all (pIS d) = true ∧ (List.range d.2.2.2.1.length).all (pD d) = true ∧ (List.range d.2.2.2.2.length).all (pMS d) = true := by
  have := h.ok
  unfold diskS rg at this
  simp only [Bool.and_eq_true, decide_eq_true_eq] at this
  obtain ⟨h1, h2, h3, h4, h5, h6, h7, h8, h9⟩ := this
  exact ⟨h1.1, h1.2, h2.1, h2.2, by omega, by omega, by omega, h6, h7, h8, h9⟩
theorem Right.links {d : DiskT} (h : Right d) (n : Nat) : linksI d.2.2.2.1 (d.2.2.2.2.take n) = linksS d.2.2.2.1 (d.2.2.2.2.take n) ∧ Srt (linksS d.2.2.2.1 (d.2.2.2.2.take n)) := by
  obtain ⟨_, _, _, _, _, _, _, _, _, h8, h9⟩ := h.parts
  by_cases hn : n ≤ d.2.2.2.2.length
  · exact links_same h8 n hn fun j hj => range_all.1 h9 j (by omega)
  · rw [List.take_of_length_le (show d.2.2.2.2.length ≤ n by omega)]
    have := links_same h8 d.2.2.2.2.length (Nat.le_refl _) fun j hj => range_all.1 h9 j hj
    rwa [List.take_length] at this

/-- the names behind the first moves -/
def namesM (d : DiskT) (n : Nat) : List LinkT := linksS d.2.2.2.1 (d.2.2.2.2.take n)
theorem namesM_len (d : DiskT) (n : Nat) : (namesM d n).length ≤ d.2.2.2.1.length + d.2.2.2.2.length := by
  unfold namesM
  have := linksS_len (d.2.2.2.2.take n) d.2.2.2.1
  rw [List.length_take] at this
  omega

theorem foldl_links (dir : List LinkT) (ms : List MoveT) : ms.foldl (fun l m => (applyS l m).1) dir = linksS dir ms := rfl
theorem foldl_linksI (dir : List LinkT) (ms : List MoveT) : ms.foldl (fun l m => (applyI l m).1) dir = linksI dir ms := rfl

theorem specNames {k : Nat} (hk : 9223372036854775808 ≤ k) {d : DiskT} (hs : Small d) (n : Int) : spec_l4Names.f k d n = some (namesM d n.toNat) := by
  have hd := hs.dir
  have hm := hs.mov
  unfold spec_l4Names.f
  rw [app_ok (by unfold limOf; simp only [List.length_nil]; omega)]
  simp only [Option.bind_some, List.nil_append, Prod.eta]
  obtain ⟨ms, hms⟩ : ∃ ms, d.2.2.2.2.take n.toNat = ms := ⟨_, rfl⟩
  have hl : ms.length = min n.toNat d.2.2.2.2.length := by rw [← hms, List.length_take]
  have hat : ∀ i (hi : i < ms.length), d.2.2.2.2[i]? = some ms[i] := fun i hi => by
    rw [← List.getElem?_eq_getElem hi, ← hms, List.getElem?_take, if_pos (by omega)]
  have key := iter_foldl (B := spec_l4Names.b0 k) ms (fun i a => (n, [], a, (i : Int), d)) (fun l m => (applyS l m).1) (fun a => .inl ([], a)) d.2.2.2.1 (fun i hi => by
    have e1 : decide ((i : Int) < n) = true := by simp; omega
    have e2 : decide ((i : Int) < (d.2.2.2.2.length : Int)) = true := by simp; omega
    have e3 : inb? d.2.2.2.2.length (i : Int) = some i := by rw [inb_ok (by omega) (by omega), Int.toNat_natCast]
    have hll := linksS_len (ms.take i) d.2.2.2.1
    rw [List.length_take] at hll
    obtain ⟨n1, n2⟩ := hs.movN ms[i] (List.mem_of_getElem? (hat i hi))
    simp only [foldl_links]
    unfold spec_l4Names.b0
    dsimp only
    simp only [e1, e2, cond_true, e3, Option.bind_some, hat i hi, Prod.eta]
    rw [specApply hk _ _ (by omega) n1 n2]
    simp only [Option.bind_some]
    rw [wrap_i64 (by omega) (by omega)]
    rfl) (by
    unfold spec_l4Names.b0
    dsimp only
    by_cases c : (ms.length : Int) < n
    · have e1 : decide ((ms.length : Int) < n) = true := decide_eq_true c
      have e2 : decide ((ms.length : Int) < (d.2.2.2.2.length : Int)) = false := by simp; omega
      rw [e1, e2]; rfl
    · have e1 : decide ((ms.length : Int) < n) = false := decide_eq_false c
      rw [e1]; rfl) k (by omega)
  have e0 : ((0 : Nat) : Int) = 0 := rfl
  simp only [e0] at key
  rw [key]
  simp only [Option.bind_some, foldl_links]
  rw [← hms]
  rfl

theorem implNames {k : Nat} (hk : 9223372036854775808 ≤ k) {d : DiskT} (hr : Right d) (n : Int) (h0 : 0 ≤ n) (h1 : n ≤ d.2.2.2.2.length) : impl_Disk_names.f k d n = some (namesM d n.toNat) := by
  have hd := hr.small.dir
  have hm := hr.small.mov
  have hL := (hr.links n.toNat).1
  unfold impl_Disk_names.f impl_copyLinks.f
  rw [app_ok (by unfold limOf; simp only [List.length_nil]; omega)]
  simp only [Option.bind_some, List.nil_append]
  rw [cut_ok (by omega) (by omega) (by omega)]
  simp only [Option.bind_some, Int.toNat_zero, List.drop_zero]
  unfold namesM
  rw [← hL]
  obtain ⟨ms, hms⟩ : ∃ ms, d.2.2.2.2.take n.toNat = ms := ⟨_, rfl⟩
  have hl : ms.length = min n.toNat d.2.2.2.2.length := by rw [← hms, List.length_take]
  rw [hms]
  have key := iter_foldl (B := impl_Disk_names.b0 k) ms (fun i a => ([], a, ms, (ms.length : Int), (i : Int))) (fun l m => (applyI l m).1) (fun a => .inl ([], a)) d.2.2.2.1 (fun i hi => by
    have e1 : decide ((i : Int) < (ms.length : Int)) = true := by simp; omega
    have e3 : inb? ms.length (i : Int) = some i := by rw [inb_ok (by omega) (by omega), Int.toNat_natCast]
    have hll := linksI_len (ms.take i) d.2.2.2.1
    rw [List.length_take] at hll
    obtain ⟨n1, n2⟩ := hr.small.movN ms[i] (List.mem_of_mem_take (by rw [hms]; exact List.getElem_mem hi))
    simp only [foldl_linksI]
    unfold impl_Disk_names.b0
    dsimp only
    simp only [e1, cond_true, e3, Option.bind_some, List.getElem?_eq_getElem hi, Prod.eta]
    rw [implApply hk _ _ (by omega) n2]
    simp only [Option.bind_some]
    rw [wrap_i64 (by omega) (by omega)]
    rfl) (by
    have e1 : decide ((ms.length : Int) < (ms.length : Int)) = false := by simp
    unfold impl_Disk_names.b0
    dsimp only
    rw [e1]; rfl) k (by omega)
  have e0 : ((0 : Nat) : Int) = 0 := rfl
  simp only [e0] at key
  rw [key]
  rfl

def nowM (d : DiskT) : List LinkT := namesM d d.2.2.2.2.length
theorem specNow {k : Nat} (hk : 9223372036854775808 ≤ k) {d : DiskT} (hs : Small d) : spec_l4Names.f k d (d.2.2.2.2.length : Int) = some (nowM d) := specNames hk hs _
theorem implNow {k : Nat} (hk : 9223372036854775808 ≤ k) {d : DiskT} (hr : Right d) : impl_Disk_now.f k d = some (nowM d) := by
  unfold impl_Disk_now.f
  try simp only [Prod.eta]
  rw [implNames hk hr _ (by omega) (by omega)]
  rfl

/-- the place of a name's inode, or -1 -/
def fileM (d : DiskT) (n : ByteArray) : Int := bif decide (at? (nowM d) n < 0) then -1 else idxOf (fun x => decide (x.1 = idAt (nowM d) n)) d.2.2.1
theorem fileM_lt (d : DiskT) (n : ByteArray) : -1 ≤ fileM d n ∧ fileM d n < d.2.2.1.length := by
  unfold fileM
  have := idxOf_lt (fun x : InodeT => decide (x.1 = idAt (nowM d) n)) d.2.2.1
  cases decide (at? (nowM d) n < 0) with
  | true => simp only [cond_true]; omega
  | false => simpa using this

theorem nowM_len {d : DiskT} (hs : Small d) : (nowM d).length ≤ 4194304 := by
  have := namesM_len d d.2.2.2.2.length
  have := hs.dir
  have := hs.mov
  unfold nowM
  omega

theorem specFind {k : Nat} (hk : 9223372036854775808 ≤ k) {d : DiskT} (hs : Small d) (n : ByteArray) : spec_l4Find.f k d n = some (fileM d n) := by
  unfold spec_l4Find.f fileM
  simp only [Prod.eta, specNow hk hs, Option.bind_some, specAt hk _ n (nowM_len hs)]
  have hat : idxOf (fun x => decide (x.1 = n)) (nowM d) = at? (nowM d) n := rfl
  rw [hat]
  by_cases c : at? (nowM d) n < 0
  · rw [decide_eq_true c]; rfl
  · obtain ⟨e1, x, e2, e3⟩ := idAt_get (l := nowM d) (n := n) (by omega)
    rw [decide_eq_false c]
    simp only [cond_false, e1, e2, Option.bind_some, specInode hk d _ hs.ino, e3]
theorem implFile {k : Nat} (hk : 9223372036854775808 ≤ k) {d : DiskT} (hr : Right d) (n : ByteArray) : impl_Disk_file.f k d n = some (fileM d n) := by
  unfold impl_Disk_file.f fileM
  simp only [Prod.eta, implNow hk hr, Option.bind_some, implAt hk _ n (nowM_len hr.small)]
  have hat : idxOf (fun x => decide (x.1 = n)) (nowM d) = at? (nowM d) n := rfl
  rw [hat]
  by_cases c : at? (nowM d) n < 0
  · rw [decide_eq_true c]; rfl
  · obtain ⟨e1, x, e2, e3⟩ := idAt_get (l := nowM d) (n := n) (by omega)
    rw [decide_eq_false c]
    simp only [cond_false, e1, e2, Option.bind_some, implInode hk d _ hr.small.ino, e3]

/-- a result's rows are not too long to be marked -/
def Fits (d : DiskT) : Prop := d.2.2.1.length ≤ 4194304 ∧ d.2.2.2.1.length ≤ 4194304 ∧ d.2.2.2.2.length ≤ 4194304
theorem Small.fits {d : DiskT} (h : Small d) : Fits d := ⟨by have := h.ino; omega, by have := h.dir; omega, by have := h.mov; omega⟩

theorem amtI_mem {l : List InodeT} {x : InodeT} (h : x ∈ l) : x.2.1.size ≤ amtI l := by
  obtain ⟨i, hi, rfl⟩ := List.getElem_of_mem h
  have := amtI_at hi
  omega

/-- the place of an inode that is there -/
theorem file_at {d : DiskT} {n : ByteArray} (h : ¬ fileM d n < 0) : inb? d.2.2.1.length (fileM d n) = some (fileM d n).toNat ∧ ∃ x, d.2.2.1[(fileM d n).toNat]? = some x ∧ x ∈ d.2.2.1 := by
  obtain ⟨h1, h2⟩ := fileM_lt d n
  have hlt : (fileM d n).toNat < d.2.2.1.length := by omega
  exact ⟨inb_ok (by omega) h2, _, List.getElem?_eq_getElem hlt, List.getElem_mem hlt⟩

theorem load_eq {k : Nat} (hk : 9223372036854775808 ≤ k) {d : DiskT} (hs : Small d) (n : ByteArray) : ∃ r, spec_Load.f k d n = some r ∧ impl_Load.f k d n = some r ∧ r.1.size ≤ 1048576 := by
  unfold spec_Load.f impl_Load.f
  simp only [Prod.eta, specOk hk d hs, implOk hk d hs, ← disk_same, Option.bind_some]
  cases hd : diskS d with
  | false => exact ⟨_, rfl, rfl, Nat.zero_le _⟩
  | true =>
    have hr : Right d := ⟨hs, hd⟩
    simp only [Bool.not_true, cond_false, specFind hk hs, implFile hk hr, Option.bind_some]
    by_cases c : fileM d n < 0
    · rw [decide_eq_true c]; exact ⟨_, rfl, rfl, Nat.zero_le _⟩
    · obtain ⟨e1, x, e2, e3⟩ := file_at c
      rw [decide_eq_false c]
      simp only [cond_false, e1, e2, Option.bind_some]
      exact ⟨_, rfl, rfl, by have := amtI_mem e3; have := hs.amt; simp only; omega⟩

end Go.Proofs.YtgocmmfhglppjaaGreatDoor.Rx
namespace Go.Proofs.YtgocmmfhglppjaaGreatDoor.Rx.V
open Go.Proofs.YtgocmmfhglppjaaGreatDoor.Rx

theorem size_strOfNums (l : List Int) : (strOfNums l).size = l.length := by
  simp [strOfNums, ByteArray.size]

theorem l1 (k : Nat) (a b c : Int) : spec_l1In.f k a b c = some (decide (b ≤ a) && decide (a ≤ c)) := by
  unfold spec_l1In.f
  cases decide (b ≤ a) <;> rfl

theorem var_step {n : Int} (h0 : 0 ≤ n) (h1 : n ≤ 562949953421311) (a : ByteArray) (l : List Int) (k : Nat) : spec_Var.b0 k (n, a, l) = impl_Var.b0 k (n, a, l) := by
  unfold spec_Var.b0 impl_Var.b0
  dsimp only
  have e1 : decide (128 ≤ n) = decide (127 < n) := by by_cases h : 128 ≤ n <;> simp [h] <;> omega
  have e2 : IntKind.wrap .i64 (128 + n.tmod 128) = bits .or .i64 (bits .and .i64 n 127) 128 := by
    rw [low7 h0 (by omega), Int.tmod_eq_emod_of_nonneg h0]
    exact wrap_i64 (by omega) (by omega)
  have e3 : IntKind.wrap .i64 (n.tdiv 128) = n.fdiv (2 ^ (min (7 : Int).toNat (IntKind.bits .i64))) := by
    have : (2 ^ (min (7 : Int).toNat (IntKind.bits .i64)) : Int) = 128 := rfl
    rw [this, Int.tdiv_eq_ediv_of_nonneg h0, Int.fdiv_eq_ediv_of_nonneg n (by omega)]
    exact wrap_i64 (by omega) (by omega)
  rw [e1, e2, e3]

theorem var_next {n : Int} (h0 : 0 ≤ n) (h1 : n ≤ 562949953421311) (a : ByteArray) (l : List Int) (k : Nat) :
    spec_Var.b0 k (n, a, l) = if 128 ≤ n then (app? (limOf 1) l [IntKind.wrap .u8 (IntKind.wrap .i64 (128 + n.tmod 128))]).bind (fun l1 => some (.inl (n / 128, a, l1))) else some (.inr (.inl (n, a, l))) := by
  unfold spec_Var.b0
  dsimp only
  have e3 : IntKind.wrap .i64 (n.tdiv 128) = n / 128 := by
    rw [Int.tdiv_eq_ediv_of_nonneg h0]
    exact wrap_i64 (by omega) (by omega)
  rw [e3]
  by_cases h : 128 ≤ n <;> simp [h]

theorem var_same (k : Nat) (n : Int) : impl_Var.f k n = spec_Var.f k n := by
  unfold spec_Var.f impl_Var.f
  have e : impl_within.f k n 0 562949953421311 = spec_l1In.f k n 0 562949953421311 := rfl
  rw [e, l1]
  simp only [Option.bind_some]
  by_cases h : 0 ≤ n ∧ n ≤ 562949953421311
  · have : (decide (0 ≤ n) && decide (n ≤ 562949953421311)) = true := by simp [h.1, h.2]
    rw [this]
    simp only [Bool.not_true, cond_false]
    rw [← iter_same (B := spec_Var.b0 k) (B' := impl_Var.b0 k) (fun s => 0 ≤ s.1 ∧ s.1 ≤ 562949953421311) (fun s hs => ?_) k _ h]
    · rfl
    · obtain ⟨m, a, l⟩ := s
      refine ⟨var_step hs.1 hs.2 a l k, fun s' hs' => ?_⟩
      rw [var_next hs.1 hs.2] at hs'
      split at hs'
      · obtain ⟨l1, h1, h2⟩ := Option.bind_eq_some_iff.1 hs'
        simp only [Option.some.injEq, Sum.inl.injEq] at h2
        subst h2
        dsimp only at hs ⊢
        omega
      · simp at hs'
  · have : (decide (0 ≤ n) && decide (n ≤ 562949953421311)) = false := by
      by_cases h1 : 0 ≤ n
      · have : ¬ n ≤ 562949953421311 := fun h2 => h ⟨h1, h2⟩
        simp [this]
      · simp [h1]
    rw [this]
    rfl

theorem var_some {k : Nat} (hk : 9223372036854775808 ≤ k) (n : Int) : ∃ s, spec_Var.f k n = some s ∧ s.size ≤ 17592186044416 := by
  unfold spec_Var.f
  rw [l1]
  simp only [Option.bind_some]
  by_cases h : 0 ≤ n ∧ n ≤ 562949953421311
  · have : (decide (0 ≤ n) && decide (n ≤ 562949953421311)) = true := by simp [h.1, h.2]
    rw [this]
    simp only [Bool.not_true, cond_false]
    obtain ⟨x, hx, hq⟩ := iter_some (B := spec_Var.b0 k) (fun s => 0 ≤ s.1 ∧ s.1 ≤ 562949953421311 ∧ 64 * s.2.2.length + s.1.toNat ≤ 562949953421311) (fun s => s.1.toNat)
      (fun x => ∃ y, x = .inl y ∧ 64 * y.2.2.length ≤ 562949953421311) (fun s hs => by
        obtain ⟨m, a, l⟩ := s
        dsimp only at hs ⊢
        rw [var_next hs.1 hs.2.1]
        by_cases h : 128 ≤ m
        · rw [if_pos h]
          rw [app_ok (by simp only [List.length_cons, List.length_nil]; unfold limOf; omega)]
          refine .inl ⟨_, rfl, ?_, ?_⟩
          · dsimp only
            rw [List.length_append]
            simp only [List.length_cons, List.length_nil]
            omega
          · dsimp only; omega
        · rw [if_neg h]
          exact .inr ⟨_, rfl, _, rfl, by dsimp only; omega⟩) k (n, ⟨#[]⟩, []) ⟨h.1, h.2, by simp; omega⟩ (by dsimp only; omega)
    obtain ⟨y, rfl, hy⟩ := hq
    rw [hx]
    simp only [Option.bind_some]
    unfold spec_Var.d0
    rw [app_ok (by simp only [List.length_cons, List.length_nil]; unfold limOf; omega)]
    refine ⟨_, rfl, ?_⟩
    rw [size_strOfNums, List.length_append]
    simp only [List.length_cons, List.length_nil]
    omega
  · have : (decide (0 ≤ n) && decide (n ≤ 562949953421311)) = false := by
      by_cases h1 : 0 ≤ n
      · have : ¬ n ≤ 562949953421311 := fun h2 => h ⟨h1, h2⟩
        simp [this]
      · simp [h1]
    rw [this]
    exact ⟨_, rfl, by decide⟩

theorem var_eq : impl_Var.f = spec_Var.f := by funext k n; exact var_same k n

theorem l2 (k : Nat) (a b c : Int) : impl_within.f k a b c = some (decide (b ≤ a) && decide (a ≤ c)) := l1 k a b c
def rg (a b c : Int) : Bool := decide (b ≤ a) && decide (a ≤ c)
/-! strings, byte by byte -/
theorem byteAt_lt {s : ByteArray} {i : Nat} (h : i < s.size) : byteAt s i = ((s[i]'h).toNat : Int) := by unfold byteAt; rw [dif_pos h]
theorem byteAt_ge (s : ByteArray) (i : Nat) : 0 ≤ byteAt s i := by unfold byteAt; split <;> omega
theorem byteAt_le (s : ByteArray) (i : Nat) : byteAt s i ≤ 255 := by
  unfold byteAt; split
  · have := (s[i]).toNat_lt; omega
  · omega
theorem size_ext (s : ByteArray) {a b : Nat} (h : b ≤ s.size) : (s.extract a b).size = b - a := by
  rw [ByteArray.size_extract]; omega
theorem byteAt_ext (s : ByteArray) {a b i : Nat} (h : b ≤ s.size) (hi : a + i < b) : byteAt (s.extract a b) i = byteAt s (a + i) := by
  have h1 : i < (s.extract a b).size := by rw [size_ext s h]; omega
  rw [byteAt_lt h1, byteAt_lt (show a + i < s.size by omega), ByteArray.getElem_extract]
theorem str_ext {a b : ByteArray} (h : a.size = b.size) (h2 : ∀ i, i < a.size → byteAt a i = byteAt b i) : a = b := by
  apply ByteArray.ext_getElem h
  intro i h3 h4
  have := h2 i h3
  rw [byteAt_lt h3, byteAt_lt h4] at this
  apply UInt8.toNat_inj.1
  omega
theorem byteAt_nums {l : List Int} {i : Nat} (h : i < l.length) (h0 : 0 ≤ l[i]) (h1 : l[i] ≤ 255) : byteAt (strOfNums l) i = l[i] := by
  have hs : i < (strOfNums l).size := by rw [size_strOfNums]; exact h
  rw [byteAt_lt hs]
  show ((((l.map fun n => UInt8.ofNat n.toNat).toArray[i]'(by simpa using h)).toNat : Int)) = _
  simp
  omega

/-! the Var of a number -/
def pw (i : Nat) : Int := 128 ^ i
theorem pw0 : pw 0 = 1 := rfl
theorem pw1 (i : Nat) : pw (i + 1) = pw i * 128 := by unfold pw; rw [Int.pow_succ]
theorem pw_pos (i : Nat) : 1 ≤ pw i := by
  induction i with
  | zero => rw [pw0]; omega
  | succ i ih => rw [pw1]; omega
theorem pw7 : pw 7 = 562949953421312 := rfl
/-- the value of the first bytes -/
def val (s : ByteArray) : Nat → Int
  | 0 => 0
  | i + 1 => val s i + (byteAt s i % 128) * pw i
theorem val_lt (s : ByteArray) : ∀ i, 0 ≤ val s i ∧ val s i < pw i
  | 0 => by simp [val, pw0]
  | i + 1 => by
    have ⟨h1, h2⟩ := val_lt s i
    have h3 := byteAt_ge s i
    have h4 := pw_pos i
    have h5 : 0 ≤ byteAt s i % 128 := Int.emod_nonneg _ (by omega)
    have h6 : byteAt s i % 128 ≤ 127 := by omega
    have h7 : byteAt s i % 128 * pw i ≤ 127 * pw i := Int.mul_le_mul_of_nonneg_right h6 (by omega)
    have h8 : 0 ≤ byteAt s i % 128 * pw i := Int.mul_nonneg h5 (by omega)
    rw [pw1]
    show 0 ≤ val s i + _ ∧ val s i + _ < _
    omega
theorem pw_mono {i j : Nat} (h : i ≤ j) : pw i ≤ pw j := by
  obtain ⟨d, rfl⟩ := Nat.le.dest h
  clear h
  induction d with
  | zero => exact Int.le_refl _
  | succ d ih => have := pw_pos (i + d); rw [← Nat.add_assoc, pw1]; omega
theorem val7 (s : ByteArray) {i : Nat} (h : i ≤ 7) : 0 ≤ val s i ∧ val s i ≤ 562949953421311 := by
  have h1 := val_lt s i
  have h2 := pw_mono h
  rw [pw7] at h2
  omega

/-- bytes behind which others follow, and the last one -/
theorem var_shape {k : Nat} (hk : 9223372036854775808 ≤ k) {n : Int} (h0 : 0 ≤ n) (h1 : n ≤ 562949953421311) : ∃ l m, spec_Var.f k n = some (strOfNums (l ++ [m])) ∧ (∀ x ∈ l, 128 ≤ x ∧ x ≤ 255) ∧ 0 ≤ m ∧ m < 128 := by
  unfold spec_Var.f
  rw [l1]
  have : (decide (0 ≤ n) && decide (n ≤ 562949953421311)) = true := by simp [h0, h1]
  simp only [Option.bind_some, this, Bool.not_true, cond_false]
  obtain ⟨x, hx, hq⟩ := iter_some (B := spec_Var.b0 k) (fun s => 0 ≤ s.1 ∧ s.1 ≤ 562949953421311 ∧ (64 * s.2.2.length + s.1.toNat ≤ 562949953421311) ∧ ∀ x ∈ s.2.2, 128 ≤ x ∧ x ≤ 255) (fun s => s.1.toNat)
      (fun x => ∃ y, x = .inl y ∧ 64 * y.2.2.length ≤ 562949953421311 ∧ (∀ x ∈ y.2.2, 128 ≤ x ∧ x ≤ 255) ∧ 0 ≤ y.1 ∧ y.1 < 128) (fun s hs => by
        obtain ⟨m, a, l⟩ := s
        dsimp only at hs ⊢
        rw [var_next hs.1 hs.2.1]
        by_cases h : 128 ≤ m
        · rw [if_pos h]
          rw [app_ok (by simp only [List.length_cons, List.length_nil]; unfold limOf; omega)]
          refine .inl ⟨_, rfl, ?_, ?_⟩
          · dsimp only
            rw [List.length_append]
            simp only [List.length_cons, List.length_nil]
            refine ⟨by omega, by omega, by omega, fun x hx => ?_⟩
            rcases List.mem_append.1 hx with hx | hx
            · exact hs.2.2.2 x hx
            · rw [List.mem_singleton] at hx
              have e : m.tmod 128 = m % 128 := Int.tmod_eq_emod_of_nonneg hs.1
              rw [hx, e, wrap_i64 (by omega) (by omega), wrap_u8 (by omega) (by omega)]
              omega
          · dsimp only; omega
        · rw [if_neg h]
          exact .inr ⟨_, rfl, _, rfl, by dsimp only; omega, hs.2.2.2, hs.1, by dsimp only; omega⟩) k (n, ⟨#[]⟩, []) ⟨h0, h1, by simp; omega, by simp⟩ (by dsimp only; omega)
  obtain ⟨y, rfl, hy, hl, h2, h3⟩ := hq
  rw [hx]
  simp only [Option.bind_some]
  unfold spec_Var.d0
  rw [app_ok (by simp only [List.length_cons, List.length_nil]; unfold limOf; omega)]
  refine ⟨y.2.2, y.1, ?_, hl, h2, h3⟩
  rw [wrap_u8 h2 (by omega)]
  rfl

theorem var_bytes {k : Nat} (hk : 9223372036854775808 ≤ k) {n : Int} (h0 : 0 ≤ n) (h1 : n ≤ 562949953421311) : ∃ v, spec_Var.f k n = some v ∧ 0 < v.size ∧ (∀ i, i + 1 < v.size → 128 ≤ byteAt v i) ∧ byteAt v (v.size - 1) < 128 := by
  obtain ⟨l, m, h, hl, hm, hm2⟩ := var_shape hk h0 h1
  refine ⟨_, h, ?_, ?_, ?_⟩
  · rw [size_strOfNums]; simp
  · intro i hi
    rw [size_strOfNums] at hi
    simp only [List.length_append, List.length_cons, List.length_nil] at hi
    have hi2 : i < l.length := by omega
    have e : (l ++ [m])[i]'(by simp; omega) = l[i] := List.getElem_append_left hi2
    have := hl l[i] (List.getElem_mem hi2)
    rw [byteAt_nums (l := l ++ [m]) (by simp; omega) (by rw [e]; omega) (by rw [e]; omega), e]
    omega
  · rw [size_strOfNums]
    simp only [List.length_append, List.length_cons, List.length_nil]
    have e : (l ++ [m])[l.length + 1 - 1]'(by simp) = m := by simp
    show byteAt _ (l.length + 1 - 1) < 128
    rw [byteAt_nums (l := l ++ [m]) (by simp) (by rw [e]; omega) (by rw [e]; omega), e]
    omega

/-! ReadVar -/
theorem iter_inl {S X : Type} {B : S → Option (S ⊕ X)} {k : Nat} {s s' : S} (h : B s = some (.inl s')) : iter B (k + 1) s = iter B k s' := by simp [iter, h]
theorem iter_inr {S X : Type} {B : S → Option (S ⊕ X)} {k : Nat} {s : S} {x : X} (h : B s = some (.inr x)) : iter B (k + 1) s = some x := by simp [iter, h]

theorem top_le {a v V : Int} {m : Nat} (h0 : 0 ≤ a) (hv : 0 ≤ v) (h : a * pw m + v = V) : a ≤ V := by
  have h1 := pw_pos m
  have h2 : a * 1 ≤ a * pw m := Int.mul_le_mul_of_nonneg_left h1 h0
  omega

theorem readVar_in (k : Nat) (s : ByteArray) (x y : Int) (j : Int) (V : Int) (hV : V ≤ 562949953421311) : ∀ (i : Nat) (kk : Nat) (n : Int), i < kk → i ≤ 7 → (i ≤ s.size) → 0 ≤ n → n * pw i + val s i = V →
    iter (X := (ByteArray × Int × Int × Int × Int) ⊕ (Int × Int)) (spec_ReadVar.b1 k) kk (s, x, y, j, n, (i : Int) - 1) = some (.inl (s, x, y, j, V))
  | 0, kk, n, hk, _, _, h0, h => by
    obtain ⟨kk, rfl⟩ : ∃ m, kk = m + 1 := ⟨kk - 1, by omega⟩
    have e : n = V := by simp [pw0, val] at h; exact h
    subst e
    exact iter_inr (by unfold spec_ReadVar.b1; simp)
  | i + 1, kk, n, hk, h7, hs, h0, h => by
    obtain ⟨kk, rfl⟩ : ∃ m, kk = m + 1 := ⟨kk - 1, by omega⟩
    have hb0 := byteAt_ge s i
    have hb1 := byteAt_le s i
    have hv := val_lt s i
    have hp := pw_pos i
    have e1 : (byteAt s i).tmod 128 = byteAt s i % 128 := Int.tmod_eq_emod_of_nonneg hb0
    have h2 : (n * 128 + byteAt s i % 128) * pw i + val s i = V := by
      rw [← h, pw1, Int.add_mul]
      simp only [val]
      have : n * (pw i * 128) = n * 128 * pw i := by rw [Int.mul_comm (pw i) 128, Int.mul_assoc]
      rw [this]; omega
    have h3 : n * 128 + byteAt s i % 128 ≤ V := top_le (by omega) hv.1 h2
    have h4 : spec_ReadVar.b1 k (s, x, y, j, n, ((i + 1 : Nat) : Int) - 1) = some (.inl (s, x, y, j, n * 128 + byteAt s i % 128, (i : Int) - 1)) := by
      unfold spec_ReadVar.b1
      dsimp only
      have e2 : ((i + 1 : Nat) : Int) - 1 = (i : Int) := by omega
      rw [e2, inb_ok (by omega) (by omega), Int.toNat_natCast, Option.bind_some, wrap_i64 (n := byteAt s i) (by omega) (by omega), e1, wrap_i64 (n := n * 128) (by omega) (by omega), wrap_i64 (n := n * 128 + byteAt s i % 128) (by omega) (by omega), wrap_i64 (n := (i : Int) - 1) (by omega) (by omega)]
      have : decide (0 ≤ (i : Int)) = true := by simp
      rw [this]
      rfl
    rw [iter_inl h4]
    exact readVar_in k s x y j V hV i kk _ (by omega) (by omega) (by omega) (by omega) h2

theorem readVar_step {k : Nat} (hk : 9223372036854775808 ≤ k) (s : ByteArray) (hs : s.size ≤ 4611686018427387904) (j : Nat) (h1 : 1 ≤ j) (h7 : j ≤ 7) (hj : j ≤ s.size) {v : ByteArray} (hv : spec_Var.f k (val s j) = some v) :
    spec_ReadVar.b0 k (s, 0, 0, (j : Int)) = if v = s.extract 0 j then some (.inr (.inr (val s j, (j : Int)))) else some (.inl (s, 0, 0, ((j + 1 : Nat) : Int))) := by
  unfold spec_ReadVar.b0
  dsimp only
  have e1 : decide ((j : Int) ≤ 7) = true := by simp; omega
  have e2 : decide ((j : Int) ≤ (s.size : Int)) = true := by simp; omega
  rw [e1, e2, wrap_i64 (n := (j : Int) - 1) (by omega) (by omega), readVar_in k s 0 0 j (val s j) (val7 s h7).2 j k 0 (by omega) h7 hj (by omega) (by simp)]
  simp only [cond_true, Option.bind_some]
  unfold spec_ReadVar.d0
  dsimp only
  rw [hv, cut_ok (by omega) (by omega) (by omega), wrap_i64 (by omega) (by omega)]
  simp only [Option.bind_some, Int.toNat_natCast]
  show (bif decide (v = s.extract (0 : Int).toNat j) then _ else _) = _
  by_cases h : v = s.extract 0 j
  · rw [if_pos h]; simp [h]
  · rw [if_neg h]; simp [h]

theorem readVar_end (k : Nat) (s : ByteArray) (j : Nat) (h : 7 < j ∨ s.size < j) : spec_ReadVar.b0 k (s, 0, 0, (j : Int)) = some (.inr (.inl (0, 0))) := by
  unfold spec_ReadVar.b0
  dsimp only
  by_cases h7 : 7 < j
  · have : decide ((j : Int) ≤ 7) = false := by simp; omega
    rw [this]; rfl
  · have h1 : decide ((j : Int) ≤ (s.size : Int)) = false := by simp; omega
    rw [h1]
    cases decide ((j : Int) ≤ 7) <;> rfl

/-- a byte below 128 ends what is read: nothing longer is a Var -/
theorem readVar_stuck {k : Nat} (hk : 9223372036854775808 ≤ k) (s : ByteArray) (hs : s.size ≤ 4611686018427387904) : ∀ (d kk j : Nat), j + d = 8 → d < kk → 1 ≤ j → (∃ i, i + 1 < j ∧ byteAt s i < 128) →
    iter (X := (Int × Int) ⊕ (Int × Int)) (spec_ReadVar.b0 k) kk (s, 0, 0, (j : Int)) = some (.inl (0, 0))
  | d, kk, j, hd, hkk, h1, ⟨i, hi, hb⟩ => by
    obtain ⟨kk, rfl⟩ : ∃ m, kk = m + 1 := ⟨kk - 1, by omega⟩
    by_cases h : 7 < j ∨ s.size < j
    · exact iter_inr (readVar_end k s j h)
    · obtain ⟨v, hv, hv0, hv1, hv2⟩ := var_bytes hk (val7 s (show j ≤ 7 by omega)).1 (val7 s (show j ≤ 7 by omega)).2
      have hne : v ≠ s.extract 0 j := by
        intro e
        have hz : v.size = j := by rw [e, size_ext s (by omega)]; omega
        have := hv1 i (by omega)
        rw [e, byteAt_ext s (by omega) (by omega), Nat.zero_add] at this
        omega
      have := readVar_step hk s hs j h1 (by omega) (by omega) hv
      rw [if_neg hne] at this
      rw [iter_inl this]
      exact readVar_stuck hk s hs (d - 1) kk (j + 1) (by omega) (by omega) (by omega) ⟨i, by omega, hb⟩
termination_by d => d
decreasing_by omega

theorem and127 {b : Int} (h0 : 0 ≤ b) (h1 : b ≤ 255) : IntKind.wrap .i64 (bits .and .u8 b 127) = b % 128 := by
  unfold bits
  simp only
  have e : (BitVec.ofInt 8 b &&& BitVec.ofInt 8 127).toNat = b.toNat % 128 := by
    rw [BitVec.toNat_and]
    have e1 : (BitVec.ofInt 8 b).toNat = b.toNat := by
      rw [BitVec.toNat_ofInt]
      have : b % (2 ^ 8 : Nat) = b := Int.emod_eq_of_lt h0 (by omega)
      rw [this]
    rw [e1]
    exact Nat.and_two_pow_sub_one_eq_mod b.toNat 7
  show IntKind.wrap .i64 (IntKind.wrap .u8 ((BitVec.ofInt 8 b &&& BitVec.ofInt 8 127).toNat : Int)) = _
  rw [e, wrap_u8 (by omega) (by omega), wrap_i64 (by omega) (by omega)]
  omega

theorem or_add {n m : Int} {i : Nat} (h0 : 0 ≤ n) (h1 : n < 2 ^ i) (h2 : 0 ≤ m) (h3 : m * 2 ^ i ≤ 9223372036854775807) (hi : i < 63) : bits .or .i64 n (m * 2 ^ i) = n + m * 2 ^ i := by
  have hp : (0 : Int) < 2 ^ i := Int.pow_pos (by omega)
  have hp1 : (2 : Int) ^ i ≤ 2 ^ 63 := by exact_mod_cast Nat.pow_le_pow_right (by omega) (show i ≤ 63 by omega)
  have hm : 0 ≤ m * 2 ^ i := Int.mul_nonneg h2 (by omega)
  rw [bits_or h0 (by omega) hm h3]
  obtain ⟨a, rfl⟩ := Int.eq_ofNat_of_zero_le h0
  obtain ⟨c, rfl⟩ := Int.eq_ofNat_of_zero_le h2
  have e : ((c : Int) * 2 ^ i) = ((2 ^ i * c : Nat) : Int) := by push_cast; rw [Int.mul_comm]
  rw [e, Int.toNat_natCast, Int.toNat_natCast, Nat.or_comm, ← Nat.two_pow_add_eq_or_of_lt (by exact_mod_cast h1)]
  push_cast
  omega

theorem or_shift {n m : Int} {i : Nat} (hi : i < 7) (h0 : 0 ≤ n) (h1 : n < pw i) (h2 : 0 ≤ m) (h3 : m < 128) :
    bits .or .i64 n (IntKind.wrap .i64 (m * 2 ^ (min (IntKind.wrap .i64 (7 * (i : Int))).toNat (IntKind.bits .i64)))) = n + m * pw i := by
  have e0 : IntKind.wrap .i64 (7 * (i : Int)) = 7 * (i : Int) := wrap_i64 (by omega) (by omega)
  have e1 : min (7 * (i : Int)).toNat (IntKind.bits .i64) = 7 * i := by show min _ 64 = _; omega
  have e2 : pw i = 2 ^ (7 * i) := by
    unfold pw
    rw [Int.pow_mul]
    rfl
  have hp := pw_mono (show i ≤ 6 by omega)
  have h6 : pw 6 = 4398046511104 := rfl
  have hp0 := pw_pos i
  have h4 : m * pw i ≤ 127 * pw i := Int.mul_le_mul_of_nonneg_right (by omega) (by omega)
  have h5 : 0 ≤ m * pw i := Int.mul_nonneg h2 (by omega)
  rw [e0, e1, ← e2, wrap_i64 (by omega) (by omega), e2, or_add h0 (by rw [← e2]; exact h1) h2 (by rw [← e2]; omega) (by omega)]

theorem impl_step {k : Nat} (hk : 9223372036854775808 ≤ k) (s : ByteArray) (hs : s.size ≤ 4611686018427387904) (i : Nat) (h7 : i < 7) (hi : i < s.size) {v : ByteArray} (hv : spec_Var.f k (val s (i + 1)) = some v) :
    impl_ReadVar.b0 k (s, 0, 0, val s i, (i : Int)) = if byteAt s i < 128 then (if v = s.extract 0 (i + 1) then some (.inr (.inr (val s (i + 1), ((i + 1 : Nat) : Int)))) else some (.inr (.inr (0, 0)))) else some (.inl (s, 0, 0, val s (i + 1), ((i + 1 : Nat) : Int))) := by
  unfold impl_ReadVar.b0
  dsimp only
  have e1 : decide ((i : Int) < (s.size : Int)) = true := by simp; omega
  have e2 : decide ((i : Int) < 7) = true := by simp; omega
  have hb0 := byteAt_ge s i
  have hb1 := byteAt_le s i
  have hl := val_lt s i
  have e3 : bits .or .i64 (val s i) (IntKind.wrap .i64 (IntKind.wrap .i64 (bits .and .u8 (byteAt s i) 127) * 2 ^ (min (IntKind.wrap .i64 (7 * (i : Int))).toNat (IntKind.bits .i64)))) = val s (i + 1) := by
    rw [and127 hb0 hb1, or_shift h7 hl.1 hl.2 (by omega) (by omega)]
    rfl
  have e4 : ¬ (IntKind.wrap .i64 (7 * (i : Int)) < 0) := by rw [wrap_i64 (by omega) (by omega)]; omega
  have e5 : IntKind.wrap .i64 ((i : Int) + 1) = ((i + 1 : Nat) : Int) := by rw [wrap_i64 (by omega) (by omega)]; omega
  rw [e1, e2, inb_ok (by omega) (by omega), Int.toNat_natCast]
  simp only [Option.bind_some, cond_true]
  rw [if_neg e4, e3, var_same, hv, e5, cut_ok (by omega) (by omega) (by omega)]
  simp only [Option.bind_some, Int.toNat_natCast]
  by_cases hb : byteAt s i < 128
  · rw [if_pos hb]
    by_cases h : v = s.extract 0 (i + 1)
    · rw [if_pos h]; simp [h, hb]
    · rw [if_neg h]; simp [h, hb]
  · rw [if_neg hb]; simp [hb]

theorem impl_end (k : Nat) (s : ByteArray) (i : Nat) (n : Int) (h : ¬ i < 7 ∨ ¬ i < s.size) : impl_ReadVar.b0 k (s, 0, 0, n, (i : Int)) = some (.inr (.inl (0, 0))) := by
  unfold impl_ReadVar.b0
  dsimp only
  by_cases h7 : i < s.size
  · have h1 : decide ((i : Int) < 7) = false := by simp; omega
    rw [h1]
    cases decide ((i : Int) < (s.size : Int)) <;> rfl
  · have : decide ((i : Int) < (s.size : Int)) = false := by simp; omega
    rw [this]; rfl

/-- what ReadVar answers: nothing, or a number and how many bytes it took -/
def rvOk (k : Nat) (s : ByteArray) (r : Int × Int) : Prop := r = (0, 0) ∨ (0 ≤ r.1 ∧ r.1 ≤ 562949953421311 ∧ 1 ≤ r.2 ∧ r.2 ≤ 7 ∧ r.2 ≤ s.size ∧ spec_Var.f k r.1 = some (s.extract 0 r.2.toNat))
def rvEnd : (Int × Int) ⊕ (Int × Int) → Int × Int
  | .inl _ => (0, 0) | .inr o => o

theorem readVar_both {k : Nat} (hk : 9223372036854775808 ≤ k) (s : ByteArray) (hs : s.size ≤ 4611686018427387904) : ∀ (d kk kk' i : Nat), i + d = 7 → d < kk → d < kk' → (∀ m, m < i → 128 ≤ byteAt s m) →
    ∃ x y, iter (X := (Int × Int) ⊕ (Int × Int)) (spec_ReadVar.b0 k) kk (s, 0, 0, ((i + 1 : Nat) : Int)) = some x ∧ iter (X := (Int × Int) ⊕ (Int × Int)) (impl_ReadVar.b0 k) kk' (s, 0, 0, val s i, (i : Int)) = some y ∧ rvEnd x = rvEnd y ∧ rvOk k s (rvEnd x)
  | d, kk, kk', i, hd, hkk, hkk', hb => by
    obtain ⟨kk, rfl⟩ : ∃ m, kk = m + 1 := ⟨kk - 1, by omega⟩
    obtain ⟨kk', rfl⟩ : ∃ m, kk' = m + 1 := ⟨kk' - 1, by omega⟩
    by_cases h : i < 7 ∧ i < s.size
    · obtain ⟨v, hv, hv0, hv1, hv2⟩ := var_bytes hk (val7 s (show i + 1 ≤ 7 by omega)).1 (val7 s (show i + 1 ≤ 7 by omega)).2
      have ha := readVar_step hk s hs (i + 1) (by omega) (by omega) (by omega) hv
      have hc := impl_step hk s hs i h.1 h.2 hv
      have hl7 := val7 s (show i + 1 ≤ 7 by omega)
      by_cases h8 : byteAt s i < 128
      · rw [if_pos h8] at hc
        by_cases he : v = s.extract 0 (i + 1)
        · rw [if_pos he] at ha hc
          refine ⟨_, _, iter_inr ha, iter_inr hc, rfl, .inr ⟨hl7.1, hl7.2, by show (1 : Int) ≤ ((i + 1 : Nat) : Int); omega, by show ((i + 1 : Nat) : Int) ≤ 7; omega, by show ((i + 1 : Nat) : Int) ≤ _; omega, ?_⟩⟩
          show spec_Var.f k (val s (i + 1)) = some (s.extract 0 (((i + 1 : Nat) : Int)).toNat)
          rw [Int.toNat_natCast, ← he]; exact hv
        · rw [if_neg he] at ha hc
          refine ⟨.inl (0, 0), _, ?_, iter_inr hc, rfl, .inl rfl⟩
          rw [iter_inl ha]
          exact readVar_stuck hk s hs (d - 1) kk (i + 1 + 1) (by omega) (by omega) (by omega) ⟨i, by omega, h8⟩
      · rw [if_neg h8] at hc
        have he : v ≠ s.extract 0 (i + 1) := by
          intro e
          have hz : v.size = i + 1 := by rw [e, size_ext s (by omega)]; omega
          rw [hz, e, byteAt_ext s (by omega) (by omega)] at hv2
          have : 0 + (i + 1 - 1) = i := by omega
          rw [this] at hv2
          exact h8 hv2
        rw [if_neg he] at ha
        rw [iter_inl ha, iter_inl hc]
        exact readVar_both hk s hs (d - 1) kk kk' (i + 1) (by omega) (by omega) (by omega) (fun m hm => by
          by_cases e : m = i
          · subst e; omega
          · exact hb m (by omega))
    · exact ⟨_, _, iter_inr (readVar_end k s (i + 1) (by omega)), iter_inr (impl_end k s i (val s i) (by omega)), rfl, .inl rfl⟩
termination_by d => d
decreasing_by omega

theorem readVar_same {k : Nat} (hk : 9223372036854775808 ≤ k) (s : ByteArray) (hs : s.size ≤ 4611686018427387904) : ∃ r, spec_ReadVar.f k s = some r ∧ impl_ReadVar.f k s = some r ∧ rvOk k s r := by
  obtain ⟨x, y, h1, h2, h3, h4⟩ := readVar_both hk s hs 7 k k 0 rfl (by omega) (by omega) (fun m hm => by omega)
  refine ⟨rvEnd x, ?_, ?_, h4⟩
  · unfold spec_ReadVar.f
    have : ((0 + 1 : Nat) : Int) = 1 := rfl
    rw [this] at h1
    rw [h1]
    cases x <;> rfl
  · unfold impl_ReadVar.f
    have e : val s 0 = 0 := rfl
    have : ((0 : Nat) : Int) = 0 := rfl
    rw [e, this] at h2
    rw [h2, h3]
    cases y <;> rfl

/-! reading one number behind the other -/
def rdv (k : Nat) (s : ByteArray) : Int × Int := (spec_ReadVar.f k s).getD (0, 0)
theorem rdv_spec {k : Nat} (hk : 9223372036854775808 ≤ k) (s : ByteArray) (hs : s.size ≤ 4611686018427387904) : spec_ReadVar.f k s = some (rdv k s) ∧ impl_ReadVar.f k s = some (rdv k s) ∧ rvOk k s (rdv k s) := by
  obtain ⟨r, h1, h2, h3⟩ := readVar_same hk s hs
  have : rdv k s = r := by unfold rdv; rw [h1]; rfl
  rw [this]
  exact ⟨h1, h2, h3⟩

def numP (k : Nat) (s : ByteArray) (bad : Bool) : Int × ByteArray × Bool :=
  if bad = true ∨ (rdv k s).2 = 0 then (0, s, true) else ((rdv k s).1, s.extract (rdv k s).2.toNat s.size, false)

theorem num_eq {k : Nat} (hk : 9223372036854775808 ≤ k) (s : ByteArray) (bad : Bool) (hs : s.size ≤ 4611686018427387904) : impl_scan_num.f k (s, bad) = some (numP k s bad) := by
  obtain ⟨_, h2, h3⟩ := rdv_spec hk s hs
  unfold impl_scan_num.f numP
  dsimp only
  rw [h2]
  simp only [Option.bind_some]
  cases bad
  · by_cases h : (rdv k s).2 = 0
    · simp [h]
    · have h4 : 0 ≤ (rdv k s).2 ∧ (rdv k s).2 ≤ s.size := by
        rcases h3 with h3 | h3
        · rw [h3] at h; exact absurd rfl h
        · omega
      rw [cut_ok h4.1 h4.2 (by omega)]
      simp [h]
  · rfl

theorem suffix_ext (s : ByteArray) (a : Nat) (h : a ≤ s.size) (c : Nat) (hc : a + c ≤ s.size) : (s.extract a s.size).extract c (s.extract a s.size).size = s.extract (a + c) s.size := by
  rw [size_ext s (Nat.le_refl _)]
  apply str_ext
  · rw [size_ext, size_ext]
    · omega
    · omega
    · rw [size_ext] <;> omega
  · intro i hi
    rw [size_ext] at hi
    · rw [byteAt_ext, byteAt_ext, byteAt_ext]
      · congr 1; omega
      all_goals first | omega | (rw [size_ext] <;> omega)
    · rw [size_ext] <;> omega

theorem nums_bad (k : Nat) (s : ByteArray) : numP k s true = (0, s, true) := by unfold numP; simp
theorem nums_none {k : Nat} {s : ByteArray} (h : (rdv k s).2 = 0) : numP k s false = (0, s, true) := by unfold numP; simp [h]
theorem nums_some {k : Nat} {s : ByteArray} (h : ¬ (rdv k s).2 = 0) : numP k s false = ((rdv k s).1, s.extract (rdv k s).2.toNat s.size, false) := by unfold numP; simp [h]
end Go.Proofs.YtgocmmfhglppjaaGreatDoor.Rx.V
