/- The plain side of the law: part 1. No condition beside those that each theorem states. -/
import Derived.Test.YtbkcbfkehncocaaGreatDoorRxFnsBOk
set_option linter.unusedVariables false
set_option linter.unusedSimpArgs false
namespace Go.Proofs.YtbkcbfkehncocaaGreatDoor.Rx
section
abbrev U0 := Int × Int
abbrev U1 := Zb × Int
abbrev U2 := Int × Zb
abbrev U3 := Int × Int × Int × Int × Int × Zb × U0
abbrev U4 := List Int × List Int × List Int
abbrev U5 := Zb × Zb
abbrev U6 := Zb × U1
abbrev U7 := Int × Int × Int × Int × Int × Int × Int × Int × List (U2) × Int × U4
abbrev U8 := Zb × List Int
abbrev U9 := Zb × Bool
abbrev U10 := Int × Int × List (Int × U1) × List (U1) × List (Int × U6)
abbrev U11 := List Zb × Int
abbrev U12 := List Zb × Bool × List Zb × Int × Zb × List (U0)
abbrev LinkT := Zb × Int
abbrev Pja := Int × Zb × Int
abbrev MoveT := Int × Zb × Zb × Int
abbrev DiskT := Int × Int × List Pja × List LinkT × List MoveT
theorem Pqg (k : Nat) (a b c : Int) : Paj.f k a b c = some (decide (b ≤ a) && decide (a ≤ c)) := by
 unfold Paj.f
 cases decide (b ≤ a) <;> rfl
theorem Pcr (k : Nat) (a b c : Int) : Paa.f k a b c = some (decide (b ≤ a) && decide (a ≤ c)) := Pqg k a b c
def chB (b : Int) : Bool := (decide (97 ≤ b) && decide (b ≤ 122)) || (decide (48 ≤ b) && decide (b ≤ 57)) || decide (b = 46)
def nameB (s : Zb) : Bool := decide (1 ≤ (s.size : Int)) && decide ((s.size : Int) ≤ 12) && (List.range s.size).all fun i => chB (Qmy s i)
theorem Pry {S X : Type} (b : Int) (x : Option (S ⊕ X ⊕ Bool)) :
  (bif decide (97 ≤ b) then (bif decide (b ≤ 122) then x else (bif decide (48 ≤ b) then (bif decide (b ≤ 57) then x else (bif !(decide (b = 46)) then some (.inr (.inr false)) else x)) else (bif !(decide (b = 46)) then some (.inr (.inr false)) else x)))
   else (bif decide (48 ≤ b) then (bif decide (b ≤ 57) then x else (bif !(decide (b = 46)) then some (.inr (.inr false)) else x)) else (bif !(decide (b = 46)) then some (.inr (.inr false)) else x))) = if chB b then x else some (.inr (.inr false)) := by
 unfold chB
 cases decide (97 ≤ b) <;> cases decide (b ≤ 122) <;> cases decide (48 ≤ b) <;> cases decide (b ≤ 57) <;> cases decide (b = 46) <;> rfl
theorem Pqr {k} (hk : Zk k) (s : Zb) (hs : s.size ≤ 1048576) : Pco.f k s = some (nameB s) := by
 unfold Pco.f nameB
 rw [Pqg]
 simp only [Zo]
 cases h : (decide (1 ≤ (s.size : Int)) && decide ((s.size : Int) ≤ 12)) with
 | false => rfl
 | true =>
  simp only [Zx, Zz, Bool.true_and]
  have key := Qqt (B := Pco.b0 k) s.size (fun i => (s, false, (i : Int))) (fun i => chB (Qmy s i)) (.inl false) (.inr false) (fun i hi _ => by
   have e1 : decide ((i : Int) < (s.size : Int)) = true := by simp; omega
   have e2 : inb? s.size (i : Int) = some i := by rw [Zi, Zn]
   unfold Pco.b0
   dsimp only
   simp only [e1, Zy, e2, Zo, Pry]
   rw [Zw]
   rfl) (fun _ => by
   have e1 : decide ((s.size : Int) < (s.size : Int)) = false := by simp
   unfold Pco.b0
   dsimp only
   rw [e1]; rfl) k (by omega)
  have e0 : ((0 : Nat) : Int) = 0 := rfl
  simp only [e0] at key
  rw [key]
  cases (List.range s.size).all fun i => chB (Qmy s i) <;> rfl
theorem Pqf {k} (hk : Zk k) (s : Zb) (hs : s.size ≤ 1048576) : Pch.f k s = some (nameB s) := by
 unfold Pch.f nameB
 have key := Qqt (B := Pch.b0 k) s.size (fun i => (s, false, (i : Int))) (fun i => chB (Qmy s i)) (.inl (s, false)) (.inr false) (fun i hi _ => by
  have e1 : decide ((i : Int) < (s.size : Int)) = true := by simp; omega
  have e2 : inb? s.size (i : Int) = some i := by rw [Zi, Zn]
  unfold Pch.b0
  dsimp only
  simp only [e1, Zy, e2, Zo, Pry]
  rw [Zw]
  rfl) (fun _ => by
  have e1 : decide ((s.size : Int) < (s.size : Int)) = false := by simp
  unfold Pch.b0
  dsimp only
  rw [e1]; rfl) k (by omega)
 have e0 : ((0 : Nat) : Int) = 0 := rfl
 simp only [e0] at key
 rw [key]
 cases (List.range s.size).all fun i => chB (Qmy s i) with
 | false => simp
 | true =>
  simp only [if_true, Zo, Bool.and_true]
  unfold Pch.d0
  rw [Pcr]; rfl
theorem Pbbi {k} (hk : Zk k) (l : List LinkT) (n : Zb) (hl : l.length ≤ 4194304) : Pee.f k l n = some (idxOf (fun x => decide (x.1 = n)) l) := by
 unfold Pee.f idxOf
 have key := Qqy (B := Pee.b0 k) l (fun i => (l, n, 0, (i : Int))) (fun x => decide (x.1 = n)) (fun i => .inr (i : Int)) (.inl 0) (fun i hi => by
  have e1 : decide ((i : Int) < (l.length : Int)) = true := by simp; omega
  have e2 : inb? l.length (i : Int) = some i := by rw [Zi, Zn]
  unfold Pee.b0
  dsimp only
  simp only [e1, Zy, e2, Zo, Zg hi]
  rw [Zw]
  rfl) (by
  have e1 : decide ((l.length : Int) < (l.length : Int)) = false := by simp
  unfold Pee.b0
  dsimp only
  rw [e1]; rfl) k (by omega)
 have e0 : ((0 : Nat) : Int) = 0 := rfl
 simp only [e0] at key
 rw [key]
 cases l.findIdx? (fun x => decide (x.1 = n)) <;> rfl
theorem Pms {k} (hk : Zk k) (l : List LinkT) (n : Int) (hl : l.length ≤ 4194304) : Pbw.f k l n = some (l.any fun x => decide (x.2 = n)) := by
 rw [Qrm]
 unfold Pbw.f idxOf
 have key := Qqy (B := Pbw.b0 k) l (fun i => (l, n, false, (i : Int))) (fun x => decide (x.2 = n)) (fun i => .inr true) (.inl false) (fun i hi => by
  have e1 : decide ((i : Int) < (l.length : Int)) = true := by simp; omega
  have e2 : inb? l.length (i : Int) = some i := by rw [Zi, Zn]
  unfold Pbw.b0
  dsimp only
  simp only [e1, Zy, e2, Zo, Zg hi]
  rw [Zw]
  rfl) (by
  have e1 : decide ((l.length : Int) < (l.length : Int)) = false := by simp
  unfold Pbw.b0
  dsimp only
  rw [e1]; rfl) k (by omega)
 have e0 : ((0 : Nat) : Int) = 0 := rfl
 simp only [e0] at key
 rw [key]
 cases l.findIdx? (fun x => decide (x.2 = n)) with
 | none => rfl
 | some i => simp
theorem Pvi {k} (hk : Zk k) (l : List MoveT) (n : Int) (hl : l.length ≤ 4194304) : Pdc.f k l n = some (l.any fun x => decide (x.1 = 1) && decide (x.2.2.2 = n)) := by
 rw [Qrm]
 unfold Pdc.f idxOf
 have key := Qqy (B := Pdc.b0 k) l (fun i => (l, n, false, (i : Int))) (fun x => decide (x.1 = 1) && decide (x.2.2.2 = n)) (fun i => .inr true) (.inl false) (fun i hi => by
  have e1 : decide ((i : Int) < (l.length : Int)) = true := by simp; omega
  have e2 : inb? l.length (i : Int) = some i := by rw [Zi, Zn]
  unfold Pdc.b0
  dsimp only
  simp only [e1, Zy, e2, Zo, Zg hi]
  rw [Zw]
  cases decide (l[i].1 = 1) <;> cases decide (l[i].2.2.2 = n) <;> rfl) (by
  have e1 : decide ((l.length : Int) < (l.length : Int)) = false := by simp
  unfold Pdc.b0
  dsimp only
  rw [e1]; rfl) k (by omega)
 have e0 : ((0 : Nat) : Int) = 0 := rfl
 simp only [e0] at key
 rw [key]
 cases l.findIdx? (fun x => decide (x.1 = 1) && decide (x.2.2.2 = n)) with
 | none => rfl
 | some i => simp
theorem Poo {k} (hk : Zk k) (d : DiskT) (n : Int) (hl : d.2.2.1.length ≤ 1048576) : Pcf.f k d n = some (idxOf (fun x => decide (x.1 = n)) d.2.2.1) := by
 unfold Pcf.f idxOf
 have key := Qqy (B := Pcf.b0 k) d.2.2.1 (fun i => (n, 0, (i : Int), d)) (fun x => decide (x.1 = n)) (fun i => .inr (i : Int)) (.inl 0) (fun i hi => by
  have e1 : decide ((i : Int) < (d.2.2.1.length : Int)) = true := by simp; omega
  have e2 : inb? d.2.2.1.length (i : Int) = some i := by rw [Zi, Zn]
  unfold Pcf.b0
  dsimp only
  simp only [e1, Zy, e2, Zo, Zg hi]
  rw [Zw]
  rfl) (by
  have e1 : decide ((d.2.2.1.length : Int) < (d.2.2.1.length : Int)) = false := by simp
  unfold Pcf.b0
  dsimp only
  rw [e1]; rfl) k (by omega)
 have e0 : ((0 : Nat) : Int) = 0 := rfl
 simp only [e0] at key
 try simp only [Prod.eta]
 rw [key]
 cases d.2.2.1.findIdx? (fun x => decide (x.1 = n)) <;> rfl
theorem Pbbd {k} (hk : Zk k) (l : List LinkT) (n : Zb) (hl : l.length ≤ 4194304) : Pga.f k l n = some (idxOf (fun x => decide (x.1 = n)) l) := by
 unfold Pga.f Pai.f idxOf
 have key := Qqy (B := Pai.b0 k) l (fun i => (l, 0, (l.length : Int), (i : Int), n)) (fun x => decide (x.1 = n)) (fun i => .inr (i : Int)) (.inl 0) (fun i hi => by
  have e1 : decide ((i : Int) < (l.length : Int)) = true := by simp; omega
  have e2 : inb? l.length (i : Int) = some i := by rw [Zi, Zn]
  unfold Pai.b0 Phc.f
  dsimp only
  simp only [e1, Zy, e2, Zo, Zg hi]
  rw [Zw]
  rfl) (by
  have e1 : decide ((l.length : Int) < (l.length : Int)) = false := by simp
  unfold Pai.b0
  dsimp only
  rw [e1]; rfl) k (by omega)
 have e0 : ((0 : Nat) : Int) = 0 := rfl
 simp only [e0] at key
 rw [key]
 cases l.findIdx? (fun x => decide (x.1 = n)) <;> rfl
theorem Poc {k} (hk : Zk k) (d : DiskT) (n : Int) (hl : d.2.2.1.length ≤ 1048576) : Pdz.f k d n = some (idxOf (fun x => decide (x.1 = n)) d.2.2.1) := by
 unfold Pdz.f Paf.f idxOf
 have key := Qqy (B := Paf.b0 k) d.2.2.1 (fun i => (d.2.2.1, 0, (d.2.2.1.length : Int), (i : Int), n)) (fun x => decide (x.1 = n)) (fun i => .inr (i : Int)) (.inl 0) (fun i hi => by
  have e1 : decide ((i : Int) < (d.2.2.1.length : Int)) = true := by simp; omega
  have e2 : inb? d.2.2.1.length (i : Int) = some i := by rw [Zi, Zn]
  unfold Paf.b0 Pfu.f
  dsimp only
  simp only [e1, Zy, e2, Zo, Zg hi]
  rw [Zw]
  rfl) (by
  have e1 : decide ((d.2.2.1.length : Int) < (d.2.2.1.length : Int)) = false := by simp
  unfold Paf.b0
  dsimp only
  rw [e1]; rfl) k (by omega)
 have e0 : ((0 : Nat) : Int) = 0 := rfl
 simp only [e0] at key
 rw [key]
 cases d.2.2.1.findIdx? (fun x => decide (x.1 = n)) <;> rfl
theorem Pmy {k} (hk : Zk k) (l : List Int) (n : Int) (hl : l.length ≤ 4194304) : Pci.f k l n = some (decide (n ∈ l)) := by
 unfold Pci.f Pce.f
 have key := Qqy (B := Pce.b0 k) l (fun i => (l, n, 0, (l.length : Int), (i : Int))) (fun x => decide (n = x)) (fun i => .inr (i : Int)) (.inl 0) (fun i hi => by
  have e1 : decide ((i : Int) < (l.length : Int)) = true := by simp; omega
  have e2 : inb? l.length (i : Int) = some i := by rw [Zi, Zn]
  unfold Pce.b0
  dsimp only
  simp only [e1, Zy, e2, Zo, Zg hi]
  rw [Zw]
  rfl) (by
  have e1 : decide ((l.length : Int) < (l.length : Int)) = false := by simp
  unfold Pce.b0
  dsimp only
  rw [e1]; rfl) k (by omega)
 have e0 : ((0 : Nat) : Int) = 0 := rfl
 simp only [e0] at key
 rw [key]
 cases h : l.findIdx? (fun x => decide (n = x)) with
 | none =>
  have := List.findIdx?_eq_none_iff.1 h
  have : n ∉ l := fun hm => by simpa using this n hm
  simp [this, Pce.d0]
 | some i =>
  obtain ⟨h1, h2, _⟩ := List.findIdx?_eq_some_iff_getElem.1 h
  have : n ∈ l := by
   have h2 : n = l[i] := of_decide_eq_true h2
   rw [h2]; exact List.getElem_mem h1
  simp [this]
def Pdo (l : List LinkT) (n : Zb) : List LinkT := l.filter fun x => !decide (x.1 = n)
def insM (p : LinkT → Bool) (x : LinkT) (l : List LinkT) : List LinkT := l.takeWhile (fun y => !p y) ++ x :: l.dropWhile (fun y => !p y)
def withS (l : List LinkT) (x : LinkT) : List LinkT := insM (fun y => strLt x.1 y.1) x (Pdo l x.1)
def linkI (l : List LinkT) (x : LinkT) : List LinkT := insM (fun y => !strLt y.1 x.1) x l
theorem Pjf (l : List LinkT) (n : Zb) : (Pdo l n).length ≤ l.length := List.length_filter_le _ _
theorem Pno (p : LinkT → Bool) (x : LinkT) (l : List LinkT) : (insM p x l).length = l.length + 1 := by
 unfold insM
 have := congrArg List.length (List.takeWhile_append_dropWhile (p := fun y => !p y) (l := l))
 simp only [List.length_append, Zl] at this ⊢
 omega
theorem Pkk {α : Type} (p : α → Bool) : ∀ (l a : List α), l.foldl (fun a x => bif p x then a ++ [x] else a) a = a ++ l.filter p
 | [], a => by simp
 | x :: l, a => by
  rw [List.foldl_cons, Pkk p l]
  cases h : p x <;> simp [h]
theorem Pop {k} (hk : Zk k) (l : List LinkT) (n : Zb) (hl : l.length ≤ 4194304) : Pap.f k l n = some (Pdo l n) := by
 unfold Pap.f
 have key := Qqp (B := Pap.b0 k) l (fun i a => (l, n, [], a, (i : Int))) (fun a x => bif !decide (x.1 = n) then a ++ [x] else a) (fun a => .inl ([], a)) [] (fun i hi => by
  have e1 : decide ((i : Int) < (l.length : Int)) = true := by simp; omega
  have e2 : inb? l.length (i : Int) = some i := by rw [Zi, Zn]
  rw [Pkk]
  have hlen := List.length_filter_le (fun x => !decide (x.1 = n)) (l.take i)
  rw [List.length_take] at hlen
  unfold Pap.b0
  dsimp only
  simp only [e1, Zy, e2, Zo, Zg hi]
  rw [Zw, Qrr (by unfold limOf; simp only [List.length_append, List.length_nil, Zl]; omega)]
  cases !decide (l[i].1 = n) <;> rfl) (by
  have e1 : decide ((l.length : Int) < (l.length : Int)) = false := by simp
  unfold Pap.b0
  dsimp only
  rw [e1]; rfl) k (by omega)
 have e0 : ((0 : Nat) : Int) = 0 := rfl
 simp only [e0] at key
 rw [key, Pkk]
 rfl
def putG (x : LinkT) (a : List LinkT × Bool) (y : LinkT) : List LinkT × Bool := bif !a.2 && strLt x.1 y.1 then (a.1 ++ [x, y], true) else (a.1 ++ [y], a.2)
def putE (x : LinkT) (a : List LinkT × Bool) : List LinkT := bif !a.2 then a.1 ++ [x] else a.1
theorem Psb (x : LinkT) : ∀ (l a : List LinkT), l.foldl (putG x) (a, true) = (a ++ l, true)
 | [], a => by simp
 | y :: l, a => by
  rw [List.foldl_cons]
  have : putG x (a, true) y = (a ++ [y], true) := rfl
  rw [this, Psb x l]; simp
theorem Pyk (x : LinkT) : ∀ (l a : List LinkT), putE x (l.foldl (putG x) (a, false)) = a ++ insM (fun y => strLt x.1 y.1) x l
 | [], a => by simp [putE, insM]
 | y :: l, a => by
  rw [List.foldl_cons]
  cases h : strLt x.1 y.1 with
  | true =>
   have : putG x (a, false) y = (a ++ [x, y], true) := by simp [putG, h]
   rw [this, Psb]
   simp [putE, insM, List.takeWhile, List.dropWhile, h]
  | false =>
   have : putG x (a, false) y = (a ++ [y], false) := by simp [putG, h]
   rw [this, Pyk x l]
   simp [insM, List.takeWhile, List.dropWhile, h]
theorem Pqm (x : LinkT) : ∀ (l : List LinkT) (a : List LinkT × Bool), (l.foldl (putG x) a).1.length ≤ a.1.length + 2 * l.length
 | [], a => by simp
 | y :: l, a => by
  rw [List.foldl_cons]
  have := Pqm x l (putG x a y)
  have h2 : (putG x a y).1.length ≤ a.1.length + 2 := by
   unfold putG
   cases !a.2 && strLt x.1 y.1 <;> simp
  simp only [Zl]
  omega
theorem Pvl {k} (hk : Zk k) (l : List LinkT) (x : LinkT) (hl : l.length ≤ 4194304) : Pca.f k l x = some (withS l x) := by
 unfold Pca.f
 rw [Pop hk l x.1 hl]
 simp only [Zo]
 have hwl := Pjf l x.1
 obtain ⟨w, hw⟩ : ∃ w, Pdo l x.1 = w := ⟨_, rfl⟩
 unfold withS
 rw [hw] at hwl ⊢
 have key := Qqp (B := Pca.b0 k) w (fun i a => (w, [], a.1, a.2, (i : Int), x.1, x.2)) (putG x) (fun a => .inl ([], a.1, a.2, x.1, x.2)) ([], false) (fun i hi => by
  have e1 : decide ((i : Int) < (w.length : Int)) = true := by simp; omega
  have e2 : inb? w.length (i : Int) = some i := by rw [Zi, Zn]
  have hlen := Pqm x (w.take i) ([], false)
  rw [List.length_take] at hlen
  simp only [List.length_nil] at hlen
  obtain ⟨a, ha⟩ : ∃ a, (w.take i).foldl (putG x) ([], false) = a := ⟨_, rfl⟩
  rw [ha] at hlen ⊢
  unfold Pca.b0 Pca.c0
  dsimp only
  simp only [e1, Zy, e2, Zo, Zg hi]
  unfold putG
  cases hb : a.2 with
  | true =>
   simp only [Zx, Zz, Bool.false_and, Zo, e2, Zg hi]
   rw [Qrr (by unfold limOf; simp only [List.length_append, List.length_nil, Zl]; omega)]
   simp only [e2, Zo, Zg hi]
   rw [Zw]
   rfl
  | false =>
   simp only [Bool.not_false, Zy, Bool.true_and, Zo]
   cases strLt x.1 w[i].1 with
   | true =>
    simp only [Zy]
    rw [Qrr (by unfold limOf; simp only [List.length_append, List.length_nil, Zl]; omega)]
    simp only [e2, Zo, Zg hi]
    rw [Qrr (by unfold limOf; simp only [List.length_append, List.length_nil, Zl]; omega)]
    simp only [Zo]
    rw [Zw]
    simp
   | false =>
    simp only [Zz, e2, Zo, Zg hi]
    rw [Qrr (by unfold limOf; simp only [List.length_append, List.length_nil, Zl]; omega)]
    simp only [Zo]
    rw [Zw]
    rfl) (by
  have e1 : decide ((w.length : Int) < (w.length : Int)) = false := by simp
  unfold Pca.b0
  dsimp only
  rw [e1]; rfl) k (by omega)
 have e0 : ((0 : Nat) : Int) = 0 := rfl
 simp only [e0] at key
 rw [key]
 simp only [Zo]
 have := Pyk x w []
 have hlen := Pqm x w ([], false)
 simp only [List.length_nil, List.nil_append] at this hlen
 unfold Pca.d0
 rw [← this]
 unfold putE
 cases hb : (w.foldl (putG x) ([], false)).2 with
 | true => simp
 | false =>
  simp only [Bool.not_false, Zy]
  rw [Qrr (by unfold limOf; simp only [List.length_append, List.length_nil, Zl]; omega)]
  rfl
theorem Pqw {α : Type} (p : α → Bool) (l : List α) : l.takeWhile (fun y => !p y) = l.take (match l.findIdx? p with | some i => i | none => l.length) ∧ l.dropWhile (fun y => !p y) = l.drop (match l.findIdx? p with | some i => i | none => l.length) := by
 induction l with
 | nil => simp
 | cons x l ih =>
  rw [List.findIdx?_cons]
  cases h : p x with
  | true => simp [List.takeWhile, List.dropWhile, h]
  | false =>
   simp only [List.takeWhile, List.dropWhile, h, Bool.not_false]
   rw [ih.1, ih.2]
   cases l.findIdx? p <;> simp
theorem Ppk {k} (hk : Zk k) (l : List LinkT) (x : LinkT) (hl : l.length ≤ 4194304) : Pcn.f k l x = some (linkI l x) := by
 unfold Pcn.f
 have key := Qqy (B := Pcn.b0 k) l (fun i => (l, [], (i : Int), x.1, x.2)) (fun y => !strLt y.1 x.1) (fun i => .inl (l, [], (i : Int), x.1, x.2)) (.inl (l, [], (l.length : Int), x.1, x.2)) (fun i hi => by
  have e1 : decide ((i : Int) < (l.length : Int)) = true := by simp; omega
  have e2 : inb? l.length (i : Int) = some i := by rw [Zi, Zn]
  unfold Pcn.b0
  dsimp only
  simp only [e1, Zy, e2, Zo, Zg hi]
  rw [Zw]
  cases strLt l[i].1 x.1 <;> rfl) (by
  have e1 : decide ((l.length : Int) < (l.length : Int)) = false := by simp
  unfold Pcn.b0
  dsimp only
  rw [e1]; rfl) k (by omega)
 have e0 : ((0 : Nat) : Int) = 0 := rfl
 simp only [e0] at key
 rw [key]
 unfold linkI insM
 obtain ⟨t1, t2⟩ := Pqw (fun y : LinkT => !strLt y.1 x.1) l
 rw [t1, t2]
 have fin : ∀ i : Nat, i ≤ l.length → Pcn.d0 k (l, [], (i : Int), x.1, x.2) = some (l.take i ++ x :: l.drop i) := fun i hi => by
  unfold Pcn.d0 Pbv.f insF
  rw [if_pos ⟨rfl, by simp, by simp; omega, by simp only; omega⟩]
  simp
 cases h : l.findIdx? (fun y : LinkT => !strLt y.1 x.1) with
 | none => simp only [Zo]; exact fin l.length (Nat.le_refl _)
 | some i =>
  obtain ⟨h1, _⟩ := List.findIdx?_eq_some_iff_getElem.1 h
  simp only [Zo]; exact fin i (by omega)
theorem Pbbo {α : Type} {p : α → Option Bool} {q : α → Bool} {l : List α} (hp : ∀ x ∈ l, p x = some (q x)) (hl : l.length ≤ 9223372036854775806) : delG (some (idxOf q l)) p l = some (l.filter fun x => !q x) := by
 unfold delG idxOf
 simp only [Zo]
 cases h : l.findIdx? q with
 | none =>
  have := List.findIdx?_eq_none_iff.1 h
  rw [if_pos rfl, List.filter_eq_self.2 fun x hx => by simp [this x hx]]
 | some i =>
  obtain ⟨h1, h2, h3⟩ := List.findIdx?_eq_some_iff_getElem.1 h
  simp only
  rw [if_neg (by omega), if_pos ⟨by omega, by omega, hl⟩, Zn, Qqa (q := q) fun x hx => hp x (List.mem_of_mem_drop hx)]
  simp only [Option.map_some]
  congr 1
  conv => rhs; rw [← List.take_append_drop i l, List.filter_append, List.drop_eq_getElem_cons h1]
  rw [List.filter_cons, h2]
  simp only [Zx, Bool.false_eq_true, if_false]
  have : (l.take i).filter (fun x => !q x) = l.take i := by
   refine List.filter_eq_self.2 fun x hx => ?_
   obtain ⟨j, hj, rfl⟩ := List.getElem_of_mem hx
   rw [List.length_take] at hj
   simp only [List.getElem_take]
   have := h3 j (by omega)
   simpa using this
  rw [this]
theorem Pbbs {k} (hk : Zk k) (l : List LinkT) (m : MoveT) (hl : l.length ≤ 4194304) : Pac.f k l m = some (l.filter fun x => !(decide (x.1 = m.2.1) || decide (x.1 = m.2.2.1))) := by
 have hp : ∀ x : LinkT, Pct.f k x m = some (decide (x.1 = m.2.1) || decide (x.1 = m.2.2.1)) := fun x => by
  unfold Pct.f
  cases decide (x.1 = m.2.1) <;> rfl
 have hi : Pab.f k l m = some (idxOf (fun x => decide (x.1 = m.2.1) || decide (x.1 = m.2.2.1)) l) := by
  unfold Pab.f idxOf
  have key := Qqy (B := Pab.b0 k) l (fun i => (l, 0, (l.length : Int), (i : Int), m)) (fun x => decide (x.1 = m.2.1) || decide (x.1 = m.2.2.1)) (fun i => .inr (i : Int)) (.inl 0) (fun i hi => by
   have e1 : decide ((i : Int) < (l.length : Int)) = true := by simp; omega
   have e2 : inb? l.length (i : Int) = some i := by rw [Zi, Zn]
   unfold Pab.b0
   dsimp only
   simp only [e1, Zy, e2, Zo, Zg hi, Prod.eta, hp]
   rw [Zw]
   rfl) (by
   have e1 : decide ((l.length : Int) < (l.length : Int)) = false := by simp
   unfold Pab.b0
   dsimp only
   rw [e1]; rfl) k (by omega)
  have e0 : ((0 : Nat) : Int) = 0 := rfl
  simp only [e0] at key
  try simp only [Prod.eta]
  rw [key]
  cases l.findIdx? (fun x => decide (x.1 = m.2.1) || decide (x.1 = m.2.2.1)) <;> rfl
 unfold Pac.f
 rw [hi]
 exact Pbbo (fun x _ => hp x) (by omega)
def at? (l : List LinkT) (n : Zb) : Int := idxOf (fun x => decide (x.1 = n)) l
def idAt (l : List LinkT) (n : Zb) : Int := match l[(at? l n).toNat]? with | some x => x.2 | none => 0
def Pdu (l : List LinkT) (m : MoveT) : List LinkT × Bool :=
 if nameB m.2.1 = false then (l, false)
 else if m.1 = 1 ∧ m.2.2.1 = ⟨#[]⟩ ∧ at? l m.2.1 < 0 then (withS l (m.2.1, m.2.2.2), true)
 else if m.1 = 2 ∧ m.2.2.2 = 0 ∧ 0 ≤ at? l m.2.1 ∧ nameB m.2.2.1 = true ∧ m.2.2.1 ≠ m.2.1 then (withS (Pdo l m.2.1) (m.2.2.1, idAt l m.2.1), true)
 else if m.1 = 3 ∧ m.2.2.2 = 0 ∧ m.2.2.1 = ⟨#[]⟩ ∧ 0 ≤ at? l m.2.1 then (Pdo l m.2.1, true)
 else (l, false)
def Pjx (l : List LinkT) (m : MoveT) : List LinkT × Bool :=
 if m.1 = 1 ∧ m.2.2.1 = ⟨#[]⟩ ∧ at? l m.2.1 < 0 then (linkI l (m.2.1, m.2.2.2), true)
 else if m.1 = 2 ∧ m.2.2.2 = 0 ∧ 0 ≤ at? l m.2.1 ∧ m.2.2.1 ≠ m.2.1 ∧ nameB m.2.2.1 = true then (linkI (l.filter fun x => !(decide (x.1 = m.2.1) || decide (x.1 = m.2.2.1))) (m.2.2.1, idAt l m.2.1), true)
 else if m.1 = 3 ∧ m.2.2.1 = ⟨#[]⟩ ∧ m.2.2.2 = 0 ∧ 0 ≤ at? l m.2.1 then (l.take (at? l m.2.1).toNat ++ l.drop ((at? l m.2.1).toNat + 1), true)
 else (l, false)
theorem Pnn {l : List LinkT} {n : Zb} (h : 0 ≤ at? l n) : inb? l.length (at? l n) = some (at? l n).toNat ∧ ∃ x, l[(at? l n).toNat]? = some x ∧ x.2 = idAt l n := by
 obtain ⟨h1, h2⟩ := Qrh (fun x : LinkT => decide (x.1 = n)) l
 have hlt : (at? l n).toNat < l.length := by unfold at? at *; omega
 refine ⟨Qqx h (by unfold at?; omega), _, Zg hlt, ?_⟩
 unfold idAt
 rw [Zg hlt]
theorem Psl {k} (hk : Zk k) (l : List LinkT) (m : MoveT) (hl : l.length ≤ 4194000) (h1 : m.2.1.size ≤ 1048576) (h2 : m.2.2.1.size ≤ 1048576) : Pfh.f k l m = some (Pdu l m) := by
 have hw : (Pdo l m.2.1).length ≤ 4194304 := by have := Pjf l m.2.1; omega
 unfold Pfh.f
 rw [Pbbi hk l m.2.1 (by omega), Pqr hk m.2.1 h1, Pqr hk m.2.2.1 h2]
 simp only [Zo, Pvl hk l _ (show l.length ≤ 4194304 by omega), Pop hk l _ (show l.length ≤ 4194304 by omega), Pvl hk (Pdo l m.2.1) _ hw]
 change _ = some (Pdu l m)
 have hat : idxOf (fun x => decide (x.1 = m.2.1)) l = at? l m.2.1 := rfl
 rw [hat]
 unfold Pdu
 cases hn : nameB m.2.1 with
 | false => simp
 | true =>
  by_cases hp : 0 ≤ at? l m.2.1
  ·obtain ⟨e1, x, e2, e3⟩ := Pnn hp
   have hp' : ¬ at? l m.2.1 < 0 := by omega
   simp only [e1, e2, e3, Zo, hp, hp', decide_true, decide_false, Zx, Zz, Zy]
   by_cases c1 : m.1 = 1 <;> by_cases c2 : m.1 = 2 <;> by_cases c3 : m.1 = 3 <;> by_cases c4 : m.2.2.2 = 0 <;> by_cases c5 : m.2.2.1 = ⟨#[]⟩ <;> by_cases c6 : m.2.2.1 = m.2.1 <;> cases c7 : nameB m.2.2.1 <;> simp [c1, c2, c3, c4, c5, c6, c7] <;> first | (exfalso; omega) | simp_all
  ·have hp' : at? l m.2.1 < 0 := by omega
   simp only [Zo, hp, hp', decide_true, decide_false, Zx, Zz, Zy]
   by_cases c1 : m.1 = 1 <;> by_cases c2 : m.1 = 2 <;> by_cases c3 : m.1 = 3 <;> by_cases c4 : m.2.2.2 = 0 <;> by_cases c5 : m.2.2.1 = ⟨#[]⟩ <;> simp [c1, c2, c3, c4, c5] <;> omega
theorem Pro {k} (hk : Zk k) (l : List LinkT) (m : MoveT) (hl : l.length ≤ 4194000) (h2 : m.2.2.1.size ≤ 1048576) : Phm.f k l m = some (Pjx l m) := by
 unfold Phm.f Pcx.f
 rw [Qrr (by unfold limOf; simp only [List.length_nil]; omega)]
 simp only [Zo, List.nil_append, Pbbd hk l m.2.1 (show l.length ≤ 4194304 by omega), Pqf hk m.2.2.1 h2, Prod.eta, Pbbs hk l m (show l.length ≤ 4194304 by omega), Ppk hk l _ (show l.length ≤ 4194304 by omega)]
 have hf : (l.filter fun x => !(decide (x.1 = m.2.1) || decide (x.1 = m.2.2.1))).length ≤ 4194304 := by have := List.length_filter_le (fun x : LinkT => !(decide (x.1 = m.2.1) || decide (x.1 = m.2.2.1))) l; omega
 simp only [Ppk hk _ _ hf]
 have hat : idxOf (fun x => decide (x.1 = m.2.1)) l = at? l m.2.1 := rfl
 rw [hat]
 unfold Pjx
 by_cases hp : 0 ≤ at? l m.2.1
 ·obtain ⟨e1, x, e2, e3⟩ := Pnn hp
  have hp' : ¬ at? l m.2.1 < 0 := by omega
  obtain ⟨h3, h4⟩ := Qrh (fun x : LinkT => decide (x.1 = m.2.1)) l
  rw [hat] at h3 h4
  have ed : Pak.f k l (at? l m.2.1) (Zr (at? l m.2.1 + 1)) = some (l.take (at? l m.2.1).toNat ++ l.drop ((at? l m.2.1).toNat + 1)) := by
   unfold Pak.f delR
   rw [Zw, if_pos ⟨hp, by omega, by omega⟩, show (at? l m.2.1 + 1).toNat = (at? l m.2.1).toNat + 1 by omega]
  simp only [e1, e2, e3, ed, Zo, hp, hp', decide_true, decide_false, Zx, Zz, Zy]
  by_cases c1 : m.1 = 1 <;> by_cases c2 : m.1 = 2 <;> by_cases c3 : m.1 = 3 <;> by_cases c4 : m.2.2.2 = 0 <;> by_cases c5 : m.2.2.1 = ⟨#[]⟩ <;> by_cases c6 : m.2.2.1 = m.2.1 <;> cases c7 : nameB m.2.2.1 <;> simp [c1, c2, c3, c4, c5, c6, c7] <;> first | (exfalso; omega) | simp_all
 ·have hp' : at? l m.2.1 < 0 := by omega
  simp only [Zo, hp, hp', decide_true, decide_false, Zx, Zz, Zy]
  by_cases c1 : m.1 = 1 <;> by_cases c2 : m.1 = 2 <;> by_cases c3 : m.1 = 3 <;> by_cases c4 : m.2.2.2 = 0 <;> by_cases c5 : m.2.2.1 = ⟨#[]⟩ <;> simp [c1, c2, c3, c4, c5] <;> omega
def rg (a b c : Int) : Bool := decide (b ≤ a) && decide (a ≤ c)
theorem Pjy {b : Bool} {x : Option Bool} {y : Bool} (h : b = true → x = some y) : (bif !b then some false else x) = some (b && y) := by
 cases b with
 | true => simpa using h rfl
 | false => rfl
theorem Pnr {a b : Int} {x : Option Bool} {y : Bool} (h : a ≤ b → x = some y) : (bif decide (b < a) then some false else x) = some (decide (a ≤ b) && y) := by
 by_cases c : a ≤ b
 ·have e1 : decide (b < a) = false := by simp; omega
  rw [e1, Zz, h c, Zt c]; rfl
 ·have e1 : decide (b < a) = true := by simp; omega
  rw [e1, Zf c]; rfl
def Pmw (l : List Pja) : Int := l.foldl (fun n x => n + (x.2.1.size : Int)) 0
def amtI (l : List Pja) : Nat := (l.map fun x => x.2.1.size).sum
theorem Pkw : ∀ (l : List Pja) (n : Int), l.foldl (fun n x => n + (x.2.1.size : Int)) n = n + amtI l
 | [], n => by simp [amtI]
 | x :: l, n => by
  rw [List.foldl_cons, Pkw l]
  simp only [amtI, List.map_cons, List.sum_cons]
  omega
theorem Pwu (l : List Pja) (i : Nat) : amtI (l.take i) ≤ amtI l := by
 have := congrArg amtI (List.take_append_drop i l)
 unfold amtI at *
 rw [List.map_append, List.sum_append] at this
 omega
theorem Psy {l : List Pja} {i : Nat} (hi : i < l.length) : amtI (l.take i) + l[i].2.1.size ≤ amtI l := by
 have := Pwu l (i + 1)
 rw [List.take_add_one, Zg hi] at this
 unfold amtI at *
 rw [List.map_append, List.sum_append] at this
 simpa using this
structure Small (d : DiskT) : Prop where
 ino : d.2.2.1.length ≤ 1048576
 dir : d.2.2.2.1.length ≤ 1048576
 mov : d.2.2.2.2.length ≤ 1048576
 amt : amtI d.2.2.1 ≤ 1048576
 dirN : ∀ x ∈ d.2.2.2.1, x.1.size ≤ 1048576
 movN : ∀ x ∈ d.2.2.2.2, x.2.1.size ≤ 1048576 ∧ x.2.2.1.size ≤ 1048576
theorem Pyo {k} (hk : Zk k) (d : DiskT) (hs : Small d) : Pde.f k d = some (Pmw d.2.2.1) := by
 unfold Pde.f
 have ha := hs.amt
 have hl := hs.ino
 have key := Qqp (B := Pde.b0 k) d.2.2.1 (fun i a => (0, a, (i : Int), d)) (fun n x => n + (x.2.1.size : Int)) (fun a => .inl (0, a)) 0 (fun i hi => by
  have e1 : decide ((i : Int) < (d.2.2.1.length : Int)) = true := by simp; omega
  have e2 : inb? d.2.2.1.length (i : Int) = some i := by rw [Zi, Zn]
  have hb := Psy hi
  rw [Pkw]
  unfold Pde.b0
  dsimp only
  simp only [e1, Zy, e2, Zo, Zg hi]
  rw [Zw, Zw]
  rfl) (by
  have e1 : decide ((d.2.2.1.length : Int) < (d.2.2.1.length : Int)) = false := by simp
  unfold Pde.b0
  dsimp only
  rw [e1]; rfl) k (by omega)
 have e0 : ((0 : Nat) : Int) = 0 := rfl
 simp only [e0] at key
 try simp only [Prod.eta]
 rw [key]; rfl
theorem Pxk {k} (hk : Zk k) (d : DiskT) (hs : Small d) : Pcl.f k d = some (Pmw d.2.2.1) := by
 unfold Pcl.f
 have ha := hs.amt
 have hl := hs.ino
 have key := Qqp (B := Pcl.b0 k) d.2.2.1 (fun i a => (0, a, d.2.2.1, (d.2.2.1.length : Int), (i : Int))) (fun n x => n + (x.2.1.size : Int)) (fun a => .inl (0, a)) 0 (fun i hi => by
  have e1 : decide ((i : Int) < (d.2.2.1.length : Int)) = true := by simp; omega
  have e2 : inb? d.2.2.1.length (i : Int) = some i := by rw [Zi, Zn]
  have hb := Psy hi
  rw [Pkw]
  unfold Pcl.b0
  dsimp only
  simp only [e1, Zy, e2, Zo, Zg hi]
  rw [Zw, Zw]
  rfl) (by
  have e1 : decide ((d.2.2.1.length : Int) < (d.2.2.1.length : Int)) = false := by simp
  unfold Pcl.b0
  dsimp only
  rw [e1]; rfl) k (by omega)
 have e0 : ((0 : Nat) : Int) = 0 := rfl
 simp only [e0] at key
 rw [key]; rfl
def upI (l : List Pja) (i : Nat) : Bool := decide (i = 0) || match l[i - 1]?, l[i]? with | some y, some x => decide (y.1 < x.1) | _, _ => false
def upD (l : List LinkT) (i : Nat) : Bool := decide (i = 0) || match l[i - 1]?, l[i]? with | some y, some x => strLt y.1 x.1 | _, _ => false
def hasI (d : DiskT) (n : Int) : Bool := !decide (idxOf (fun x => decide (x.1 = n)) d.2.2.1 < 0)
def madeB (l : List MoveT) (n : Int) : Bool := l.any fun x => decide (x.1 = 1) && decide (x.2.2.2 = n)
def linkB (l : List LinkT) (n : Int) : Bool := l.any fun x => decide (x.2 = n)
def pI (d : DiskT) (i : Nat) : Bool := match d.2.2.1[i]? with
 | some x => rg x.1 1 (d.2.1 - 1) && (rg x.2.2 0 (x.2.1.size : Int) && upI d.2.2.1 i)
 | none => false
def pIS (d : DiskT) (i : Nat) : Bool := match d.2.2.1[i]? with
 | some x => rg x.1 1 (d.2.1 - 1) && (rg x.2.2 0 (x.2.1.size : Int) && (upI d.2.2.1 i && (linkB d.2.2.2.1 x.1 || madeB d.2.2.2.2 x.1)))
 | none => false
def pD (d : DiskT) (i : Nat) : Bool := match d.2.2.2.1[i]? with
 | some x => nameB x.1 && (upD d.2.2.2.1 i && (hasI d x.2 && !linkB (d.2.2.2.1.take i) x.2))
 | none => false
def Pel (dir : List LinkT) (ms : List MoveT) : List LinkT := ms.foldl (fun l m => (Pdu l m).1) dir
def Pjg (dir : List LinkT) (ms : List MoveT) : List LinkT := ms.foldl (fun l m => (Pjx l m).1) dir
def makes (ms : List MoveT) : List Int := (ms.filter fun m => decide (m.1 = 1)).map (·.2.2.2)
def pMS (d : DiskT) (i : Nat) : Bool := match d.2.2.2.2[i]? with
 | some m => (!decide (m.1 = 1) || (hasI d m.2.2.2 && (!linkB d.2.2.2.1 m.2.2.2 && !madeB (d.2.2.2.2.take i) m.2.2.2))) && (Pdu (Pel d.2.2.2.1 (d.2.2.2.2.take i)) m).2
 | none => false
def pMI (d : DiskT) (i : Nat) : Bool := match d.2.2.2.2[i]? with
 | some m => (Pjx (Pjg d.2.2.2.1 (d.2.2.2.2.take i)) m).2 && (nameB m.2.1 && (!decide (m.1 = 1) || (hasI d m.2.2.2 && !decide (m.2.2.2 ∈ d.2.2.2.1.map (·.2) ++ makes (d.2.2.2.2.take i)))))
 | none => false
def diskS (d : DiskT) : Bool :=
 rg d.1 0 1048576 && (rg d.2.1 1 1000000 && (decide ((d.2.2.1.length : Int) ≤ 10) && (decide ((d.2.2.2.2.length : Int) ≤ 20) && (decide ((d.2.2.2.1.length : Int) ≤ 10) && (decide (Pmw d.2.2.1 ≤ d.1) &&
  ((List.range d.2.2.1.length).all (pIS d) && ((List.range d.2.2.2.1.length).all (pD d) && (List.range d.2.2.2.2.length).all (pMS d))))))))
def diskI (d : DiskT) : Bool :=
 rg d.1 0 1048576 && (rg d.2.1 1 1000000 && (decide ((d.2.2.1.length : Int) ≤ 10) && (decide (Pmw d.2.2.1 ≤ d.1) && (decide ((d.2.2.2.2.length : Int) ≤ 20) &&
  ((List.range d.2.2.1.length).all (pI d) && ((List.range d.2.2.2.1.length).all (pD d) && ((List.range d.2.2.2.2.length).all (pMI d) && decide (((d.2.2.2.1.map (·.2) ++ makes d.2.2.2.2).length : Int) = (d.2.2.1.length : Int)))))))))
theorem Pkx : ∀ (ms : List MoveT) (l : List LinkT), (Pel l ms).length ≤ l.length + ms.length
 | [], l => by simp [Pel]
 | m :: ms, l => by
  have h := Pkx ms (Pdu l m).1
  have h2 : (Pdu l m).1.length ≤ l.length + 1 := by
   unfold Pdu withS
   have w1 := Pjf l m.2.1
   have w2 := Pjf (Pdo l m.2.1) m.2.2.1
   have w3 := Pjf l (m.2.1, m.2.2.2).1
   split
   ·simp
   ·split
    ·simp only [Pno]; omega
    ·split
     ·simp only [Pno]; omega
     ·split
      ·simp only; omega
      ·simp
  simp only [Pel, List.foldl_cons, Zl] at h ⊢
  omega
theorem Pmo : ∀ (ms : List MoveT) (l : List LinkT), (Pjg l ms).length ≤ l.length + ms.length
 | [], l => by simp [Pjg]
 | m :: ms, l => by
  have h := Pmo ms (Pjx l m).1
  have h2 : (Pjx l m).1.length ≤ l.length + 1 := by
   unfold Pjx linkI
   have w1 := List.length_filter_le (fun x : LinkT => !(decide (x.1 = m.2.1) || decide (x.1 = m.2.2.1))) l
   split
   ·simp only [Pno]; omega
   ·split
    ·simp only [Pno]; omega
    ·split
     ·simp only [List.length_append, List.length_take, List.length_drop]; omega
     ·simp
  simp only [Pjg, List.foldl_cons, Zl] at h ⊢
  omega
theorem Plk {dir : List LinkT} {ms : List MoveT} {i : Nat} (hi : i < ms.length) : Pel dir (ms.take (i + 1)) = (Pdu (Pel dir (ms.take i)) ms[i]).1 := by
 unfold Pel
 rw [List.take_add_one, Zg hi, Option.toList_some, List.foldl_append]; rfl
theorem Poe {dir : List LinkT} {ms : List MoveT} {i : Nat} (hi : i < ms.length) : Pjg dir (ms.take (i + 1)) = (Pjx (Pjg dir (ms.take i)) ms[i]).1 := by
 unfold Pjg
 rw [List.take_add_one, Zg hi, Option.toList_some, List.foldl_append]; rfl
theorem Ppq {ms : List MoveT} {i : Nat} (hi : i < ms.length) : makes (ms.take (i + 1)) = if ms[i].1 = 1 then makes (ms.take i) ++ [ms[i].2.2.2] else makes (ms.take i) := by
 unfold makes
 rw [List.take_add_one, Zg hi, Option.toList_some, List.filter_append, List.map_append]
 by_cases h : ms[i].1 = 1 <;> simp [h]
theorem Pye (ms : List MoveT) : (makes ms).length ≤ ms.length := by
 unfold makes; rw [List.length_map]; exact List.length_filter_le _ _
theorem Pbbc (a b : Int) : decide (a ≤ b) = !decide (b < a) := by
 by_cases h : b < a
 ·have : ¬ a ≤ b := by omega
  simp [h, this]
 ·have : a ≤ b := by omega
  simp [h, this]
theorem Pcp {n : Nat} {p : Nat → Bool} : (List.range n).all p = true ↔ ∀ i, i < n → p i = true := by
 rw [List.all_eq_true]
 exact ⟨fun h i hi => h i (List.mem_range.2 hi), fun h i hi => h i (List.mem_range.1 hi)⟩
theorem Pbag {k} (hk : Zk k) (d : DiskT) (hs : Small d) (hn : 1 ≤ d.2.1) (hn2 : d.2.1 ≤ 1000000) (i : Nat) (hi : i < d.2.2.1.length) :
  Pas.b0 k (false, (i : Int), d) = if pIS d i then some (.inl (false, ((i + 1 : Nat) : Int), d)) else some (.inr (.inr false)) := by
 have hl := hs.ino
 have e1 : decide ((i : Int) < (d.2.2.1.length : Int)) = true := by simp; omega
 have e2 : inb? d.2.2.1.length (i : Int) = some i := by rw [Zi, Zn]
 unfold Pas.b0 pIS
 dsimp only
 simp only [e1, Zy, e2, Zo, Zg hi, Pqg, Pms hk _ _ (show d.2.2.2.1.length ≤ 4194304 by have := hs.dir; omega), Pvi hk _ _ (show d.2.2.2.2.length ≤ 4194304 by have := hs.mov; omega), Prod.eta]
 simp (disch := omega) only [Zv]
 obtain ⟨x, hx⟩ : ∃ x, d.2.2.1[i] = x := ⟨_, rfl⟩
 have hx? : d.2.2.1[i]? = some x := by rw [Zg hi, hx]
 rw [hx]
 have eL : (d.2.2.2.1.any fun y => decide (y.2 = x.1)) = linkB d.2.2.2.1 x.1 := rfl
 have eM : (d.2.2.2.2.any fun y => decide (y.1 = 1) && decide (y.2.2.2 = x.1)) = madeB d.2.2.2.2 x.1 := rfl
 have eA : (decide (1 ≤ x.1) && decide (x.1 ≤ d.2.1 - 1)) = rg x.1 1 (d.2.1 - 1) := rfl
 have eB : (decide (0 ≤ x.2.2) && decide (x.2.2 ≤ (x.2.1.size : Int))) = rg x.2.2 0 (x.2.1.size : Int) := rfl
 rw [eL, eM, eA, eB]
 by_cases h0 : i = 0
 ·subst h0
  have e3 : decide (0 < ((0 : Nat) : Int)) = false := by simp
  have eu : upI d.2.2.1 0 = true := rfl
  rw [e3, eu]
  cases rg x.1 1 (d.2.1 - 1) <;> cases rg x.2.2 0 (x.2.1.size : Int) <;> cases linkB d.2.2.2.1 x.1 <;> cases madeB d.2.2.2.2 x.1 <;> rfl
 ·have e3 : decide (0 < (i : Int)) = true := by simp; omega
  have e4 : inb? d.2.2.1.length ((i : Int) - 1) = some (i - 1) := by
   rw [Zi]; congr 1; omega
  have hi1 : i - 1 < d.2.2.1.length := by omega
  obtain ⟨y, hy⟩ : ∃ y, d.2.2.1[i - 1] = y := ⟨_, rfl⟩
  have hy? : d.2.2.1[i - 1]? = some y := by rw [Zg hi1, hy]
  have eu : upI d.2.2.1 i = decide (y.1 < x.1) := by unfold upI; rw [hx?, hy?, Zf h0]; rfl
  rw [e3, eu]
  simp only [Zy, e4, Zo, hy?, Pbbc x.1 y.1]
  cases rg x.1 1 (d.2.1 - 1) <;> cases rg x.2.2 0 (x.2.1.size : Int) <;> cases linkB d.2.2.2.1 x.1 <;> cases madeB d.2.2.2.2 x.1 <;> cases decide (y.1 < x.1) <;> rfl
theorem Pzu {k} (hk : Zk k) (d : DiskT) (hs : Small d) (i : Nat) (hi : i < d.2.2.2.1.length) :
  Pas.b1 k (false, (i : Int), d) = if pD d i then some (.inl (false, ((i + 1 : Nat) : Int), d)) else some (.inr (.inr false)) := by
 have hl := hs.dir
 have e1 : decide ((i : Int) < (d.2.2.2.1.length : Int)) = true := by simp; omega
 have e2 : inb? d.2.2.2.1.length (i : Int) = some i := by rw [Zi, Zn]
 have e5 : cut? d.2.2.2.1.length 0 (i : Int) = some (0, i) := by rw [Zc]; simp
 have htl : ((d.2.2.2.1.take i).drop 0).length ≤ 4194304 := by simp; omega
 unfold Pas.b1 pD
 dsimp only
 simp only [e1, Zy, e2, Zo, Zg hi, Pqr hk _ (hs.dirN _ (List.getElem_mem hi)), Prod.eta, e5, Poo hk d _ hs.ino, Pms hk _ _ htl]
 simp (disch := omega) only [Zv]
 obtain ⟨x, hx⟩ : ∃ x, d.2.2.2.1[i] = x := ⟨_, rfl⟩
 have hx? : d.2.2.2.1[i]? = some x := by rw [Zg hi, hx]
 rw [hx]
 have eL : (((d.2.2.2.1.take i).drop 0).any fun y => decide (y.2 = x.2)) = linkB (d.2.2.2.1.take i) x.2 := rfl
 have eH : decide (idxOf (fun y => decide (y.1 = x.2)) d.2.2.1 < 0) = !hasI d x.2 := by unfold hasI; rw [Bool.not_not]
 rw [eL, eH]
 by_cases h0 : i = 0
 ·subst h0
  have e3 : decide (0 < ((0 : Nat) : Int)) = false := by simp
  have eu : upD d.2.2.2.1 0 = true := rfl
  rw [e3, eu]
  cases nameB x.1 <;> cases hasI d x.2 <;> cases linkB (d.2.2.2.1.take 0) x.2 <;> rfl
 ·have e3 : decide (0 < (i : Int)) = true := by simp; omega
  have e4 : inb? d.2.2.2.1.length ((i : Int) - 1) = some (i - 1) := by
   rw [Zi]; congr 1; omega
  have hi1 : i - 1 < d.2.2.2.1.length := by omega
  obtain ⟨y, hy⟩ : ∃ y, d.2.2.2.1[i - 1] = y := ⟨_, rfl⟩
  have hy? : d.2.2.2.1[i - 1]? = some y := by rw [Zg hi1, hy]
  have eu : upD d.2.2.2.1 i = strLt y.1 x.1 := by unfold upD; rw [hx?, hy?, Zf h0]; rfl
  rw [e3, eu]
  simp only [Zy, e4, Zo, hy?]
  cases nameB x.1 <;> cases hasI d x.2 <;> cases linkB (d.2.2.2.1.take i) x.2 <;> cases strLt y.1 x.1 <;> rfl
theorem Pbai {k} (hk : Zk k) (d : DiskT) (hs : Small d) (hd : d.2.2.2.1.length ≤ 10) (hm : d.2.2.2.2.length ≤ 20) (i : Nat) (hi : i < d.2.2.2.2.length) :
  Pas.b2 k (false, Pel d.2.2.2.1 (d.2.2.2.2.take i), (i : Int), d) = if pMS d i then some (.inl (false, Pel d.2.2.2.1 (d.2.2.2.2.take (i + 1)), ((i + 1 : Nat) : Int), d)) else some (.inr (.inr false)) := by
 have e1 : decide ((i : Int) < (d.2.2.2.2.length : Int)) = true := by simp; omega
 have e2 : inb? d.2.2.2.2.length (i : Int) = some i := by rw [Zi, Zn]
 have e5 : cut? d.2.2.2.2.length 0 (i : Int) = some (0, i) := by rw [Zc]; simp
 have htl : ((d.2.2.2.2.take i).drop 0).length ≤ 4194304 := by simp; omega
 have hll := Pkx (d.2.2.2.2.take i) d.2.2.2.1
 rw [List.length_take] at hll
 obtain ⟨n1, n2⟩ := hs.movN _ (List.getElem_mem hi)
 rw [Plk hi]
 obtain ⟨l, hl⟩ : ∃ l, Pel d.2.2.2.1 (d.2.2.2.2.take i) = l := ⟨_, rfl⟩
 unfold Pas.b2 pMS
 rw [hl] at hll ⊢
 obtain ⟨m, hm'⟩ : ∃ m, d.2.2.2.2[i] = m := ⟨_, rfl⟩
 have hm? : d.2.2.2.2[i]? = some m := by rw [Zg hi, hm']
 rw [hm'] at n1 n2 ⊢
 dsimp only
 simp only [e1, Zy, e2, Zo, hm?, Prod.eta, e5, Poo hk d _ hs.ino, Pms hk _ _ (show d.2.2.2.1.length ≤ 4194304 by have := hs.dir; omega), Pvi hk _ _ htl]
 have eL : (d.2.2.2.1.any fun y => decide (y.2 = m.2.2.2)) = linkB d.2.2.2.1 m.2.2.2 := rfl
 have eM : (((d.2.2.2.2.take i).drop 0).any fun y => decide (y.1 = 1) && decide (y.2.2.2 = m.2.2.2)) = madeB (d.2.2.2.2.take i) m.2.2.2 := rfl
 have eH : decide (idxOf (fun y => decide (y.1 = m.2.2.2)) d.2.2.1 < 0) = !hasI d m.2.2.2 := by unfold hasI; rw [Bool.not_not]
 rw [eL, eM, eH]
 have ec : Pas.c0 k (false, l, (i : Int), d, m) = if (Pdu l m).2 then some (.inl (false, (Pdu l m).1, ((i + 1 : Nat) : Int), d)) else some (.inr (.inr false)) := by
  unfold Pas.c0
  dsimp only
  simp only [Prod.eta, Psl hk l m (by omega) n1 n2, Zo]
  rw [Zw]
  cases (Pdu l m).2 <;> rfl
 cases decide (m.1 = 1) <;> cases linkB d.2.2.2.1 m.2.2.2 <;> cases madeB (d.2.2.2.2.take i) m.2.2.2 <;> cases hasI d m.2.2.2 <;> simp [ec]
theorem Pvj {k} (hk : Zk k) (d : DiskT) (hs : Small d) : Pas.f k d = some (diskS d) := by
 unfold Pas.f diskS
 simp only [Pqg, Zo, Prod.eta, Pyo hk d hs]
 refine Pjy fun h1 => Pjy fun h2 => Pnr fun h3 => Pnr fun h4 => Pnr fun h5 => Pnr fun h6 => ?_
 simp only [Zd, Zq] at h2
 have hl := hs.ino
 have key := Qqt (B := Pas.b0 k) d.2.2.1.length (fun i => (false, (i : Int), d)) (pIS d) (.inl (false, d)) (.inr false) (fun i hi _ => Pbag hk d hs h2.1 h2.2 i hi) (fun _ => by
  have e1 : decide ((d.2.2.1.length : Int) < (d.2.2.1.length : Int)) = false := by simp
  unfold Pas.b0
  dsimp only
  rw [e1]; rfl) k (by omega)
 have key1 := Qqt (B := Pas.b1 k) d.2.2.2.1.length (fun i => (false, (i : Int), d)) (pD d) (.inl (false, d)) (.inr false) (fun i hi _ => Pzu hk d hs i hi) (fun _ => by
  have e1 : decide ((d.2.2.2.1.length : Int) < (d.2.2.2.1.length : Int)) = false := by simp
  unfold Pas.b1
  dsimp only
  rw [e1]; rfl) k (by omega)
 have key2 := Qqt (B := Pas.b2 k) d.2.2.2.2.length (fun i => (false, Pel d.2.2.2.1 (d.2.2.2.2.take i), (i : Int), d)) (pMS d) (.inl false) (.inr false) (fun i hi _ => Pbai hk d hs (by omega) (by omega) i hi) (fun _ => by
  have e1 : decide ((d.2.2.2.2.length : Int) < (d.2.2.2.2.length : Int)) = false := by simp
  unfold Pas.b2
  dsimp only
  rw [e1]; rfl) k (by omega)
 have e0 : ((0 : Nat) : Int) = 0 := rfl
 simp only [e0, List.take_zero] at key key1 key2
 rw [key]
 cases (List.range d.2.2.1.length).all (pIS d) with
 | false => rfl
 | true =>
  simp only [if_true, Zo, Bool.true_and]
  unfold Pas.d0
  simp only [Prod.eta]
  rw [key1]
  cases (List.range d.2.2.2.1.length).all (pD d) with
  | false => rfl
  | true =>
   simp only [if_true, Zo, Bool.true_and]
   unfold Pas.d1
   dsimp only
   rw [Qrr (by unfold limOf; simp only [List.length_nil]; omega)]
   simp only [Zo, List.nil_append, Prod.eta]
   have e7 : Pel d.2.2.2.1 [] = d.2.2.2.1 := rfl
   rw [e7] at key2
   rw [key2]
   cases (List.range d.2.2.2.2.length).all (pMS d) <;> rfl
theorem Pxv {k} (hk : Zk k) (d : DiskT) (hs : Small d) (hn : 1 ≤ d.2.1) (hn2 : d.2.1 ≤ 1000000) (i : Nat) (hi : i < d.2.2.1.length) :
  Pcg.b0 k (false, d.2.2.1, (d.2.2.1.length : Int), (i : Int), d) = if pI d i then some (.inl (false, d.2.2.1, (d.2.2.1.length : Int), ((i + 1 : Nat) : Int), d)) else some (.inr (.inr false)) := by
 have hl := hs.ino
 have e1 : decide ((i : Int) < (d.2.2.1.length : Int)) = true := by simp; omega
 have e2 : inb? d.2.2.1.length (i : Int) = some i := by rw [Zi, Zn]
 unfold Pcg.b0 pI
 dsimp only
 simp only [e1, Zy, e2, Zo, Zg hi, Pcr, Prod.eta]
 simp (disch := omega) only [Zv]
 obtain ⟨x, hx⟩ : ∃ x, d.2.2.1[i] = x := ⟨_, rfl⟩
 have hx? : d.2.2.1[i]? = some x := by rw [Zg hi, hx]
 rw [hx]
 have eA : (decide (1 ≤ x.1) && decide (x.1 ≤ d.2.1 - 1)) = rg x.1 1 (d.2.1 - 1) := rfl
 have eB : (decide (0 ≤ x.2.2) && decide (x.2.2 ≤ (x.2.1.size : Int))) = rg x.2.2 0 (x.2.1.size : Int) := rfl
 rw [eA, eB]
 by_cases h0 : i = 0
 ·subst h0
  have e3 : decide (0 < ((0 : Nat) : Int)) = false := by simp
  have eu : upI d.2.2.1 0 = true := rfl
  rw [e3, eu]
  cases rg x.1 1 (d.2.1 - 1) <;> cases rg x.2.2 0 (x.2.1.size : Int) <;> rfl
 ·have e3 : decide (0 < (i : Int)) = true := by simp; omega
  have e4 : inb? d.2.2.1.length ((i : Int) - 1) = some (i - 1) := by
   rw [Zi]; congr 1; omega
  have hi1 : i - 1 < d.2.2.1.length := by omega
  obtain ⟨y, hy⟩ : ∃ y, d.2.2.1[i - 1] = y := ⟨_, rfl⟩
  have hy? : d.2.2.1[i - 1]? = some y := by rw [Zg hi1, hy]
  have eu : upI d.2.2.1 i = decide (y.1 < x.1) := by unfold upI; rw [hx?, hy?, Zf h0]; rfl
  rw [e3, eu]
  simp only [Zy, e4, Zo, hy?, Pbbc x.1 y.1]
  cases rg x.1 1 (d.2.1 - 1) <;> cases rg x.2.2 0 (x.2.1.size : Int) <;> cases decide (y.1 < x.1) <;> rfl
def idsD (d : DiskT) (i : Nat) : List Int := (d.2.2.2.1.take i).map (·.2)
theorem Pzx {d : DiskT} {i : Nat} {n : Int} : decide (n ∈ idsD d i) = linkB (d.2.2.2.1.take i) n := by
 unfold idsD linkB
 cases h : (d.2.2.2.1.take i).any fun x => decide (x.2 = n) with
 | true =>
  obtain ⟨x, hx, hp⟩ := List.any_eq_true.1 h
  rw [Zq, List.mem_map]
  exact ⟨x, hx, of_decide_eq_true hp⟩
 | false =>
  rw [decide_eq_false_iff_not, List.mem_map]
  rintro ⟨x, hx, rfl⟩
  rw [List.any_eq_true.2 ⟨x, hx, by simp⟩] at h; cases h
theorem Pxe {k} (hk : Zk k) (d : DiskT) (hs : Small d) (i : Nat) (hi : i < d.2.2.2.1.length) :
  Pam.b0 k (false, idsD d i, d.2.2.2.1, (d.2.2.2.1.length : Int), (i : Int), d) = if pD d i then some (.inl (false, idsD d (i + 1), d.2.2.2.1, (d.2.2.2.1.length : Int), ((i + 1 : Nat) : Int), d)) else some (.inr (.inr false)) := by
 have hl := hs.dir
 have e1 : decide ((i : Int) < (d.2.2.2.1.length : Int)) = true := by simp; omega
 have e2 : inb? d.2.2.2.1.length (i : Int) = some i := by rw [Zi, Zn]
 have hil : (idsD d i).length ≤ 1048576 := by unfold idsD; simp; omega
 have hsu : idsD d (i + 1) = idsD d i ++ [d.2.2.2.1[i].2] := by
  unfold idsD; rw [List.take_add_one, Zg hi, Option.toList_some, List.map_append]; rfl
 rw [hsu]
 unfold Pam.b0 pD Pam.c0
 dsimp only
 simp only [e1, Zy, e2, Zo, Zg hi, Pqf hk _ (hs.dirN _ (List.getElem_mem hi)), Prod.eta, Poc hk d _ hs.ino, Pmy hk (idsD d i) _ (show (idsD d i).length ≤ 4194304 by omega), Pzx]
 simp (disch := omega) only [Zv]
 obtain ⟨x, hx⟩ : ∃ x, d.2.2.2.1[i] = x := ⟨_, rfl⟩
 have hx? : d.2.2.2.1[i]? = some x := by rw [Zg hi, hx]
 rw [hx]
 have eH : decide (idxOf (fun y => decide (y.1 = x.2)) d.2.2.1 < 0) = !hasI d x.2 := by unfold hasI; rw [Bool.not_not]
 have ea : app? (limOf 8) (idsD d i) [x.2] = some (idsD d i ++ [x.2]) := Qrr (by unfold limOf; simp only [Zl, List.length_nil]; omega)
 rw [eH]
 by_cases h0 : i = 0
 ·subst h0
  have e3 : decide (0 < ((0 : Nat) : Int)) = false := by simp
  have eu : upD d.2.2.2.1 0 = true := rfl
  rw [e3, eu]
  cases nameB x.1 <;> cases hasI d x.2 <;> cases linkB (d.2.2.2.1.take 0) x.2 <;> simp [ea, show Zr 1 = 1 from rfl]
 ·have e3 : decide (0 < (i : Int)) = true := by simp; omega
  have ew : Zr ((i : Int) + 1) = i + 1 := Zw
  have e4 : inb? d.2.2.2.1.length ((i : Int) - 1) = some (i - 1) := by
   rw [Zi]; congr 1; omega
  have hi1 : i - 1 < d.2.2.2.1.length := by omega
  obtain ⟨y, hy⟩ : ∃ y, d.2.2.2.1[i - 1] = y := ⟨_, rfl⟩
  have hy? : d.2.2.2.1[i - 1]? = some y := by rw [Zg hi1, hy]
  have eu : upD d.2.2.2.1 i = strLt y.1 x.1 := by unfold upD; rw [hx?, hy?, Zf h0]; rfl
  rw [e3, eu]
  simp only [Zy, e4, Zo, hy?]
  cases nameB x.1 <;> cases hasI d x.2 <;> cases linkB (d.2.2.2.1.take i) x.2 <;> cases strLt y.1 x.1 <;> simp [ea, ew]
def idsM (d : DiskT) (i : Nat) : List Int := d.2.2.2.1.map (·.2) ++ makes (d.2.2.2.2.take i)
theorem Pyg {k} (hk : Zk k) (d : DiskT) (hs : Small d) (hm : d.2.2.2.2.length ≤ 20) (i : Nat) (hi : i < d.2.2.2.2.length) :
  Pam.b1 k (false, idsM d i, Pjg d.2.2.2.1 (d.2.2.2.2.take i), d.2.2.2.2, (d.2.2.2.2.length : Int), (i : Int), d) = if pMI d i then some (.inl (false, idsM d (i + 1), Pjg d.2.2.2.1 (d.2.2.2.2.take (i + 1)), d.2.2.2.2, (d.2.2.2.2.length : Int), ((i + 1 : Nat) : Int), d)) else some (.inr (.inr false)) := by
 have e1 : decide ((i : Int) < (d.2.2.2.2.length : Int)) = true := by simp; omega
 have e2 : inb? d.2.2.2.2.length (i : Int) = some i := by rw [Zi, Zn]
 have hll := Pmo (d.2.2.2.2.take i) d.2.2.2.1
 rw [List.length_take] at hll
 have hml := Pye (d.2.2.2.2.take i)
 rw [List.length_take] at hml
 have hdl := hs.dir
 have hil : (idsM d i).length ≤ 4194304 := by unfold idsM; simp only [List.length_append, List.length_map]; omega
 obtain ⟨n1, n2⟩ := hs.movN _ (List.getElem_mem hi)
 have hsu : idsM d (i + 1) = if d.2.2.2.2[i].1 = 1 then idsM d i ++ [d.2.2.2.2[i].2.2.2] else idsM d i := by
  unfold idsM; rw [Ppq hi]; split <;> simp
 have eI : (d.2.2.2.1.map (·.2) ++ makes (d.2.2.2.2.take i)) = idsM d i := rfl
 unfold Pam.b1 pMI
 rw [Poe hi, hsu]
 rw [eI]
 obtain ⟨l, hl⟩ : ∃ l, Pjg d.2.2.2.1 (d.2.2.2.2.take i) = l := ⟨_, rfl⟩
 rw [hl] at hll ⊢
 obtain ⟨m, hm'⟩ : ∃ m, d.2.2.2.2[i] = m := ⟨_, rfl⟩
 have hm? : d.2.2.2.2[i]? = some m := by rw [Zg hi, hm']
 rw [hm'] at n1 n2 ⊢
 dsimp only
 simp only [e1, Zy, e2, Zo, hm?, Prod.eta, Pro hk l m (by omega) n2, Pqf hk _ n1, Poc hk d _ hs.ino, Pmy hk (idsM d i) _ (show (idsM d i).length ≤ 4194304 by omega)]
 simp (disch := omega) only [Zv]
 have ea : app? (limOf 8) (idsM d i) [m.2.2.2] = some (idsM d i ++ [m.2.2.2]) := Qrr (by unfold limOf; simp only [Zl, List.length_nil]; omega)
 have eH : decide (idxOf (fun y => decide (y.1 = m.2.2.2)) d.2.2.1 < 0) = !hasI d m.2.2.2 := by unfold hasI; rw [Bool.not_not]
 rw [eH, ea]
 by_cases c : m.1 = 1 <;> cases (Pjx l m).2 <;> cases nameB m.2.1 <;> cases hasI d m.2.2.2 <;> cases decide (m.2.2.2 ∈ idsM d i) <;> simp [c]
theorem Pxm {k} (hk : Zk k) (d : DiskT) (hs : Small d) : Pcg.f k d = some (diskI d) := by
 unfold Pcg.f diskI
 simp only [Pcr, Zo, Prod.eta, Pxk hk d hs]
 refine Pjy fun h1 => Pjy fun h2 => Pnr fun h3 => Pnr fun h4 => Pnr fun h5 => ?_
 simp only [Zd, Zq] at h2
 have hl := hs.ino
 have hdl := hs.dir
 have key := Qqt (B := Pcg.b0 k) d.2.2.1.length (fun i => (false, d.2.2.1, (d.2.2.1.length : Int), (i : Int), d)) (pI d) (.inl (false, d)) (.inr false) (fun i hi _ => Pxv hk d hs h2.1 h2.2 i hi) (fun _ => by
  have e1 : decide ((d.2.2.1.length : Int) < (d.2.2.1.length : Int)) = false := by simp
  unfold Pcg.b0
  dsimp only
  rw [e1]; rfl) k (by omega)
 have key1 := Qqt (B := Pam.b0 k) d.2.2.2.1.length (fun i => (false, idsD d i, d.2.2.2.1, (d.2.2.2.1.length : Int), (i : Int), d)) (pD d) (.inl (false, idsM d 0, d)) (.inr false) (fun i hi _ => Pxe hk d hs i hi) (fun _ => by
  have e1 : decide ((d.2.2.2.1.length : Int) < (d.2.2.2.1.length : Int)) = false := by simp
  unfold Pam.b0
  dsimp only
  rw [e1]
  simp [idsD, idsM, makes]) k (by omega)
 have e0 : ((0 : Nat) : Int) = 0 := rfl
 simp only [e0] at key key1
 rw [key]
 cases (List.range d.2.2.1.length).all (pI d) with
 | false => rfl
 | true =>
  simp only [if_true, Zo, Bool.true_and]
  unfold Pcg.d0 Pam.f
  simp only [Prod.eta]
  have ei : idsD d 0 = [] := rfl
  rw [ei] at key1
  rw [key1]
  cases hD : (List.range d.2.2.2.1.length).all (pD d) with
  | false => rfl
  | true =>
   -- names that rise are few
   simp only [if_true, Zo, Bool.true_and]
   unfold Pam.d0 Pcx.f
   dsimp only
   rw [Qrr (by unfold limOf; simp only [List.length_nil]; omega)]
   simp only [Zo, List.nil_append, Prod.eta]
   ·have key2 := Qqt (B := Pam.b1 k) d.2.2.2.2.length (fun i => (false, idsM d i, Pjg d.2.2.2.1 (d.2.2.2.2.take i), d.2.2.2.2, (d.2.2.2.2.length : Int), (i : Int), d)) (pMI d) (.inl (false, idsM d d.2.2.2.2.length, d)) (.inr false) (fun i hi _ => Pyg hk d hs (by omega) i hi) (fun _ => by
     have e1 : decide ((d.2.2.2.2.length : Int) < (d.2.2.2.2.length : Int)) = false := by simp
     unfold Pam.b1
     dsimp only
     rw [e1]; rfl) k (by omega)
    simp only [e0, List.take_zero] at key2
    have e7 : Pjg d.2.2.2.1 [] = d.2.2.2.1 := rfl
    rw [e7] at key2
    rw [key2]
    cases (List.range d.2.2.2.2.length).all (pMI d) with
    | false => rfl
    | true =>
     simp only [if_true, Zo, Bool.true_and]
     unfold Pam.d1
     dsimp only
     unfold idsM
     rw [List.take_length]
     rfl
theorem Plo : ∀ (x y : List UInt8), Op.bytesLess x y = decide (x < y)
 | [], [] => by simp [Op.bytesLess]
 | _ :: _, [] => by simp [Op.bytesLess]
 | [], _ :: _ => by simp [Op.bytesLess]
 | a :: x, b :: y => by
  rw [Op.bytesLess, Plo x y]
  simp only [List.cons_lt_cons_iff]
  by_cases h1 : a < b <;> by_cases h2 : a = b <;> by_cases h3 : x < y <;> simp [h1, h2, h3]
theorem Pmb (a b : Zb) : strLt a b = decide (a.toList < b.toList) := by
 unfold strLt; exact Plo _ _
theorem Pyz (a : Zb) : strLt a a = false := by
 rw [Pmb]; simp [List.lt_irrefl]
theorem Pox {a b c : Zb} (h1 : strLt a b = true) (h2 : strLt b c = true) : strLt a c = true := by
 rw [Pmb, Zq] at *
 exact List.lt_trans h1 h2
theorem baInj {a b : Zb} (h : a.toList = b.toList) : a = b :=
 of_decide_eq_true (by rw [← Qcp]; simp [h])
theorem Psq {a b : Zb} (h : a ≠ b) : strLt a b = !strLt b a := by
 rw [Pmb, Pmb]
 by_cases c : a.toList < b.toList
 ·have : ¬ b.toList < a.toList := fun d => List.lt_irrefl _ (List.lt_trans c d)
  simp [c, this]
 ·by_cases c2 : b.toList < a.toList
  ·simp [c, c2]
  ·exact absurd (baInj (List.le_antisymm (List.not_lt.1 c2) (List.not_lt.1 c))) h
theorem Pls {α : Type} [DecidableEq α] : ∀ {a b : List α}, a.Nodup → (∀ x ∈ a, x ∈ b) → a.length ≤ b.length
 | [], b, _, _ => by simp
 | x :: a, b, hn, hs => by
  obtain ⟨h1, h2⟩ := List.nodup_cons.1 hn
  have := Pls (b := b.erase x) h2 fun y hy => (List.mem_erase_of_ne (fun (e : y = x) => h1 (e ▸ hy))).2 (hs y (by simp [hy]))
  have hx := hs x (by simp)
  rw [List.length_erase_of_mem hx] at this
  have := List.length_pos_of_mem hx
  simp only [Zl]
  omega
def Srt (l : List LinkT) : Prop := l.Pairwise fun x y => strLt x.1 y.1 = true
theorem Srt.ne {x y : LinkT} (h : strLt x.1 y.1 = true) : x.1 ≠ y.1 := fun e => by rw [e, Pyz] at h; cases h
theorem Pgd {l : List LinkT} {n : Zb} {y : LinkT} : y ∈ Pdo l n ↔ y ∈ l ∧ y.1 ≠ n := by
 unfold Pdo; simp [List.mem_filter]
theorem Pnk {l : List LinkT} {n : Zb} (h : ∀ y ∈ l, y.1 ≠ n) : Pdo l n = l := by
 unfold Pdo
 exact List.filter_eq_self.2 fun y hy => by simp [h y hy]
theorem Pwd {p q : LinkT → Bool} {x : LinkT} {l : List LinkT} (h : ∀ y ∈ l, p y = q y) : insM p x l = insM q x l := by
 unfold insM
 induction l with
 | nil => rfl
 | cons y l ih =>
  have hy := h y (by simp)
  simp only [List.takeWhile, List.dropWhile, hy]
  cases hq : q y with
  | true => simp
  | false =>
   have := ih fun z hz => h z (by simp [hz])
   simpa using this
theorem Plr {l : List LinkT} {x : LinkT} (h : ∀ y ∈ l, y.1 ≠ x.1) : insM (fun y => strLt x.1 y.1) x l = linkI l x := by
 unfold linkI
 exact Pwd fun y hy => Psq (fun e => h y hy e.symm)
theorem Pbah {p : LinkT → Bool} {x y : LinkT} {l : List LinkT} : y ∈ insM p x l ↔ y = x ∨ y ∈ l := by
 unfold insM
 have := List.takeWhile_append_dropWhile (p := fun y => !p y) (l := l)
 conv => rhs; rw [← this]
 simp only [List.mem_append, List.mem_cons]
 constructor
 ·rintro (h | h | h)
  ·exact .inr (.inl h)
  ·exact .inl h
  ·exact .inr (.inr h)
 ·rintro (h | h | h)
  ·exact .inr (.inl h)
  ·exact .inl h
  ·exact .inr (.inr h)
theorem Pod {l : List LinkT} {x : LinkT} (hs : Srt l) (h : ∀ y ∈ l, y.1 ≠ x.1) : Srt (linkI l x) := by
 unfold linkI insM Srt
 have e := List.takeWhile_append_dropWhile (p := fun y : LinkT => !(fun y : LinkT => !strLt y.1 x.1) y) (l := l)
 simp only [Bool.not_not] at e ⊢
 obtain ⟨A, hA⟩ : ∃ A, l.takeWhile (fun y : LinkT => strLt y.1 x.1) = A := ⟨_, rfl⟩
 obtain ⟨B, hB⟩ : ∃ B, l.dropWhile (fun y : LinkT => strLt y.1 x.1) = B := ⟨_, rfl⟩
 have hAx : ∀ a ∈ A, strLt a.1 x.1 = true := fun a ha => by
  rw [← hA] at ha
  exact List.all_eq_true.1 (List.all_takeWhile (l := l) (p := fun y : LinkT => strLt y.1 x.1)) a ha
 have hBh : ∀ b B', B = b :: B' → strLt b.1 x.1 = false := fun b B' hb => by
  have := List.head?_dropWhile_not (p := fun y : LinkT => strLt y.1 x.1) (l := l)
  rw [hB, hb] at this
  simpa using this
 rw [hA, hB] at e ⊢
 unfold Srt at hs
 rw [← e, List.pairwise_append] at hs
 obtain ⟨h1, h2, h3⟩ := hs
 have hBx : ∀ b ∈ B, strLt x.1 b.1 = true := fun b hb => by
  cases B with
  | nil => simp at hb
  | cons b0 B' =>
   have h0 := hBh b0 B' rfl
   have hx0 : strLt x.1 b0.1 = true := by
    rw [Psq (fun e' => h b0 (by rw [← e]; simp) e'.symm), h0]; rfl
   rcases List.mem_cons.1 hb with rfl | hb
   ·exact hx0
   ·exact Pox hx0 ((List.pairwise_cons.1 h2).1 b hb)
 refine List.pairwise_append.2 ⟨h1, List.pairwise_cons.2 ⟨hBx, h2⟩, fun a ha b hb => ?_⟩
 rcases List.mem_cons.1 hb with rfl | hb
 ·exact hAx a ha
 ·exact h3 a ha b hb
theorem Prc (l : List LinkT) (a b : Zb) : Pdo (Pdo l a) b = l.filter fun x => !(decide (x.1 = a) || decide (x.1 = b)) := by
 unfold Pdo
 rw [List.filter_filter]
 exact List.filter_congr fun x _ => by cases decide (x.1 = a) <;> cases decide (x.1 = b) <;> rfl
theorem Pbba {l : List LinkT} {n : Zb} : at? l n < 0 ↔ ∀ y ∈ l, y.1 ≠ n := by
 unfold at?
 rw [Qlb]
 exact ⟨fun h y hy => by simpa using h y hy, fun h y hy => by simpa using h y hy⟩
theorem Pzv {l : List LinkT} {n : Zb} (hs : Srt l) (h : 0 ≤ at? l n) : Pdo l n = l.take (at? l n).toNat ++ l.drop ((at? l n).toNat + 1) := by
 obtain ⟨i, hi, he, hp, hq⟩ := Qrg (p := fun x : LinkT => decide (x.1 = n)) (l := l) (by unfold at? at h; omega)
 have e : (at? l n).toNat = i := by unfold at?; rw [he]; simp
 rw [e]
 have hp : l[i].1 = n := of_decide_eq_true hp
 unfold Srt at hs
 have hl : l = l.take i ++ l[i] :: l.drop (i + 1) := by rw [← List.drop_eq_getElem_cons hi, List.take_append_drop]
 have hs' := hs
 rw [hl, List.pairwise_append] at hs'
 obtain ⟨h1, h2, h3⟩ := hs'
 conv => lhs; rw [hl]
 unfold Pdo
 rw [List.filter_append, List.filter_cons]
 simp only [hp, decide_true, Zx, Bool.false_eq_true, if_false]
 congr 1
 ·refine List.filter_eq_self.2 fun y hy => ?_
  have := Srt.ne (h3 y hy l[i] List.mem_cons_self)
  rw [hp] at this
  simp [this]
 ·refine List.filter_eq_self.2 fun y hy => ?_
  have := Srt.ne ((List.pairwise_cons.1 h2).1 y hy)
  rw [hp] at this
  simp [Ne.symm this]
theorem Ppg {l : List LinkT} {m : MoveT} (hs : Srt l) (hn : nameB m.2.1 = true) : Pjx l m = Pdu l m := by
 unfold Pjx Pdu
 rw [if_neg (show ¬ nameB m.2.1 = false by rw [hn]; simp)]
 by_cases c1 : m.1 = 1 ∧ m.2.2.1 = ⟨#[]⟩ ∧ at? l m.2.1 < 0
 ·rw [if_pos c1, if_pos c1]
  have hne := Pbba.1 c1.2.2
  unfold withS
  rw [Pnk hne, Plr hne]
 ·rw [if_neg c1, if_neg c1]
  by_cases c2 : m.1 = 2 ∧ m.2.2.2 = 0 ∧ 0 ≤ at? l m.2.1 ∧ m.2.2.1 ≠ m.2.1 ∧ nameB m.2.2.1 = true
  ·rw [if_pos c2, if_pos ⟨c2.1, c2.2.1, c2.2.2.1, c2.2.2.2.2, c2.2.2.2.1⟩]
   unfold withS
   rw [Prc, Plr]
   intro y hy
   have := (List.mem_filter.1 hy).2
   intro e
   simp only at e
   rw [e] at this; simp at this
  ·rw [if_neg c2, if_neg (show ¬ (m.1 = 2 ∧ m.2.2.2 = 0 ∧ 0 ≤ at? l m.2.1 ∧ nameB m.2.2.1 = true ∧ m.2.2.1 ≠ m.2.1) from fun c => c2 ⟨c.1, c.2.1, c.2.2.1, c.2.2.2.2, c.2.2.2.1⟩)]
   by_cases c3 : m.1 = 3 ∧ m.2.2.1 = ⟨#[]⟩ ∧ m.2.2.2 = 0 ∧ 0 ≤ at? l m.2.1
   ·rw [if_pos c3, if_pos ⟨c3.1, c3.2.2.1, c3.2.1, c3.2.2.2⟩, Pzv hs c3.2.2.2]
   ·rw [if_neg c3, if_neg (show ¬ (m.1 = 3 ∧ m.2.2.2 = 0 ∧ m.2.2.1 = ⟨#[]⟩ ∧ 0 ≤ at? l m.2.1) from fun c => c3 ⟨c.1, c.2.2.1, c.2.1, c.2.2.2⟩)]
theorem Pkh {l : List LinkT} {n : Zb} (hs : Srt l) : Srt (Pdo l n) := hs.filter _
theorem Pwy {l : List LinkT} {m : MoveT} (hs : Srt l) : Srt (Pdu l m).1 := by
 unfold Pdu
 split
 ·exact hs
 ·split
  ·unfold withS
   rw [Plr fun y hy => (Pgd.1 hy).2]
   exact Pod (Pkh hs) fun y hy => (Pgd.1 hy).2
  ·split
   ·unfold withS
    rw [Plr fun y hy => (Pgd.1 hy).2]
    exact Pod (Pkh (Pkh hs)) fun y hy => (Pgd.1 hy).2
   ·split
    ·exact Pkh hs
    ·exact hs
theorem Pmi {l : List LinkT} {m : MoveT} (h : (Pdu l m).2 = true) : nameB m.2.1 = true := by
 unfold Pdu at h
 split at h
 ·cases h
 ·rename_i hn; simpa using hn
theorem Pbck {l : List LinkT} (h : ∀ i, i < l.length → upD l i = true) : Srt l := by
 unfold Srt
 rw [List.pairwise_iff_getElem]
 have step : ∀ i, ∀ hi : i + 1 < l.length, strLt l[i].1 l[i + 1].1 = true := fun i hi => by
  have := h (i + 1) hi
  unfold upD at this
  rw [show i + 1 - 1 = i by omega, Zg hi, Zg (show i < l.length by omega)] at this
  simpa using this
 intro i j hi hj hij
 induction j with
 | zero => omega
 | succ j ih =>
  by_cases e : i = j
  ·subst e; exact step i hj
  ·exact Pox (ih (by omega) (by omega)) (step j hj)
theorem Ppx {n : Nat} {p q : Nat → Bool} (h : ∀ i, i < n → (∀ j, j < i → p j = true) → p i = q i) : (List.range n).all p = (List.range n).all q := by
 by_cases hp : ∀ i, i < n → p i = true
 ·have hq : ∀ i, i < n → q i = true := fun i hi => by rw [← h i hi fun j hj => hp j (by omega)]; exact hp i hi
  rw [Pcp.2 hp, Pcp.2 hq]
 ·have e1 : (List.range n).all p = false := by
   cases c : (List.range n).all p with
   | false => rfl
   | true => exact absurd (Pcp.1 c) hp
  rw [e1]
  cases c : (List.range n).all q with
  | false => rfl
  | true =>
   exfalso
   have hq := Pcp.1 c
   refine hp fun i => ?_
   induction i using Nat.strongRecOn with
   | _ i ih =>
    intro hi
    rw [h i hi fun j hj => ih j hj (by omega)]
    exact hq i hi
theorem Pky {d : DiskT} (hd : (List.range d.2.2.2.1.length).all (pD d) = true) : ∀ i, i ≤ d.2.2.2.2.length → (∀ j, j < i → pMS d j = true) → Pjg d.2.2.2.1 (d.2.2.2.2.take i) = Pel d.2.2.2.1 (d.2.2.2.2.take i) ∧ Srt (Pel d.2.2.2.1 (d.2.2.2.2.take i))
 | 0, _, _ => by
  refine ⟨by simp [Pjg, Pel], ?_⟩
  simp only [List.take_zero, Pel, List.foldl_nil]
  refine Pbck fun i hi => ?_
  have := Pcp.1 hd i hi
  unfold pD at this
  rw [Zg hi] at this
  simp only [Zd] at this
  exact this.2.1
 | i + 1, hi, hp => by
  obtain ⟨h1, h2⟩ := Pky hd i (by omega) fun j hj => hp j (by omega)
  have hm := hp i (by omega)
  unfold pMS at hm
  have hi' : i < d.2.2.2.2.length := by omega
  rw [Zg hi'] at hm
  simp only [Zd] at hm
  rw [Poe hi', Plk hi', h1]
  exact ⟨by rw [Ppg h2 (Pmi hm.2)], Pwy h2⟩
theorem Prx {ms : List MoveT} {n : Int} : decide (n ∈ makes ms) = madeB ms n := by
 unfold makes madeB
 cases h : ms.any fun x => decide (x.1 = 1) && decide (x.2.2.2 = n) with
 | true =>
  obtain ⟨x, hx, hp⟩ := List.any_eq_true.1 h
  simp only [Zd, Zq] at hp
  rw [Zq, List.mem_map]
  exact ⟨x, List.mem_filter.2 ⟨hx, by simp [hp.1]⟩, hp.2⟩
 | false =>
  rw [decide_eq_false_iff_not, List.mem_map]
  rintro ⟨x, hx, rfl⟩
  obtain ⟨h1, h2⟩ := List.mem_filter.1 hx
  rw [List.any_eq_true.2 ⟨x, h1, by simpa using h2⟩] at h; cases h
theorem Pqi {l : List LinkT} {n : Int} : decide (n ∈ l.map (·.2)) = linkB l n := by
 unfold linkB
 cases h : l.any fun x => decide (x.2 = n) with
 | true =>
  obtain ⟨x, hx, hp⟩ := List.any_eq_true.1 h
  rw [Zq, List.mem_map]
  exact ⟨x, hx, of_decide_eq_true hp⟩
 | false =>
  rw [decide_eq_false_iff_not, List.mem_map]
  rintro ⟨x, hx, rfl⟩
  rw [List.any_eq_true.2 ⟨x, hx, by simp⟩] at h; cases h
theorem Pqj {l : List LinkT} {ms : List MoveT} {n : Int} : decide (n ∈ l.map (·.2) ++ makes ms) = (linkB l n || madeB ms n) := by
 rw [← Pqi, ← Prx]
 by_cases h1 : n ∈ l.map (·.2) <;> by_cases h2 : n ∈ makes ms <;> simp [h1, h2]
theorem Pwg {d : DiskT} (hd : (List.range d.2.2.2.1.length).all (pD d) = true) : (List.range d.2.2.2.2.length).all (pMS d) = (List.range d.2.2.2.2.length).all (pMI d) := by
 refine Ppx fun i hi hp => ?_
 obtain ⟨h1, h2⟩ := Pky hd i (by omega) hp
 unfold pMS pMI
 rw [Zg hi]
 simp only
 obtain ⟨m, hm⟩ : ∃ m, d.2.2.2.2[i] = m := ⟨_, rfl⟩
 rw [hm, Pqj, h1]
 cases hn : nameB m.2.1 with
 | false =>
  have : (Pdu (Pel d.2.2.2.1 (d.2.2.2.2.take i)) m).2 = false := by unfold Pdu; rw [if_pos hn]
  rw [this]; simp
 | true =>
  rw [Ppg h2 hn]
  cases (Pdu (Pel d.2.2.2.1 (d.2.2.2.2.take i)) m).2 <;> cases decide (m.1 = 1) <;> cases hasI d m.2.2.2 <;> cases linkB d.2.2.2.1 m.2.2.2 <;> cases madeB (d.2.2.2.2.take i) m.2.2.2 <;> rfl
theorem Pqe {d : DiskT} {n : Int} : hasI d n = true ↔ n ∈ d.2.2.1.map (·.1) := by
 unfold hasI
 have := Qrm (fun x : Pja => decide (x.1 = n)) d.2.2.1
 rw [← this, List.any_eq_true, List.mem_map]
 exact ⟨fun ⟨x, hx, hp⟩ => ⟨x, hx, of_decide_eq_true hp⟩, fun ⟨x, hx, hp⟩ => ⟨x, hx, Zt hp⟩⟩
theorem Pxw {d : DiskT} (h : (List.range d.2.2.1.length).all (pI d) = true) : (d.2.2.1.map (·.1)).Nodup := by
 have step : ∀ i, ∀ hi : i + 1 < d.2.2.1.length, d.2.2.1[i].1 < d.2.2.1[i + 1].1 := fun i hi => by
  have := Pcp.1 h (i + 1) hi
  unfold pI upI at this
  rw [show i + 1 - 1 = i by omega, Zg hi, Zg (show i < d.2.2.1.length by omega)] at this
  simp only [Zd] at this
  simpa using this.2.2
 have lt : ∀ i j, ∀ hi : i < d.2.2.1.length, ∀ hj : j < d.2.2.1.length, i < j → d.2.2.1[i].1 < d.2.2.1[j].1 := by
  intro i j hi hj hij
  induction j with
  | zero => omega
  | succ j ih =>
   by_cases e : i = j
   ·subst e; exact step i hj
   ·exact Int.lt_trans (ih (by omega) (by omega)) (step j hj)
 rw [List.Nodup, List.pairwise_map, List.pairwise_iff_getElem]
 intro i j hi hj hij
 have := lt i j hi hj hij
 omega
theorem Pxj {d : DiskT} (hd : (List.range d.2.2.2.1.length).all (pD d) = true) (hm : (List.range d.2.2.2.2.length).all (pMI d) = true) :
  (d.2.2.2.1.map (·.2) ++ makes d.2.2.2.2).Nodup ∧ ∀ n ∈ d.2.2.2.1.map (·.2) ++ makes d.2.2.2.2, n ∈ d.2.2.1.map (·.1) := by
 have h1 : ∀ i, i ≤ d.2.2.2.1.length → ((d.2.2.2.1.take i).map (·.2)).Nodup ∧ ∀ n ∈ (d.2.2.2.1.take i).map (·.2), n ∈ d.2.2.1.map (·.1) := by
  intro i
  induction i with
  | zero => intro _; simp
  | succ i ih =>
   intro hi
   obtain ⟨i1, i2⟩ := ih (by omega)
   have hi' : i < d.2.2.2.1.length := by omega
   have := Pcp.1 hd i hi'
   unfold pD at this
   rw [Zg hi'] at this
   simp only [Zd, Bool.not_eq_true', ← Pqi, decide_eq_false_iff_not] at this
   obtain ⟨_, _, h3, h4⟩ := this
   rw [List.take_add_one, Zg hi', Option.toList_some, List.map_append]
   simp only [List.map_cons, List.map_nil]
   refine ⟨List.nodup_append.2 ⟨i1, by simp, fun a ha b hb => ?_⟩, fun n hn => ?_⟩
   ·simp only [List.mem_singleton] at hb
    subst hb
    exact fun e => h4 (e ▸ ha)
   ·rcases List.mem_append.1 hn with hn | hn
    ·exact i2 n hn
    ·simp only [List.mem_singleton] at hn
     subst hn
     exact Pqe.1 h3
 have h2 : ∀ i, i ≤ d.2.2.2.2.length → (d.2.2.2.1.map (·.2) ++ makes (d.2.2.2.2.take i)).Nodup ∧ ∀ n ∈ d.2.2.2.1.map (·.2) ++ makes (d.2.2.2.2.take i), n ∈ d.2.2.1.map (·.1) := by
  intro i
  induction i with
  | zero =>
   intro _
   have := h1 _ (Nat.le_refl _)
   rw [List.take_length] at this
   simpa [makes] using this
  | succ i ih =>
   intro hi
   obtain ⟨i1, i2⟩ := ih (by omega)
   have hi' : i < d.2.2.2.2.length := by omega
   rw [Ppq hi']
   split
   ·rename_i hk
    have := Pcp.1 hm i hi'
    unfold pMI at this
    rw [Zg hi'] at this
    simp only [Zd, Bool.or_eq_true, Bool.not_eq_true', decide_eq_false_iff_not] at this
    obtain ⟨_, _, h5⟩ := this
    obtain ⟨h3, h4⟩ := h5.resolve_left (fun c => c hk)
    rw [← List.append_assoc]
    refine ⟨List.nodup_append.2 ⟨i1, by simp, fun a ha b hb => ?_⟩, fun n hn => ?_⟩
    ·simp only [List.mem_singleton] at hb
     subst hb
     exact fun e => h4 (e ▸ ha)
    ·rcases List.mem_append.1 hn with hn | hn
     ·exact i2 n hn
     ·simp only [List.mem_singleton] at hn
      subst hn
      exact Pqe.1 h3
   ·exact ⟨i1, i2⟩
 have := h2 _ (Nat.le_refl _)
 rwa [List.take_length] at this
theorem Pvb {d : DiskT} {i : Nat} (hi : i < d.2.2.1.length) : pIS d i = (pI d i && (linkB d.2.2.2.1 d.2.2.1[i].1 || madeB d.2.2.2.2 d.2.2.1[i].1)) := by
 unfold pIS pI
 rw [Zg hi]
 simp only [Bool.and_assoc]
theorem Pnv (d : DiskT) : diskS d = diskI d := by
 unfold diskS diskI
 cases rg d.1 0 1048576 with
 | false => rfl
 | true =>
 cases rg d.2.1 1 1000000 with
 | false => rfl
 | true =>
 by_cases c1 : (d.2.2.1.length : Int) ≤ 10
 case neg => simp [c1]
 by_cases c2 : (d.2.2.2.2.length : Int) ≤ 20
 case neg => simp [c2]
 by_cases c3 : Pmw d.2.2.1 ≤ d.1
 case neg => simp [c3]
 simp only [c1, c2, c3, decide_true, Bool.true_and]
 cases hD : (List.range d.2.2.2.1.length).all (pD d) with
 | false => simp
 | true =>
 rw [Pwg hD]
 cases hM : (List.range d.2.2.2.2.length).all (pMI d) with
 | false => simp
 | true =>
 simp only [Bool.and_true, Bool.true_and]
 obtain ⟨n1, n2⟩ := Pxj hD hM
 cases hI : (List.range d.2.2.1.length).all (pI d) with
 | false =>
  have : (List.range d.2.2.1.length).all (pIS d) = false := by
   cases c : (List.range d.2.2.1.length).all (pIS d) with
   | false => rfl
   | true =>
    have : (List.range d.2.2.1.length).all (pI d) = true := Pcp.2 fun i hi => by
     have := Pcp.1 c i hi
     rw [Pvb hi, Zd] at this
     exact this.1
    rw [hI] at this; cases this
  rw [this]; simp
 | true =>
  have n3 := Pxw hI
  have hle := Pls n1 n2
  have hdir : (d.2.2.2.1.length : Int) ≤ 10 := by
   simp only [List.length_append, List.length_map] at hle
   omega
  rw [Zt hdir]
  simp only [Bool.true_and]
  by_cases hall : ∀ n ∈ d.2.2.1.map (·.1), n ∈ d.2.2.2.1.map (·.2) ++ makes d.2.2.2.2
  ·have hge := Pls n3 hall
   rw [List.length_map] at hge hle
   rw [Zt (by omega)]
   refine Pcp.2 fun i hi => ?_
   rw [Pvb hi, Pcp.1 hI i hi, Bool.true_and, ← Pqj, Zq]
   exact hall _ (List.mem_map.2 ⟨_, List.getElem_mem hi, rfl⟩)
  ·have hx : ∃ n ∈ d.2.2.1.map (·.1), n ∉ d.2.2.2.1.map (·.2) ++ makes d.2.2.2.2 := by
    apply Classical.byContradiction
    intro hc
    exact hall fun n hn => Classical.byContradiction fun h => hc ⟨n, hn, h⟩
   obtain ⟨n, hn, hnn⟩ := hx
   have hlt := Pls (a := n :: (d.2.2.2.1.map (·.2) ++ makes d.2.2.2.2)) (b := d.2.2.1.map (·.1)) (List.nodup_cons.2 ⟨hnn, n1⟩) (fun y hy => by
    rcases List.mem_cons.1 hy with rfl | hy
    ·exact hn
    ·exact n2 y hy)
   rw [Zl, List.length_map] at hlt
   rw [Zf (by omega)]
   cases c : (List.range d.2.2.1.length).all (pIS d) with
   | false => rfl
   | true =>
    exfalso
    obtain ⟨x, hx, rfl⟩ := List.mem_map.1 hn
    obtain ⟨i, hi, rfl⟩ := List.getElem_of_mem hx
    have := Pcp.1 c i hi
    rw [Pvb hi, Zd, ← Pqj, Zq] at this
    exact hnn this.2
end
section
structure Right (d : DiskT) : Prop where
 small : Small d
 ok : diskS d = true
theorem Right.parts {d : DiskT} (h : Right d) : 0 ≤ d.1 ∧ d.1 ≤ 1048576 ∧ 1 ≤ d.2.1 ∧ d.2.1 ≤ 1000000 ∧ d.2.2.1.length ≤ 10 ∧ d.2.2.2.2.length ≤ 20 ∧ d.2.2.2.1.length ≤ 10 ∧ Pmw d.2.2.1 ≤ d.1 ∧
  (List.range d.2.2.1.length).all (pIS d) = true ∧ (List.range d.2.2.2.1.length).all (pD d) = true ∧ (List.range d.2.2.2.2.length).all (pMS d) = true := by
 have := h.ok
 unfold diskS rg at this
 simp only [Zd, Zq] at this
 obtain ⟨h1, h2, h3, h4, h5, h6, h7, h8, h9⟩ := this
 exact ⟨h1.1, h1.2, h2.1, h2.2, by omega, by omega, by omega, h6, h7, h8, h9⟩
theorem Right.links {d : DiskT} (h : Right d) (n : Nat) : Pjg d.2.2.2.1 (d.2.2.2.2.take n) = Pel d.2.2.2.1 (d.2.2.2.2.take n) ∧ Srt (Pel d.2.2.2.1 (d.2.2.2.2.take n)) := by
 obtain ⟨_, _, _, _, _, _, _, _, _, h8, h9⟩ := h.parts
 by_cases hn : n ≤ d.2.2.2.2.length
 ·exact Pky h8 n hn fun j hj => Pcp.1 h9 j (by omega)
 ·rw [List.take_of_length_le (show d.2.2.2.2.length ≤ n by omega)]
  have := Pky h8 d.2.2.2.2.length (Nat.le_refl _) fun j hj => Pcp.1 h9 j hj
  rwa [List.take_length] at this
def Pki (d : DiskT) (n : Nat) : List LinkT := Pel d.2.2.2.1 (d.2.2.2.2.take n)
theorem Pwh (d : DiskT) (n : Nat) : (Pki d n).length ≤ d.2.2.2.1.length + d.2.2.2.2.length := by
 unfold Pki
 have := Pkx (d.2.2.2.2.take n) d.2.2.2.1
 rw [List.length_take] at this
 omega
theorem Poa (dir : List LinkT) (ms : List MoveT) : ms.foldl (fun l m => (Pdu l m).1) dir = Pel dir ms := rfl
theorem Prn (dir : List LinkT) (ms : List MoveT) : ms.foldl (fun l m => (Pjx l m).1) dir = Pjg dir ms := rfl
theorem Pyp {k} (hk : Zk k) {d : DiskT} (hs : Small d) (n : Int) : Pcv.f k d n = some (Pki d n.toNat) := by
 have hd := hs.dir
 have hm := hs.mov
 unfold Pcv.f
 rw [Qrr (by unfold limOf; simp only [List.length_nil]; omega)]
 simp only [Zo, List.nil_append, Prod.eta]
 obtain ⟨ms, hms⟩ : ∃ ms, d.2.2.2.2.take n.toNat = ms := ⟨_, rfl⟩
 have hl : ms.length = min n.toNat d.2.2.2.2.length := by rw [← hms, List.length_take]
 have hat : ∀ i (hi : i < ms.length), d.2.2.2.2[i]? = some ms[i] := fun i hi => by
  rw [← Zg hi, ← hms, List.getElem?_take, if_pos (by omega)]
 have key := Qqp (B := Pcv.b0 k) ms (fun i a => (n, [], a, (i : Int), d)) (fun l m => (Pdu l m).1) (fun a => .inl ([], a)) d.2.2.2.1 (fun i hi => by
  have e1 : decide ((i : Int) < n) = true := by simp; omega
  have e2 : decide ((i : Int) < (d.2.2.2.2.length : Int)) = true := by simp; omega
  have e3 : inb? d.2.2.2.2.length (i : Int) = some i := by rw [Zi, Zn]
  have hll := Pkx (ms.take i) d.2.2.2.1
  rw [List.length_take] at hll
  obtain ⟨n1, n2⟩ := hs.movN ms[i] (List.mem_of_getElem? (hat i hi))
  simp only [Poa]
  unfold Pcv.b0
  dsimp only
  simp only [e1, e2, Zy, e3, Zo, hat i hi, Prod.eta]
  rw [Psl hk _ _ (by omega) n1 n2]
  simp only [Zo]
  rw [Zw]
  rfl) (by
  unfold Pcv.b0
  dsimp only
  by_cases c : (ms.length : Int) < n
  ·have e1 : decide ((ms.length : Int) < n) = true := Zt c
   have e2 : decide ((ms.length : Int) < (d.2.2.2.2.length : Int)) = false := by simp; omega
   rw [e1, e2]; rfl
  ·have e1 : decide ((ms.length : Int) < n) = false := Zf c
   rw [e1]; rfl) k (by omega)
 have e0 : ((0 : Nat) : Int) = 0 := rfl
 simp only [e0] at key
 rw [key]
 simp only [Zo, Poa]
 rw [← hms]
 rfl
theorem Pxl {k} (hk : Zk k) {d : DiskT} (hr : Right d) (n : Int) (h0 : 0 ≤ n) (h1 : n ≤ d.2.2.2.2.length) : Pbz.f k d n = some (Pki d n.toNat) := by
 have hd := hr.small.dir
 have hm := hr.small.mov
 have hL := (hr.links n.toNat).1
 unfold Pbz.f Pcx.f
 rw [Qrr (by unfold limOf; simp only [List.length_nil]; omega)]
 simp only [Zo, List.nil_append]
 rw [Zc]
 simp only [Zo, Int.toNat_zero, List.drop_zero]
 unfold Pki
 rw [← hL]
 obtain ⟨ms, hms⟩ : ∃ ms, d.2.2.2.2.take n.toNat = ms := ⟨_, rfl⟩
 have hl : ms.length = min n.toNat d.2.2.2.2.length := by rw [← hms, List.length_take]
 rw [hms]
 have key := Qqp (B := Pbz.b0 k) ms (fun i a => ([], a, ms, (ms.length : Int), (i : Int))) (fun l m => (Pjx l m).1) (fun a => .inl ([], a)) d.2.2.2.1 (fun i hi => by
  have e1 : decide ((i : Int) < (ms.length : Int)) = true := by simp; omega
  have e3 : inb? ms.length (i : Int) = some i := by rw [Zi, Zn]
  have hll := Pmo (ms.take i) d.2.2.2.1
  rw [List.length_take] at hll
  obtain ⟨n1, n2⟩ := hr.small.movN ms[i] (List.mem_of_mem_take (by rw [hms]; exact List.getElem_mem hi))
  simp only [Prn]
  unfold Pbz.b0
  dsimp only
  simp only [e1, Zy, e3, Zo, Zg hi, Prod.eta]
  rw [Pro hk _ _ (by omega) n2]
  simp only [Zo]
  rw [Zw]
  rfl) (by
  have e1 : decide ((ms.length : Int) < (ms.length : Int)) = false := by simp
  unfold Pbz.b0
  dsimp only
  rw [e1]; rfl) k (by omega)
 have e0 : ((0 : Nat) : Int) = 0 := rfl
 simp only [e0] at key
 rw [key]
 rfl
def nowM (d : DiskT) : List LinkT := Pki d d.2.2.2.2.length
theorem Pbbx {k} (hk : Zk k) {d : DiskT} (hs : Small d) : Pcv.f k d (d.2.2.2.2.length : Int) = some (nowM d) := Pyp hk hs _
theorem Pbbt {k} (hk : Zk k) {d : DiskT} (hr : Right d) : Pgj.f k d = some (nowM d) := by
 unfold Pgj.f
 try simp only [Prod.eta]
 rw [Pxl hk hr _ (by omega) (by omega)]
 rfl
def fileM (d : DiskT) (n : Zb) : Int := bif decide (at? (nowM d) n < 0) then -1 else idxOf (fun x => decide (x.1 = idAt (nowM d) n)) d.2.2.1
theorem Pzw (d : DiskT) (n : Zb) : -1 ≤ fileM d n ∧ fileM d n < d.2.2.1.length := by
 unfold fileM
 have := Qrh (fun x : Pja => decide (x.1 = idAt (nowM d) n)) d.2.2.1
 cases decide (at? (nowM d) n < 0) with
 | true => simp only [Zy]; omega
 | false => simpa using this
theorem Puy {d : DiskT} (hs : Small d) : (nowM d).length ≤ 4194304 := by
 have := Pwh d d.2.2.2.2.length
 have := hs.dir
 have := hs.mov
 unfold nowM
 omega
theorem Pvh {k} (hk : Zk k) {d : DiskT} (hs : Small d) (n : Zb) : Piv.f k d n = some (fileM d n) := by
 unfold Piv.f fileM
 simp only [Prod.eta, Pbbx hk hs, Zo, Pbbi hk _ n (Puy hs)]
 have hat : idxOf (fun x => decide (x.1 = n)) (nowM d) = at? (nowM d) n := rfl
 rw [hat]
 by_cases c : at? (nowM d) n < 0
 ·rw [Zt c]; rfl
 ·obtain ⟨e1, x, e2, e3⟩ := Pnn (l := nowM d) (n := n) (by omega)
  rw [Zf c]
  simp only [Zz, e1, e2, Zo, Poo hk d _ hs.ino, e3]
theorem Pur {k} (hk : Zk k) {d : DiskT} (hr : Right d) (n : Zb) : Pdg.f k d n = some (fileM d n) := by
 unfold Pdg.f fileM
 simp only [Prod.eta, Pbbt hk hr, Zo, Pbbd hk _ n (Puy hr.small)]
 have hat : idxOf (fun x => decide (x.1 = n)) (nowM d) = at? (nowM d) n := rfl
 rw [hat]
 by_cases c : at? (nowM d) n < 0
 ·rw [Zt c]; rfl
 ·obtain ⟨e1, x, e2, e3⟩ := Pnn (l := nowM d) (n := n) (by omega)
  rw [Zf c]
  simp only [Zz, e1, e2, Zo, Poc hk d _ hr.small.ino, e3]
def Fits (d : DiskT) : Prop := d.2.2.1.length ≤ 4194304 ∧ d.2.2.2.1.length ≤ 4194304 ∧ d.2.2.2.2.length ≤ 4194304
theorem Small.fits {d : DiskT} (h : Small d) : Fits d := ⟨by have := h.ino; omega, by have := h.dir; omega, by have := h.mov; omega⟩
theorem Pvx (l : List Pja) : Pmw l = amtI l := by unfold Pmw; rw [Pkw]; simp
theorem Pzr {l : List Pja} {x : Pja} (h : x ∈ l) : x.2.1.size ≤ amtI l := by
 obtain ⟨i, hi, rfl⟩ := List.getElem_of_mem h
 have := Psy hi
 omega
theorem Pxh {d : DiskT} {n : Zb} (h : ¬ fileM d n < 0) : inb? d.2.2.1.length (fileM d n) = some (fileM d n).toNat ∧ ∃ x, d.2.2.1[(fileM d n).toNat]? = some x ∧ x ∈ d.2.2.1 := by
 obtain ⟨h1, h2⟩ := Pzw d n
 have hlt : (fileM d n).toNat < d.2.2.1.length := by omega
 exact ⟨Qqx (by omega) h2, _, Zg hlt, List.getElem_mem hlt⟩
theorem Pyd {k} (hk : Zk k) {d : DiskT} (hs : Small d) (n : Zb) : ∃ r, Pge.f k d n = some r ∧ Pjr.f k d n = some r ∧ r.1.size ≤ 1048576 := by
 unfold Pge.f Pjr.f
 simp only [Prod.eta, Pvj hk d hs, Pxm hk d hs, ← Pnv, Zo]
 cases hd : diskS d with
 | false => exact ⟨_, rfl, rfl, Nat.zero_le _⟩
 | true =>
  have hr : Right d := ⟨hs, hd⟩
  simp only [Zx, Zz, Pvh hk hs, Pur hk hr, Zo]
  by_cases c : fileM d n < 0
  ·rw [Zt c]; exact ⟨_, rfl, rfl, Nat.zero_le _⟩
  ·obtain ⟨e1, x, e2, e3⟩ := Pxh c
   rw [Zf c]
   simp only [Zz, e1, e2, Zo]
   exact ⟨_, rfl, rfl, by have := Pzr e3; have := hs.amt; simp only; omega⟩
def useM (d : DiskT) : List Int := d.2.2.2.1.map (·.2) ++ makes d.2.2.2.2
structure RP (d : DiskT) : Prop where
 room0 : 0 ≤ d.1
 room1 : d.1 ≤ 1048576
 n1 : 1 ≤ d.2.1
 n2 : d.2.1 ≤ 1000000
 ino : d.2.2.1.length ≤ 10
 mov : d.2.2.2.2.length ≤ 20
 amt : (amtI d.2.2.1 : Int) ≤ d.1
 asc : (d.2.2.1.map (·.1)).Pairwise (· < ·)
 inr : ∀ x ∈ d.2.2.1, 1 ≤ x.1 ∧ x.1 ≤ d.2.1 - 1 ∧ 0 ≤ x.2.2 ∧ x.2.2 ≤ x.2.1.size
 srt : Srt d.2.2.2.1
 dirB : ∀ x ∈ d.2.2.2.1, nameB x.1 = true
 used : (useM d).Nodup
 sub : ∀ n ∈ useM d, n ∈ d.2.2.1.map (·.1)
 sup : ∀ n ∈ d.2.2.1.map (·.1), n ∈ useM d
 ok : ∀ i (hi : i < d.2.2.2.2.length), (Pdu (Pel d.2.2.2.1 (d.2.2.2.2.take i)) d.2.2.2.2[i]).2 = true
theorem Pmp {s : Zb} (h : nameB s = true) : s.size ≤ 12 := by
 unfold nameB at h
 simp only [Zd, Zq] at h
 omega
theorem Pzs {l : List LinkT} {m : MoveT} (h : (Pdu l m).2 = true) : m.2.2.1.size ≤ 12 := by
 unfold Pdu at h
 split at h
 ·cases h
 ·split at h
  ·rename_i c; rw [c.2.1]; exact Nat.zero_le _
  ·split at h
   ·rename_i c; exact Pmp c.2.2.2.1
   ·split at h
    ·rename_i c; rw [c.2.2.1]; exact Nat.zero_le _
    ·cases h
theorem RP.dirL {d : DiskT} (h : RP d) : d.2.2.2.1.length ≤ 10 := by
 have := Pls h.used h.sub
 have := h.ino
 unfold useM at *
 simp only [List.length_append, List.length_map] at *
 omega
theorem RP.small {d : DiskT} (h : RP d) : Small d := by
 refine ⟨by have := h.ino; omega, by have := h.dirL; omega, by have := h.mov; omega, by have := h.amt; have := h.room1; omega, fun x hx => ?_, fun x hx => ?_⟩
 ·have := Pmp (h.dirB x hx); omega
 ·obtain ⟨i, hi, rfl⟩ := List.getElem_of_mem hx
  have h1 := Pmp (Pmi (h.ok i hi))
  have h2 := Pzs (h.ok i hi)
  omega
theorem Pkm (a b : List MoveT) : makes (a ++ b) = makes a ++ makes b := by
 unfold makes; rw [List.filter_append, List.map_append]
theorem RP.right {d : DiskT} (h : RP d) : Right d := by
 refine ⟨h.small, ?_⟩
 have hd := h.dirL
 unfold diskS rg
 simp only [Zd, Zq]
 refine ⟨⟨h.room0, h.room1⟩, ⟨h.n1, h.n2⟩, by have := h.ino; omega, by have := h.mov; omega, by omega, by rw [Pvx]; exact h.amt, Pcp.2 fun i hi => ?_, Pcp.2 fun i hi => ?_, Pcp.2 fun i hi => ?_⟩
 ·rw [Pvb hi, Zd]
  refine ⟨?_, ?_⟩
  ·unfold pI rg upI
   rw [Zg hi]
   obtain ⟨a, b, c, e⟩ := h.inr _ (List.getElem_mem hi)
   simp only [Zd, Zq]
   refine ⟨⟨a, b⟩, ⟨c, e⟩, ?_⟩
   by_cases i0 : i = 0
   ·simp [i0]
   ·have := h.asc
    rw [List.pairwise_map, List.pairwise_iff_getElem] at this
    have := this (i - 1) i (by omega) hi (by omega)
    rw [Zg (show i - 1 < d.2.2.1.length by omega)]
    simp [i0, this]
  ·rw [← Pqj, Zq]
   exact h.sup _ (List.mem_map.2 ⟨_, List.getElem_mem hi, rfl⟩)
 ·unfold pD upD
  rw [Zg hi]
  simp only [Zd, Bool.not_eq_true']
  refine ⟨h.dirB _ (List.getElem_mem hi), ?_, ?_, ?_⟩
  ·by_cases i0 : i = 0
   ·simp [i0]
   ·have := h.srt
    unfold Srt at this
    rw [List.pairwise_iff_getElem] at this
    have := this (i - 1) i (by omega) hi (by omega)
    rw [Zg (show i - 1 < d.2.2.2.1.length by omega)]
    simp [i0, this]
  ·exact Pqe.2 (h.sub _ (List.mem_append_left _ (List.mem_map.2 ⟨_, List.getElem_mem hi, rfl⟩)))
  ·rw [← Pqi, decide_eq_false_iff_not]
   intro hm
   have hu := (List.nodup_append.1 h.used).1
   rw [← List.take_append_drop i d.2.2.2.1, List.map_append, List.drop_eq_getElem_cons hi, List.map_cons] at hu
   exact (List.nodup_append.1 hu).2.2 _ hm _ List.mem_cons_self rfl
 ·unfold pMS
  rw [Zg hi]
  simp only [Zd]
  refine ⟨?_, h.ok i hi⟩
  by_cases c : d.2.2.2.2[i].1 = 1
  ·have hm : makes d.2.2.2.2 = makes (d.2.2.2.2.take i) ++ d.2.2.2.2[i].2.2.2 :: makes (d.2.2.2.2.drop (i + 1)) := by
    conv => lhs; rw [← List.take_append_drop i d.2.2.2.2, List.drop_eq_getElem_cons hi, Pkm]
    congr 1
    unfold makes
    rw [List.filter_cons, if_pos (by simp [c]), List.map_cons]
   have hu := h.used
   have hs := h.sub
   unfold useM at hu hs
   rw [hm] at hu hs
   obtain ⟨u1, u2, u3⟩ := List.nodup_append.1 hu
   obtain ⟨u4, u5, u6⟩ := List.nodup_append.1 u2
   have e1 : hasI d d.2.2.2.2[i].2.2.2 = true := Pqe.2 (hs _ (by simp))
   have e2 : linkB d.2.2.2.1 d.2.2.2.2[i].2.2.2 = false := by
    rw [← Pqi, decide_eq_false_iff_not]
    exact fun hx => u3 _ hx _ (by simp) rfl
   have e3 : madeB (d.2.2.2.2.take i) d.2.2.2.2[i].2.2.2 = false := by
    rw [← Prx, decide_eq_false_iff_not]
    exact fun hx => u6 _ hx _ List.mem_cons_self rfl
   rw [e1, e2, e3]; simp
  ·simp [c]
structure Named (l : List LinkT) (u : List Int) : Prop where
 srt : Srt l
 nm : ∀ x ∈ l, nameB x.1 = true ∧ x.2 ∈ u
 nd : (l.map (·.2)).Nodup
theorem Pxx (p : LinkT → Bool) (x : LinkT) (l : List LinkT) : (insM p x l).Perm (x :: l) := by
 unfold insM
 have := List.perm_middle (a := x) (l₁ := l.takeWhile fun y => !p y) (l₂ := l.dropWhile fun y => !p y)
 rwa [List.takeWhile_append_dropWhile] at this
theorem Named.mono {l : List LinkT} {u v : List Int} (h : Named l u) (hs : ∀ n ∈ u, n ∈ v) : Named l v := ⟨h.srt, fun x hx => ⟨(h.nm x hx).1, hs _ (h.nm x hx).2⟩, h.nd⟩
theorem Named.filter {l : List LinkT} {u : List Int} (h : Named l u) (p : LinkT → Bool) : Named (l.filter p) u := by
 refine ⟨h.srt.filter _, fun x hx => h.nm x (List.mem_filter.1 hx).1, ?_⟩
 exact List.Nodup.sublist (List.Sublist.map _ List.filter_sublist) h.nd
theorem Named.with {l : List LinkT} {u : List Int} (h : Named l u) {x : LinkT} (hx : nameB x.1 = true) (hu : x.2 ∈ u) (hn : x.2 ∉ (Pdo l x.1).map (·.2)) : Named (withS l x) u := by
 have hw := h.filter (fun y => !decide (y.1 = x.1))
 have hne : ∀ y ∈ Pdo l x.1, y.1 ≠ x.1 := fun y hy => (Pgd.1 hy).2
 unfold withS
 rw [Plr hne]
 refine ⟨Pod hw.srt hne, fun y hy => ?_, ?_⟩
 ·rcases Pbah.1 hy with rfl | hy
  ·exact ⟨hx, hu⟩
  ·exact hw.nm y hy
 ·rw [show linkI (Pdo l x.1) x = insM (fun y => !strLt y.1 x.1) x (Pdo l x.1) from rfl]
  refine ((Pxx _ _ _).map _).nodup_iff.2 ?_
  rw [List.map_cons]
  exact List.nodup_cons.2 ⟨hn, hw.nd⟩
theorem Puq {l : List LinkT} {n : Zb} (h : 0 ≤ at? l n) : (n, idAt l n) ∈ l := by
 obtain ⟨i, hi, he, hp, hq⟩ := Qrg (p := fun x : LinkT => decide (x.1 = n)) (l := l) (by unfold at? at h; omega)
 have e : (at? l n).toNat = i := by unfold at?; rw [he]; simp
 unfold idAt
 rw [e, Zg hi]
 have hp : l[i].1 = n := of_decide_eq_true hp
 rw [← hp]
 exact List.getElem_mem hi
theorem Pbch {l : List LinkT} (hn : (l.map (·.2)).Nodup) {x y : LinkT} (hx : x ∈ l) (hy : y ∈ l) (h : x.2 = y.2) : x = y := by
 obtain ⟨i, hi, rfl⟩ := List.getElem_of_mem hx
 obtain ⟨j, hj, rfl⟩ := List.getElem_of_mem hy
 rw [List.Nodup, List.pairwise_map, List.pairwise_iff_getElem] at hn
 rcases Nat.lt_trichotomy i j with c | c | c
 ·exact absurd h (hn i j hi hj c)
 ·subst c; rfl
 ·exact absurd h.symm (hn j i hj hi c)
theorem Named.apply {l : List LinkT} {u : List Int} {m : MoveT} (h : Named l u) (ho : (Pdu l m).2 = true) (hm : m.1 = 1 → m.2.2.2 ∉ u) : Named (Pdu l m).1 (u ++ makes [m]) := by
 have hn := Pmi ho
 unfold Pdu at ho ⊢
 rw [if_neg (by rw [hn]; simp)] at ho ⊢
 have e1 : m.1 = 1 → makes [m] = [m.2.2.2] := fun c => by simp [makes, c]
 split at ho
 ·rename_i c
  rw [if_pos c, e1 c.1]
  refine (h.mono (v := u ++ [m.2.2.2]) fun n hn => by simp [hn]).with hn (by simp) ?_
  rw [Pnk (Pbba.1 c.2.2)]
  intro hx
  obtain ⟨y, hy, e⟩ := List.mem_map.1 hx
  exact hm c.1 (e ▸ (h.nm y hy).2)
 ·rename_i c1
  rw [if_neg c1]
  split at ho
  ·rename_i c
   rw [if_pos c]
   have hi := Puq c.2.2.1
   refine ((h.filter fun y => !decide (y.1 = m.2.1)).mono (v := u ++ makes [m]) fun n hn => by simp [hn]).with c.2.2.2.1 (List.mem_append_left _ (h.nm _ hi).2) ?_
   intro hx
   obtain ⟨y, hy, e⟩ := List.mem_map.1 hx
   have hy := (Pgd.1 hy).1
   have := Pbch h.nd (Pgd.1 hy).1 hi e
   exact (Pgd.1 hy).2 (by rw [this])
  ·rename_i c2
   rw [if_neg c2]
   split at ho
   ·rename_i c
    rw [if_pos c]
    exact (h.filter _).mono fun n hn => by simp [hn]
   ·cases ho
theorem RP.named {d : DiskT} (h : RP d) : ∀ i, i ≤ d.2.2.2.2.length → Named (Pki d i) (d.2.2.2.1.map (·.2) ++ makes (d.2.2.2.2.take i))
 | 0, _ => by
  unfold Pki Pel
  refine ⟨h.srt, fun x hx => ⟨h.dirB x hx, List.mem_append_left _ (List.mem_map.2 ⟨x, hx, rfl⟩)⟩, (List.nodup_append.1 h.used).1⟩
 | i + 1, hi => by
  have ih := h.named i (by omega)
  have hi' : i < d.2.2.2.2.length := by omega
  have ht : d.2.2.2.2.take (i + 1) = d.2.2.2.2.take i ++ [d.2.2.2.2[i]] := by rw [List.take_add_one, Zg hi']; rfl
  have := ih.apply (m := d.2.2.2.2[i]) (h.ok i hi') (fun c hx => by
   have hu := h.used
   unfold useM at hu
   rw [← List.take_append_drop i d.2.2.2.2, List.drop_eq_getElem_cons hi', Pkm, ← List.append_assoc] at hu
   have := (List.nodup_append.1 hu).2.2 _ hx
   refine this d.2.2.2.2[i].2.2.2 ?_ rfl
   unfold makes
   rw [List.filter_cons, if_pos (by simp [c]), List.map_cons]
   exact List.mem_cons_self)
  unfold Pki at this ⊢
  rw [Plk hi', ht, Pkm, ← List.append_assoc]
  exact this
theorem RP.named' {d : DiskT} (h : RP d) (i : Nat) : Named (Pki d i) (useM d) := by
 by_cases c : i ≤ d.2.2.2.2.length
 ·refine (h.named i c).mono fun n hn => ?_
  unfold useM
  rcases List.mem_append.1 hn with hn | hn
  ·exact List.mem_append_left _ hn
  ·refine List.mem_append_right _ ?_
   rw [← List.take_append_drop i d.2.2.2.2, Pkm]
   exact List.mem_append_left _ hn
 ·have := h.named _ (Nat.le_refl _)
  unfold Pki at this ⊢
  rw [List.take_of_length_le (show d.2.2.2.2.length ≤ i by omega)]
  rwa [List.take_length] at this
theorem RP.file {d : DiskT} (h : RP d) {n : Zb} : fileM d n < 0 ↔ at? (nowM d) n < 0 := by
 unfold fileM
 by_cases c : at? (nowM d) n < 0
 ·rw [Zt c]; simp [c]
 ·rw [Zf c]
  simp only [Zz, c, iff_false]
  intro hx
  have hm := Puq (show 0 ≤ at? (nowM d) n by omega)
  have hi := h.sub _ ((h.named' d.2.2.2.2.length).nm _ hm).2
  obtain ⟨x, hx1, hx2⟩ := List.mem_map.1 hi
  have := Qlb.1 hx x hx1
  simp only [decide_eq_false_iff_not] at this
  exact this hx2
theorem Pwi {d : DiskT} : nowM d = Pel d.2.2.2.1 d.2.2.2.2 := by unfold nowM Pki; rw [List.take_length]
theorem Pzq (a b : List Pja) : amtI (a ++ b) = amtI a + amtI b := by unfold amtI; rw [List.map_append, List.sum_append]
theorem Pbci {dir : List LinkT} {ms : List MoveT} {m : MoveT} (h : ∀ i (hi : i < ms.length), (Pdu (Pel dir (ms.take i)) ms[i]).2 = true) (hm : (Pdu (Pel dir ms) m).2 = true) :
  ∀ i (hi : i < (ms ++ [m]).length), (Pdu (Pel dir ((ms ++ [m]).take i)) (ms ++ [m])[i]).2 = true := by
 intro i hi
 by_cases c : i < ms.length
 ·rw [List.take_append_of_le_length (by omega), List.getElem_append_left c]
  exact h i c
 ·have e : i = ms.length := by simp only [List.length_append, List.length_singleton] at hi; omega
  subst e
  rw [List.take_append_of_le_length (Nat.le_refl _), List.take_length]
  simpa using hm
theorem RP.made {d : DiskT} (h : RP d) {n : Zb} (hn : nameB n = true) (hf : fileM d n < 0) (hi : d.2.2.1.length < 10) (hm : d.2.2.2.2.length < 20) (hx : d.2.1 < 1000000) :
  RP (d.1, d.2.1 + 1, d.2.2.1 ++ [(d.2.1, ⟨#[]⟩, 0)], d.2.2.2.1, d.2.2.2.2 ++ [(1, n, ⟨#[]⟩, d.2.1)]) := by
 have hm1 : makes [((1, n, ⟨#[]⟩, d.2.1) : MoveT)] = [d.2.1] := by simp [makes]
 have hlt : ∀ n ∈ d.2.2.1.map (·.1), n < d.2.1 := fun n hn => by
  obtain ⟨x, hx1, rfl⟩ := List.mem_map.1 hn
  have := h.inr x hx1
  omega
 have hids : useM (d.1, d.2.1 + 1, d.2.2.1 ++ [(d.2.1, (⟨#[]⟩ : Zb), 0)], d.2.2.2.1, d.2.2.2.2 ++ [(1, n, ⟨#[]⟩, d.2.1)]) = useM d ++ [d.2.1] := by
  unfold useM
  simp only
  rw [Pkm, hm1, List.append_assoc]
 refine ⟨h.room0, h.room1, by have := h.n1; simp only; omega, by simp only; omega, by simp only [List.length_append, List.length_singleton]; omega, by simp only [List.length_append, List.length_singleton]; omega, ?_, ?_, ?_, h.srt, h.dirB, ?_, ?_, ?_, ?_⟩
 ·simp only [Pzq]
  have := h.amt
  have e : amtI [((d.2.1, ⟨#[]⟩, 0) : Pja)] = 0 := rfl
  omega
 ·simp only [List.map_append, List.map_cons, List.map_nil]
  rw [List.pairwise_append]
  refine ⟨h.asc, by simp, fun a ha b hb => ?_⟩
  simp only [List.mem_singleton] at hb
  subst hb
  exact hlt a ha
 ·intro x hx
  simp only [List.mem_append, List.mem_singleton] at hx
  rcases hx with hx | rfl
  ·obtain ⟨a, b, c, e⟩ := h.inr x hx
   exact ⟨a, by simp only; omega, c, e⟩
  ·have := h.n1
   exact ⟨by simp only; omega, by simp only; omega, by simp, by simp⟩
 ·rw [hids]
  refine List.nodup_append.2 ⟨h.used, by simp, fun a ha b hb => ?_⟩
  simp only [List.mem_singleton] at hb
  have := hlt a (h.sub a ha)
  omega
 ·rw [hids]
  intro a ha
  simp only [List.map_append, List.map_cons, List.map_nil]
  rcases List.mem_append.1 ha with ha | ha
  ·exact List.mem_append_left _ (h.sub a ha)
  ·exact List.mem_append_right _ ha
 ·rw [hids]
  intro a ha
  simp only [List.map_append, List.map_cons, List.map_nil] at ha
  rcases List.mem_append.1 ha with ha | ha
  ·exact List.mem_append_left _ (h.sup a ha)
  ·exact List.mem_append_right _ ha
 ·refine Pbci h.ok ?_
  change (Pdu (Pel d.2.2.2.1 d.2.2.2.2) _).2 = true
  rw [← Pwi]
  unfold Pdu
  simp only [hn]
  rw [if_neg (by simp), if_pos ⟨trivial, trivial, h.file.1 hf⟩]
theorem Pbbw {l : List Pja} {i : Nat} {y : Pja} (hi : i < l.length) (he : y.1 = l[i].1) : (l.set i y).map (·.1) = l.map (·.1) := by
 rw [List.map_set]
 refine List.ext_getElem (by simp) fun j hj hj' => ?_
 rw [List.getElem_set]
 split
 ·rename_i e; subst e; simpa using he
 ·rfl
theorem RP.set {d : DiskT} (h : RP d) {i : Nat} {y : Pja} (hi : i < d.2.2.1.length) (he : y.1 = d.2.2.1[i].1) (h0 : 0 ≤ y.2.2) (h1 : y.2.2 ≤ y.2.1.size) (ha : (amtI (d.2.2.1.set i y) : Int) ≤ d.1) :
  RP (d.1, d.2.1, d.2.2.1.set i y, d.2.2.2.1, d.2.2.2.2) := by
 have hs := Pbbw hi he
 refine ⟨h.room0, h.room1, h.n1, h.n2, by simp only [List.length_set]; exact h.ino, h.mov, ha, by simp only [hs]; exact h.asc, fun x hx => ?_, h.srt, h.dirB, h.used, fun n hn => by simp only [hs]; exact h.sub n hn, fun n hn => by simp only [hs] at hn; exact h.sup n hn, h.ok⟩
 simp only at hx
 rcases List.mem_or_eq_of_mem_set hx with hx | rfl
 ·exact h.inr x hx
 ·obtain ⟨a, b, _, _⟩ := h.inr _ (List.getElem_mem hi)
  exact ⟨by rw [he]; exact a, by rw [he]; exact b, h0, h1⟩
end
namespace V
theorem Pao (l : List Int) : (strOfNums l).size = l.length := by
 simp [strOfNums, ByteArray.size]
theorem l1 (k : Nat) (a b c : Int) : Paj.f k a b c = some (decide (b ≤ a) && decide (a ≤ c)) := by
 unfold Paj.f
 cases decide (b ≤ a) <;> rfl
theorem Pbaw {n : Int} (h0 : 0 ≤ n) (h1 : n ≤ 562949953421311) (a : Zb) (l : List Int) (k : Nat) : Par.b0 k (n, a, l) = Pbt.b0 k (n, a, l) := by
 unfold Par.b0 Pbt.b0
 dsimp only
 have e1 : decide (128 ≤ n) = decide (127 < n) := by by_cases h : 128 ≤ n <;> simp [h] <;> omega
 have e2 : Zr (128 + n.tmod 128) = bits .or .i64 (bits .and .i64 n 127) 128 := by
  rw [low7 h0 (by omega), Int.tmod_eq_emod_of_nonneg h0]
  exact Zw
 have e3 : Zr (n.tdiv 128) = n.fdiv (2 ^ (min (7 : Int).toNat (IntKind.bits .i64))) := by
  have : (2 ^ (min (7 : Int).toNat (IntKind.bits .i64)) : Int) = 128 := rfl
  rw [this, Int.tdiv_eq_ediv_of_nonneg h0, Int.fdiv_eq_ediv_of_nonneg n (by omega)]
  exact Zw
 rw [e1, e2, e3]
theorem Pkf {n : Int} (h0 : 0 ≤ n) (h1 : n ≤ 562949953421311) (a : Zb) (l : List Int) (k : Nat) :
  Par.b0 k (n, a, l) = if 128 ≤ n then (app? (limOf 1) l [IntKind.wrap .u8 (Zr (128 + n.tmod 128))]).bind (fun l1 => some (.inl (n / 128, a, l1))) else some (.inr (.inl (n, a, l))) := by
 unfold Par.b0
 dsimp only
 have e3 : Zr (n.tdiv 128) = n / 128 := by
  rw [Int.tdiv_eq_ediv_of_nonneg h0]
  exact Zw
 rw [e3]
 by_cases h : 128 ≤ n <;> simp [h]
theorem Pvt (k : Nat) (n : Int) : Pbt.f k n = Par.f k n := by
 unfold Par.f Pbt.f
 have e : Paa.f k n 0 562949953421311 = Paj.f k n 0 562949953421311 := rfl
 rw [e, l1]
 simp only [Zo]
 by_cases h : 0 ≤ n ∧ n ≤ 562949953421311
 ·have : (decide (0 ≤ n) && decide (n ≤ 562949953421311)) = true := by simp [h.1, h.2]
  rw [this]
  simp only [Zx, Zz]
  rw [← Qoq (B := Par.b0 k) (B' := Pbt.b0 k) (fun s => 0 ≤ s.1 ∧ s.1 ≤ 562949953421311) (fun s hs => ?_) k _ h]
  ·rfl
  ·obtain ⟨m, a, l⟩ := s
   refine ⟨Pbaw hs.1 hs.2 a l k, fun s' hs' => ?_⟩
   rw [Pkf hs.1 hs.2] at hs'
   split at hs'
   ·obtain ⟨l1, h1, h2⟩ := Option.bind_eq_some_iff.1 hs'
    simp only [Zj, Sum.inl.injEq] at h2
    subst h2
    dsimp only at hs ⊢
    omega
   ·simp at hs'
 ·have : (decide (0 ≤ n) && decide (n ≤ 562949953421311)) = false := by
   by_cases h1 : 0 ≤ n
   ·have : ¬ n ≤ 562949953421311 := fun h2 => h ⟨h1, h2⟩
    simp [this]
   ·simp [h1]
  rw [this]
  rfl
theorem Piz {k} (hk : Zk k) (n : Int) : ∃ s, Par.f k n = some s ∧ s.size ≤ 17592186044416 := by
 unfold Par.f
 rw [l1]
 simp only [Zo]
 by_cases h : 0 ≤ n ∧ n ≤ 562949953421311
 ·have : (decide (0 ≤ n) && decide (n ≤ 562949953421311)) = true := by simp [h.1, h.2]
  rw [this]
  simp only [Zx, Zz]
  obtain ⟨x, hx, hq⟩ := Qor (B := Par.b0 k) (fun s => 0 ≤ s.1 ∧ s.1 ≤ 562949953421311 ∧ 64 * s.2.2.length + s.1.toNat ≤ 562949953421311) (fun s => s.1.toNat)
   (fun x => ∃ y, x = .inl y ∧ 64 * y.2.2.length ≤ 562949953421311) (fun s hs => by
    obtain ⟨m, a, l⟩ := s
    dsimp only at hs ⊢
    rw [Pkf hs.1 hs.2.1]
    by_cases h : 128 ≤ m
    ·rw [if_pos h]
     rw [Qrr (by simp only [Zl, List.length_nil]; unfold limOf; omega)]
     refine .inl ⟨_, rfl, ?_, ?_⟩
     ·dsimp only
      rw [List.length_append]
      simp only [Zl, List.length_nil]
      omega
     ·dsimp only; omega
    ·rw [if_neg h]
     exact .inr ⟨_, rfl, _, rfl, by dsimp only; omega⟩) k (n, ⟨#[]⟩, []) ⟨h.1, h.2, by simp; omega⟩ (by dsimp only; omega)
  obtain ⟨y, rfl, hy⟩ := hq
  rw [hx]
  simp only [Zo]
  unfold Par.d0
  rw [Qrr (by simp only [Zl, List.length_nil]; unfold limOf; omega)]
  refine ⟨_, rfl, ?_⟩
  rw [Pao, List.length_append]
  simp only [Zl, List.length_nil]
  omega
 ·have : (decide (0 ≤ n) && decide (n ≤ 562949953421311)) = false := by
   by_cases h1 : 0 ≤ n
   ·have : ¬ n ≤ 562949953421311 := fun h2 => h ⟨h1, h2⟩
    simp [this]
   ·simp [h1]
  rw [this]
  exact ⟨_, rfl, by decide⟩
theorem Pmf : Pbt.f = Par.f := by funext k n; exact Pvt k n
theorem Pxg {α : Type} {c : Bool} {x y : Option α} {Q : α → Prop} (h : ∃ b, x = some b ∧ Q b) (h' : ∃ b, y = some b ∧ Q b) : ∃ b, (bif c then x else y) = some b ∧ Q b := by
 cases c
 ·exact h'
 ·exact h
theorem Pjq {α β : Type} {x : Option α} {f : α → Option β} {P : α → Prop} {Q : β → Prop} (h : ∃ a, x = some a ∧ P a) (hf : ∀ a, P a → ∃ b, f a = some b ∧ Q b) : ∃ b, x.bind f = some b ∧ Q b := by
 obtain ⟨a, rfl, ha⟩ := h
 exact hf a ha
theorem Prm {a b : Zb} {m n : Nat} (h1 : a.size ≤ m) (h2 : b.size ≤ n) (h : m + n ≤ 9223372036854775807) : ∃ s, cat? a b = some s ∧ s.size ≤ m + n :=
 ⟨_, Za, by rw [Zs]; omega⟩
theorem Prd (k : Nat) (a : Int × Int × Int × Zb × U0) : ∃ b, Pcz.f k a = some b ∧ True := by
 unfold Pcz.f
 simp only [l1, Zo]
 repeat' (first | exact ⟨_, rfl, trivial⟩ | apply Pxg)
theorem Pkq : Pdl.f = Pcj.f := by
 funext k a
 unfold Pdl.f Pcj.f
 rw [Pmf]
 rfl
theorem Pon {k} (hk : Zk k) (a : Int × Int × Int × Zb × U0) (hs : a.2.2.2.1.size ≤ 1048576) : ∃ s, Pcj.f k a = some s ∧ s.size ≤ 17592186044416 + 17592186044416 + 17592186044416 + 17592186044416 + 17592186044416 + 1048576 := by
 unfold Pcj.f
 refine Pjq (Prd k _) fun r1 _ => Pxg ⟨_, rfl, by decide⟩ ?_
 refine Pjq (Piz hk _) fun r2 h2 => Pjq (Piz hk _) fun r3 h3 => Pjq (Prm h2 h3 (by omega)) fun s4 h4 => Pjq (Piz hk _) fun r5 h5 => Pjq (Prm h4 h5 (by omega)) fun s6 h6 =>
  Pjq (Piz hk _) fun r7 h7 => Pjq (Prm h6 h7 (by omega)) fun s8 h8 => Pjq (Piz hk _) fun r9 h9 => Pjq (Prm h8 h9 (by omega)) fun s10 h10 => Pjq (Prm h10 hs (by omega)) fun s11 h11 => ⟨_, rfl, h11⟩
theorem l2 (k : Nat) (a b c : Int) : Paa.f k a b c = some (decide (b ≤ a) && decide (a ≤ c)) := l1 k a b c
def rg (a b c : Int) : Bool := decide (b ≤ a) && decide (a ≤ c)
theorem Pid {s : Zb} {i : Nat} (h : i < s.size) : Qmy s i = ((s[i]'h).toNat : Int) := by unfold Qmy; rw [dif_pos h]
theorem Pdh (s : Zb) (i : Nat) : 0 ≤ Qmy s i := by unfold Qmy; split <;> omega
theorem Pdp (s : Zb) (i : Nat) : Qmy s i ≤ 255 := by
 unfold Qmy; split
 ·have := (s[i]).toNat_lt; omega
 ·omega
theorem Pbb (s : Zb) {a b : Nat} (h : b ≤ s.size) : (s.extract a b).size = b - a := by
 rw [ByteArray.size_extract]; omega
theorem Pck (s : Zb) {a b i : Nat} (h : b ≤ s.size) (hi : a + i < b) : Qmy (s.extract a b) i = Qmy s (a + i) := by
 have h1 : i < (s.extract a b).size := by rw [Pbb s h]; omega
 rw [Pid h1, Pid (show a + i < s.size by omega), ByteArray.getElem_extract]
theorem Pks {a b : Zb} (h : a.size = b.size) (h2 : ∀ i, i < a.size → Qmy a i = Qmy b i) : a = b := by
 apply ByteArray.ext_getElem h
 intro i h3 h4
 have := h2 i h3
 rw [Pid h3, Pid h4] at this
 apply UInt8.toNat_inj.1
 omega
theorem Ped {l : List Int} {i : Nat} (h : i < l.length) (h0 : 0 ≤ l[i]) (h1 : l[i] ≤ 255) : Qmy (strOfNums l) i = l[i] := by
 have hs : i < (strOfNums l).size := by rw [Pao]; exact h
 rw [Pid hs]
 show ((((l.map fun n => UInt8.ofNat n.toNat).toArray[i]'(by simpa using h)).toNat : Int)) = _
 simp
 omega
def pw (i : Nat) : Int := 128 ^ i
theorem pw0 : pw 0 = 1 := rfl
theorem pw1 (i : Nat) : pw (i + 1) = pw i * 128 := by unfold pw; rw [Int.pow_succ]
theorem Ppr (i : Nat) : 1 ≤ pw i := by
 induction i with
 | zero => rw [pw0]; omega
 | succ i ih => rw [pw1]; omega
theorem pw7 : pw 7 = 562949953421312 := rfl
def val (s : Zb) : Nat → Int
 | 0 => 0
 | i + 1 => val s i + (Qmy s i % 128) * pw i
theorem Pvr (s : Zb) : ∀ i, 0 ≤ val s i ∧ val s i < pw i
 | 0 => by simp [val, pw0]
 | i + 1 => by
  have ⟨h1, h2⟩ := Pvr s i
  have h3 := Pdh s i
  have h4 := Ppr i
  have h5 : 0 ≤ Qmy s i % 128 := Int.emod_nonneg _ (by omega)
  have h6 : Qmy s i % 128 ≤ 127 := by omega
  have h7 : Qmy s i % 128 * pw i ≤ 127 * pw i := Int.mul_le_mul_of_nonneg_right h6 (by omega)
  have h8 : 0 ≤ Qmy s i % 128 * pw i := Int.mul_nonneg h5 (by omega)
  rw [pw1]
  show 0 ≤ val s i + _ ∧ val s i + _ < _
  omega
theorem Pyl {i j : Nat} (h : i ≤ j) : pw i ≤ pw j := by
 obtain ⟨d, rfl⟩ := Nat.le.dest h
 clear h
 induction d with
 | zero => exact Int.le_refl _
 | succ d ih => have := Ppr (i + d); rw [← Nat.add_assoc, pw1]; omega
theorem val7 (s : Zb) {i : Nat} (h : i ≤ 7) : 0 ≤ val s i ∧ val s i ≤ 562949953421311 := by
 have h1 := Pvr s i
 have h2 := Pyl h
 rw [pw7] at h2
 omega
theorem Pzn {k} (hk : Zk k) {n : Int} (h0 : 0 ≤ n) (h1 : n ≤ 562949953421311) : ∃ l m, Par.f k n = some (strOfNums (l ++ [m])) ∧ (∀ x ∈ l, 128 ≤ x ∧ x ≤ 255) ∧ 0 ≤ m ∧ m < 128 := by
 unfold Par.f
 rw [l1]
 have : (decide (0 ≤ n) && decide (n ≤ 562949953421311)) = true := by simp [h0, h1]
 simp only [Zo, this, Zx, Zz]
 obtain ⟨x, hx, hq⟩ := Qor (B := Par.b0 k) (fun s => 0 ≤ s.1 ∧ s.1 ≤ 562949953421311 ∧ (64 * s.2.2.length + s.1.toNat ≤ 562949953421311) ∧ ∀ x ∈ s.2.2, 128 ≤ x ∧ x ≤ 255) (fun s => s.1.toNat)
   (fun x => ∃ y, x = .inl y ∧ 64 * y.2.2.length ≤ 562949953421311 ∧ (∀ x ∈ y.2.2, 128 ≤ x ∧ x ≤ 255) ∧ 0 ≤ y.1 ∧ y.1 < 128) (fun s hs => by
    obtain ⟨m, a, l⟩ := s
    dsimp only at hs ⊢
    rw [Pkf hs.1 hs.2.1]
    by_cases h : 128 ≤ m
    ·rw [if_pos h]
     rw [Qrr (by simp only [Zl, List.length_nil]; unfold limOf; omega)]
     refine .inl ⟨_, rfl, ?_, ?_⟩
     ·dsimp only
      rw [List.length_append]
      simp only [Zl, List.length_nil]
      refine ⟨by omega, by omega, by omega, fun x hx => ?_⟩
      rcases List.mem_append.1 hx with hx | hx
      ·exact hs.2.2.2 x hx
      ·rw [List.mem_singleton] at hx
       have e : m.tmod 128 = m % 128 := Int.tmod_eq_emod_of_nonneg hs.1
       rw [hx, e, Zw, Qrq (by omega) (by omega)]
       omega
     ·dsimp only; omega
    ·rw [if_neg h]
     exact .inr ⟨_, rfl, _, rfl, by dsimp only; omega, hs.2.2.2, hs.1, by dsimp only; omega⟩) k (n, ⟨#[]⟩, []) ⟨h0, h1, by simp; omega, by simp⟩ (by dsimp only; omega)
 obtain ⟨y, rfl, hy, hl, h2, h3⟩ := hq
 rw [hx]
 simp only [Zo]
 unfold Par.d0
 rw [Qrr (by simp only [Zl, List.length_nil]; unfold limOf; omega)]
 refine ⟨y.2.2, y.1, ?_, hl, h2, h3⟩
 rw [Qrq h2 (by omega)]
 rfl
theorem Poz {k} (hk : Zk k) {n : Int} (h0 : 0 ≤ n) (h1 : n ≤ 562949953421311) : ∃ v, Par.f k n = some v ∧ 0 < v.size ∧ (∀ i, i + 1 < v.size → 128 ≤ Qmy v i) ∧ Qmy v (v.size - 1) < 128 := by
 obtain ⟨l, m, h, hl, hm, hm2⟩ := Pzn hk h0 h1
 refine ⟨_, h, ?_, ?_, ?_⟩
 ·rw [Pao]; simp
 ·intro i hi
  rw [Pao] at hi
  simp only [List.length_append, Zl, List.length_nil] at hi
  have hi2 : i < l.length := by omega
  have e : (l ++ [m])[i]'(by simp; omega) = l[i] := List.getElem_append_left hi2
  have := hl l[i] (List.getElem_mem hi2)
  rw [Ped (l := l ++ [m]) (by simp; omega) (by rw [e]; omega) (by rw [e]; omega), e]
  omega
 ·rw [Pao]
  simp only [List.length_append, Zl, List.length_nil]
  have e : (l ++ [m])[l.length + 1 - 1]'(by simp) = m := by simp
  show Qmy _ (l.length + 1 - 1) < 128
  rw [Ped (l := l ++ [m]) (by simp) (by rw [e]; omega) (by rw [e]; omega), e]
  omega
theorem Pav {S X : Type} {B : S → Option (S ⊕ X)} {k : Nat} {s s' : S} (h : B s = some (.inl s')) : iter B (k + 1) s = iter B k s' := by simp [iter, h]
theorem Pbc {S X : Type} {B : S → Option (S ⊕ X)} {k : Nat} {s : S} {x : X} (h : B s = some (.inr x)) : iter B (k + 1) s = some x := by simp [iter, h]
theorem Pbcl {a v V : Int} {m : Nat} (h0 : 0 ≤ a) (hv : 0 ≤ v) (h : a * pw m + v = V) : a ≤ V := by
 have h1 := Ppr m
 have h2 : a * 1 ≤ a * pw m := Int.mul_le_mul_of_nonneg_left h1 h0
 omega
theorem Pps (k : Nat) (s : Zb) (x y : Int) (j : Int) (V : Int) (hV : V ≤ 562949953421311) : ∀ (i : Nat) (kk : Nat) (n : Int), i < kk → i ≤ 7 → (i ≤ s.size) → 0 ≤ n → n * pw i + val s i = V →
  iter (X := (Zb × Int × Int × U0) ⊕ U0) (Paq.b1 k) kk (s, x, y, j, n, (i : Int) - 1) = some (.inl (s, x, y, j, V))
 | 0, kk, n, hk, _, _, h0, h => by
  obtain ⟨kk, rfl⟩ : ∃ m, kk = m + 1 := ⟨kk - 1, by omega⟩
  have e : n = V := by simp [pw0, val] at h; exact h
  subst e
  exact Pbc (by unfold Paq.b1; simp)
 | i + 1, kk, n, hk, h7, hs, h0, h => by
  obtain ⟨kk, rfl⟩ : ∃ m, kk = m + 1 := ⟨kk - 1, by omega⟩
  have hb0 := Pdh s i
  have hb1 := Pdp s i
  have hv := Pvr s i
  have hp := Ppr i
  have e1 : (Qmy s i).tmod 128 = Qmy s i % 128 := Int.tmod_eq_emod_of_nonneg hb0
  have h2 : (n * 128 + Qmy s i % 128) * pw i + val s i = V := by
   rw [← h, pw1, Int.add_mul]
   simp only [val]
   have : n * (pw i * 128) = n * 128 * pw i := by rw [Int.mul_comm (pw i) 128, Int.mul_assoc]
   rw [this]; omega
  have h3 : n * 128 + Qmy s i % 128 ≤ V := Pbcl (by omega) hv.1 h2
  have h4 : Paq.b1 k (s, x, y, j, n, ((i + 1 : Nat) : Int) - 1) = some (.inl (s, x, y, j, n * 128 + Qmy s i % 128, (i : Int) - 1)) := by
   unfold Paq.b1
   dsimp only
   have e2 : ((i + 1 : Nat) : Int) - 1 = (i : Int) := by omega
   rw [e2, Zi, Zn, Zo, Zw (n := Qmy s i), e1, Zw (n := n * 128), Zw (n := n * 128 + Qmy s i % 128), Zw (n := (i : Int) - 1)]
   have : decide (0 ≤ (i : Int)) = true := by simp
   rw [this]
   rfl
  rw [Pav h4]
  exact Pps k s x y j V hV i kk _ (by omega) (by omega) (by omega) (by omega) h2
theorem Pjw {k} (hk : Zk k) (s : Zb) (hs : s.size ≤ 4611686018427387904) (j : Nat) (h1 : 1 ≤ j) (h7 : j ≤ 7) (hj : j ≤ s.size) {v : Zb} (hv : Par.f k (val s j) = some v) :
  Paq.b0 k (s, 0, 0, (j : Int)) = if v = s.extract 0 j then some (.inr (.inr (val s j, (j : Int)))) else some (.inl (s, 0, 0, ((j + 1 : Nat) : Int))) := by
 unfold Paq.b0
 dsimp only
 have e1 : decide ((j : Int) ≤ 7) = true := by simp; omega
 have e2 : decide ((j : Int) ≤ (s.size : Int)) = true := by simp; omega
 rw [e1, e2, Zw (n := (j : Int) - 1), Pps k s 0 0 j (val s j) (val7 s h7).2 j k 0 (by omega) h7 hj (by omega) (by simp)]
 simp only [Zy, Zo]
 unfold Paq.d0
 dsimp only
 rw [hv, Zc, Zw]
 simp only [Zo, Zn]
 show (bif decide (v = s.extract (0 : Int).toNat j) then _ else _) = _
 by_cases h : v = s.extract 0 j
 ·rw [if_pos h]; simp [h]
 ·rw [if_neg h]; simp [h]
theorem Pok (k : Nat) (s : Zb) (j : Nat) (h : 7 < j ∨ s.size < j) : Paq.b0 k (s, 0, 0, (j : Int)) = some (.inr (.inl (0, 0))) := by
 unfold Paq.b0
 dsimp only
 by_cases h7 : 7 < j
 ·have : decide ((j : Int) ≤ 7) = false := by simp; omega
  rw [this]; rfl
 ·have h1 : decide ((j : Int) ≤ (s.size : Int)) = false := by simp; omega
  rw [h1]
  cases decide ((j : Int) ≤ 7) <;> rfl
theorem Ply {k} (hk : Zk k) (s : Zb) (hs : s.size ≤ 4611686018427387904) : ∀ (d kk j : Nat), j + d = 8 → d < kk → 1 ≤ j → (∃ i, i + 1 < j ∧ Qmy s i < 128) →
  iter (X := U0 ⊕ U0) (Paq.b0 k) kk (s, 0, 0, (j : Int)) = some (.inl (0, 0))
 | d, kk, j, hd, hkk, h1, ⟨i, hi, hb⟩ => by
  obtain ⟨kk, rfl⟩ : ∃ m, kk = m + 1 := ⟨kk - 1, by omega⟩
  by_cases h : 7 < j ∨ s.size < j
  ·exact Pbc (Pok k s j h)
  ·obtain ⟨v, hv, hv0, hv1, hv2⟩ := Poz hk (val7 s (show j ≤ 7 by omega)).1 (val7 s (show j ≤ 7 by omega)).2
   have hne : v ≠ s.extract 0 j := by
    intro e
    have hz : v.size = j := by rw [e, Pbb s (by omega)]; omega
    have := hv1 i (by omega)
    rw [e, Pck s (by omega) (by omega), Nat.zero_add] at this
    omega
   have := Pjw hk s hs j h1 (by omega) (by omega) hv
   rw [if_neg hne] at this
   rw [Pav this]
   exact Ply hk s hs (d - 1) kk (j + 1) (by omega) (by omega) (by omega) ⟨i, by omega, hb⟩
termination_by d => d
decreasing_by omega
theorem Pbcc {b : Int} (h0 : 0 ≤ b) (h1 : b ≤ 255) : Zr (bits .and .u8 b 127) = b % 128 := by
 unfold bits
 simp only
 have e : (BitVec.ofInt 8 b &&& BitVec.ofInt 8 127).toNat = b.toNat % 128 := by
  rw [BitVec.toNat_and]
  have e1 : (BitVec.ofInt 8 b).toNat = b.toNat := by
   rw [BitVec.toNat_ofInt]
   have : b % (2 ^ 8 : Nat) = b := Int.emod_eq_of_lt h0 (by omega)
   rw [this]
  rw [e1]
  exact Nat.and_two_pow_sub_one_eq_mod b.toNat 7
 show Zr (IntKind.wrap .u8 ((BitVec.ofInt 8 b &&& BitVec.ofInt 8 127).toNat : Int)) = _
 rw [e, Qrq (by omega) (by omega), Zw]
 omega
theorem Pbbe {n m : Int} {i : Nat} (h0 : 0 ≤ n) (h1 : n < 2 ^ i) (h2 : 0 ≤ m) (h3 : m * 2 ^ i ≤ 9223372036854775807) (hi : i < 63) : bits .or .i64 n (m * 2 ^ i) = n + m * 2 ^ i := by
 have hp : (0 : Int) < 2 ^ i := Int.pow_pos (by omega)
 have hp1 : (2 : Int) ^ i ≤ 2 ^ 63 := by exact_mod_cast Nat.pow_le_pow_right (by omega) (show i ≤ 63 by omega)
 have hm : 0 ≤ m * 2 ^ i := Int.mul_nonneg h2 (by omega)
 rw [Qpy h0 (by omega) hm h3]
 obtain ⟨a, rfl⟩ := Int.eq_ofNat_of_zero_le h0
 obtain ⟨c, rfl⟩ := Int.eq_ofNat_of_zero_le h2
 have e : ((c : Int) * 2 ^ i) = ((2 ^ i * c : Nat) : Int) := by push_cast; rw [Int.mul_comm]
 rw [e, Zn, Zn, Nat.or_comm, ← Nat.two_pow_add_eq_or_of_lt (by exact_mod_cast h1)]
 push_cast
 omega
theorem Pbaj {n m : Int} {i : Nat} (hi : i < 7) (h0 : 0 ≤ n) (h1 : n < pw i) (h2 : 0 ≤ m) (h3 : m < 128) :
  bits .or .i64 n (Zr (m * 2 ^ (min (Zr (7 * (i : Int))).toNat (IntKind.bits .i64)))) = n + m * pw i := by
 have e0 : Zr (7 * (i : Int)) = 7 * (i : Int) := Zw
 have e1 : min (7 * (i : Int)).toNat (IntKind.bits .i64) = 7 * i := by show min _ 64 = _; omega
 have e2 : pw i = 2 ^ (7 * i) := by
  unfold pw
  rw [Int.pow_mul]
  rfl
 have hp := Pyl (show i ≤ 6 by omega)
 have h6 : pw 6 = 4398046511104 := rfl
 have hp0 := Ppr i
 have h4 : m * pw i ≤ 127 * pw i := Int.mul_le_mul_of_nonneg_right (by omega) (by omega)
 have h5 : 0 ≤ m * pw i := Int.mul_nonneg h2 (by omega)
 rw [e0, e1, ← e2, Zw, e2, Pbbe h0 (by rw [← e2]; exact h1) h2 (by rw [← e2]; omega) (by omega)]
theorem Pxs {k} (hk : Zk k) (s : Zb) (hs : s.size ≤ 4611686018427387904) (i : Nat) (h7 : i < 7) (hi : i < s.size) {v : Zb} (hv : Par.f k (val s (i + 1)) = some v) :
  Pcm.b0 k (s, 0, 0, val s i, (i : Int)) = if Qmy s i < 128 then (if v = s.extract 0 (i + 1) then some (.inr (.inr (val s (i + 1), ((i + 1 : Nat) : Int)))) else some (.inr (.inr (0, 0)))) else some (.inl (s, 0, 0, val s (i + 1), ((i + 1 : Nat) : Int))) := by
 unfold Pcm.b0
 dsimp only
 have e1 : decide ((i : Int) < (s.size : Int)) = true := by simp; omega
 have e2 : decide ((i : Int) < 7) = true := by simp; omega
 have hb0 := Pdh s i
 have hb1 := Pdp s i
 have hl := Pvr s i
 have e3 : bits .or .i64 (val s i) (Zr (Zr (bits .and .u8 (Qmy s i) 127) * 2 ^ (min (Zr (7 * (i : Int))).toNat (IntKind.bits .i64)))) = val s (i + 1) := by
  rw [Pbcc hb0 hb1, Pbaj h7 hl.1 hl.2 (by omega) (by omega)]
  rfl
 have e4 : ¬ (Zr (7 * (i : Int)) < 0) := by rw [Zw]; omega
 have e5 : Zr ((i : Int) + 1) = ((i + 1 : Nat) : Int) := by rw [Zw]; omega
 rw [e1, e2, Zi, Zn]
 simp only [Zo, Zy]
 rw [if_neg e4, e3, Pvt, hv, e5, Zc]
 simp only [Zo, Zn]
 by_cases hb : Qmy s i < 128
 ·rw [if_pos hb]
  by_cases h : v = s.extract 0 (i + 1)
  ·rw [if_pos h]; simp [h, hb]
  ·rw [if_neg h]; simp [h, hb]
 ·rw [if_neg hb]; simp [hb]
theorem Pbab (k : Nat) (s : Zb) (i : Nat) (n : Int) (h : ¬ i < 7 ∨ ¬ i < s.size) : Pcm.b0 k (s, 0, 0, n, (i : Int)) = some (.inr (.inl (0, 0))) := by
 unfold Pcm.b0
 dsimp only
 by_cases h7 : i < s.size
 ·have h1 : decide ((i : Int) < 7) = false := by simp; omega
  rw [h1]
  cases decide ((i : Int) < (s.size : Int)) <;> rfl
 ·have : decide ((i : Int) < (s.size : Int)) = false := by simp; omega
  rw [this]; rfl
def rvOk (k : Nat) (s : Zb) (r : U0) : Prop := r = (0, 0) ∨ (0 ≤ r.1 ∧ r.1 ≤ 562949953421311 ∧ 1 ≤ r.2 ∧ r.2 ≤ 7 ∧ r.2 ≤ s.size ∧ Par.f k r.1 = some (s.extract 0 r.2.toNat))
def rvEnd : U0 ⊕ U0 → Int × Int
 | .inl _ => (0, 0) | .inr o => o
theorem Png {k} (hk : Zk k) (s : Zb) (hs : s.size ≤ 4611686018427387904) : ∀ (d kk kk' i : Nat), i + d = 7 → d < kk → d < kk' → (∀ m, m < i → 128 ≤ Qmy s m) →
  ∃ x y, iter (X := U0 ⊕ U0) (Paq.b0 k) kk (s, 0, 0, ((i + 1 : Nat) : Int)) = some x ∧ iter (X := U0 ⊕ U0) (Pcm.b0 k) kk' (s, 0, 0, val s i, (i : Int)) = some y ∧ rvEnd x = rvEnd y ∧ rvOk k s (rvEnd x)
 | d, kk, kk', i, hd, hkk, hkk', hb => by
  obtain ⟨kk, rfl⟩ : ∃ m, kk = m + 1 := ⟨kk - 1, by omega⟩
  obtain ⟨kk', rfl⟩ : ∃ m, kk' = m + 1 := ⟨kk' - 1, by omega⟩
  by_cases h : i < 7 ∧ i < s.size
  ·obtain ⟨v, hv, hv0, hv1, hv2⟩ := Poz hk (val7 s (show i + 1 ≤ 7 by omega)).1 (val7 s (show i + 1 ≤ 7 by omega)).2
   have ha := Pjw hk s hs (i + 1) (by omega) (by omega) (by omega) hv
   have hc := Pxs hk s hs i h.1 h.2 hv
   have hl7 := val7 s (show i + 1 ≤ 7 by omega)
   by_cases h8 : Qmy s i < 128
   ·rw [if_pos h8] at hc
    by_cases he : v = s.extract 0 (i + 1)
    ·rw [if_pos he] at ha hc
     refine ⟨_, _, Pbc ha, Pbc hc, rfl, .inr ⟨hl7.1, hl7.2, by show (1 : Int) ≤ ((i + 1 : Nat) : Int); omega, by show ((i + 1 : Nat) : Int) ≤ 7; omega, by show ((i + 1 : Nat) : Int) ≤ _; omega, ?_⟩⟩
     show Par.f k (val s (i + 1)) = some (s.extract 0 (((i + 1 : Nat) : Int)).toNat)
     rw [Zn, ← he]; exact hv
    ·rw [if_neg he] at ha hc
     refine ⟨.inl (0, 0), _, ?_, Pbc hc, rfl, .inl rfl⟩
     rw [Pav ha]
     exact Ply hk s hs (d - 1) kk (i + 1 + 1) (by omega) (by omega) (by omega) ⟨i, by omega, h8⟩
   ·rw [if_neg h8] at hc
    have he : v ≠ s.extract 0 (i + 1) := by
     intro e
     have hz : v.size = i + 1 := by rw [e, Pbb s (by omega)]; omega
     rw [hz, e, Pck s (by omega) (by omega)] at hv2
     have : 0 + (i + 1 - 1) = i := by omega
     rw [this] at hv2
     exact h8 hv2
    rw [if_neg he] at ha
    rw [Pav ha, Pav hc]
    exact Png hk s hs (d - 1) kk kk' (i + 1) (by omega) (by omega) (by omega) (fun m hm => by
     by_cases e : m = i
     ·subst e; omega
     ·exact hb m (by omega))
  ·exact ⟨_, _, Pbc (Pok k s (i + 1) (by omega)), Pbc (Pbab k s i (val s i) (by omega)), rfl, .inl rfl⟩
termination_by d => d
decreasing_by omega
theorem Pse {k} (hk : Zk k) (s : Zb) (hs : s.size ≤ 4611686018427387904) : ∃ r, Paq.f k s = some r ∧ Pcm.f k s = some r ∧ rvOk k s r := by
 obtain ⟨x, y, h1, h2, h3, h4⟩ := Png hk s hs 7 k k 0 rfl (by omega) (by omega) (fun m hm => by omega)
 refine ⟨rvEnd x, ?_, ?_, h4⟩
 ·unfold Paq.f
  have : ((0 + 1 : Nat) : Int) = 1 := rfl
  rw [this] at h1
  rw [h1]
  cases x <;> rfl
 ·unfold Pcm.f
  have e : val s 0 = 0 := rfl
  have : ((0 : Nat) : Int) = 0 := rfl
  rw [e, this] at h2
  rw [h2, h3]
  cases y <;> rfl
def rdv (k : Nat) (s : Zb) : Int × Int := (Paq.f k s).getD (0, 0)
theorem Pgw {k} (hk : Zk k) (s : Zb) (hs : s.size ≤ 4611686018427387904) : Paq.f k s = some (rdv k s) ∧ Pcm.f k s = some (rdv k s) ∧ rvOk k s (rdv k s) := by
 obtain ⟨r, h1, h2, h3⟩ := Pse hk s hs
 have : rdv k s = r := by unfold rdv; rw [h1]; rfl
 rw [this]
 exact ⟨h1, h2, h3⟩
def numP (k : Nat) (s : Zb) (bad : Bool) : Int × Zb × Bool :=
 if bad = true ∨ (rdv k s).2 = 0 then (0, s, true) else ((rdv k s).1, s.extract (rdv k s).2.toNat s.size, false)
theorem Pko {k} (hk : Zk k) (s : Zb) (bad : Bool) (hs : s.size ≤ 4611686018427387904) : Pat.f k (s, bad) = some (numP k s bad) := by
 obtain ⟨_, h2, h3⟩ := Pgw hk s hs
 unfold Pat.f numP
 dsimp only
 rw [h2]
 simp only [Zo]
 cases bad
 ·by_cases h : (rdv k s).2 = 0
  ·simp [h]
  ·have h4 : 0 ≤ (rdv k s).2 ∧ (rdv k s).2 ≤ s.size := by
    rcases h3 with h3 | h3
    ·rw [h3] at h; exact absurd rfl h
    ·omega
   rw [Qqw h4.1 h4.2 (by omega)]
   simp [h]
 ·rfl
theorem Pjt (k : Nat) (s : Zb) (bad : Bool) : (numP k s bad).2.1.size ≤ s.size := by
 unfold numP
 split
 ·exact Nat.le_refl _
 ·show (s.extract _ _).size ≤ _
  rw [ByteArray.size_extract]; omega
def numN (k : Nat) : Nat → Zb → Option (List Int × Zb)
 | 0, t => some ([], t)
 | d + 1, t => if (rdv k t).2 = 0 then none else (numN k d (t.extract (rdv k t).2.toNat t.size)).map fun p => ((rdv k t).1 :: p.1, p.2)
theorem Pjp (s : Zb) (a : Nat) (h : a ≤ s.size) (c : Nat) (hc : a + c ≤ s.size) : (s.extract a s.size).extract c (s.extract a s.size).size = s.extract (a + c) s.size := by
 rw [Pbb s (Nat.le_refl _)]
 apply Pks
 ·rw [Pbb, Pbb]
  ·omega
  ·omega
  ·rw [Pbb] <;> omega
 ·intro i hi
  rw [Pbb] at hi
  ·rw [Pck, Pck, Pck]
   ·congr 1; omega
   all_goals first | omega | (rw [Pbb] <;> omega)
  ·rw [Pbb] <;> omega
theorem Psv {k} (hk : Zk k) (s : Zb) (hs : s.size ≤ 4611686018427387904) (n : Nat) (hn : n ≤ 1000) (z1 : List Int) (z2 : Int) : ∀ (d kk i a : Nat) (l : List Int), i + d = n → d < kk → a ≤ s.size → l.length = i →
  match numN k d (s.extract a s.size) with
  | none => ∃ l', iter (X := (Int × List Int × Int × List Int) ⊕ (List Int × Int)) (Pbe.b0 k) kk (s, (a : Int), (n : Int), z1, z2, l, (i : Int)) = some (.inr (l', -1))
  | some (xs, u) => xs.length = d ∧ ∃ a' : Nat, a ≤ a' ∧ a' ≤ s.size ∧ u = s.extract a' s.size ∧ iter (X := (Int × List Int × Int × List Int) ⊕ (List Int × Int)) (Pbe.b0 k) kk (s, (a : Int), (n : Int), z1, z2, l, (i : Int)) = some (.inl ((a' : Int), z1, z2, l ++ xs))
 | 0, kk, i, a, l, hi, hkk, ha, hl => by
  obtain ⟨kk, rfl⟩ : ∃ m, kk = m + 1 := ⟨kk - 1, by omega⟩
  refine ⟨rfl, a, Nat.le_refl _, ha, rfl, Pbc ?_⟩
  unfold Pbe.b0
  have : decide ((i : Int) < (n : Int)) = false := by simp; omega
  dsimp only
  rw [this]
  simp
 | d + 1, kk, i, a, l, hi, hkk, ha, hl => by
  obtain ⟨kk, rfl⟩ : ∃ m, kk = m + 1 := ⟨kk - 1, by omega⟩
  have hz : (s.extract a s.size).size = s.size - a := Pbb s (Nat.le_refl _)
  obtain ⟨h1, _, h3⟩ := Pgw hk (s.extract a s.size) (by omega)
  have e1 : decide ((i : Int) < (n : Int)) = true := by simp; omega
  have e2 : decide ((s.size : Int) < (a : Int)) = false := by simp; omega
  have hb : Pbe.b0 k (s, (a : Int), (n : Int), z1, z2, l, (i : Int)) = if (rdv k (s.extract a s.size)).2 = 0 then some (.inr (.inr (l, -1))) else some (.inl (s, (a : Int) + (rdv k (s.extract a s.size)).2, (n : Int), z1, z2, l ++ [(rdv k (s.extract a s.size)).1], ((i + 1 : Nat) : Int))) := by
   unfold Pbe.b0
   dsimp only
   rw [e1, e2, Zc]
   simp only [Zy, Zz, Zo, Zn, h1]
   by_cases h : (rdv k (s.extract a s.size)).2 = 0
   ·rw [if_pos h]; simp [h]
   ·rw [if_neg h, Qrr (by simp only [Zl, List.length_nil]; unfold limOf; omega)]
    have h4 : 0 ≤ (rdv k (s.extract a s.size)).2 ∧ (rdv k (s.extract a s.size)).2 ≤ ((s.extract a s.size).size : Int) := by
     rcases h3 with h3 | h3
     ·rw [h3] at h; exact absurd rfl h
     ·omega
    rw [Zw, Zw]
    simp [h]
  unfold numN
  by_cases h : (rdv k (s.extract a s.size)).2 = 0
  ·rw [if_pos h] at hb ⊢
   exact ⟨l, Pbc hb⟩
  ·rw [if_neg h] at hb ⊢
   rw [Pav hb]
   have h4 : 1 ≤ (rdv k (s.extract a s.size)).2 ∧ (rdv k (s.extract a s.size)).2 ≤ ((s.extract a s.size).size : Int) := by
    rcases h3 with h3 | h3
    ·rw [h3] at h; exact absurd rfl h
    ·omega
   obtain ⟨c, hc⟩ := Int.eq_ofNat_of_zero_le (show 0 ≤ (rdv k (s.extract a s.size)).2 by omega)
   rw [hc] at h4 ⊢
   rw [Zn, Pjp s a ha c (by omega)]
   have e3 : (a : Int) + (c : Int) = ((a + c : Nat) : Int) := by omega
   rw [e3]
   have ih := Psv hk s hs n hn z1 z2 d kk (i + 1) (a + c) (l ++ [(rdv k (s.extract a s.size)).1]) (by omega) (by omega) (by omega) (by simp; omega)
   cases hm : numN k d (s.extract (a + c) s.size) with
   | none => rw [hm] at ih; exact ih
   | some p =>
    rw [hm] at ih
    obtain ⟨h5, a', h6, h7, h8, h9⟩ := ih
    refine ⟨by simp [h5], a', by omega, h7, h8, ?_⟩
    rw [h9]
    simp
theorem Pra {k} (hk : Zk k) (s : Zb) (hs : s.size ≤ 4611686018427387904) (n : Nat) (hn : n ≤ 1000) (a : Nat) (ha : a ≤ s.size) :
  match numN k n (s.extract a s.size) with
  | none => ∃ l', Pbe.f k s (a : Int) (n : Int) = some (l', -1)
  | some (xs, u) => xs.length = n ∧ ∃ a' : Nat, a ≤ a' ∧ a' ≤ s.size ∧ u = s.extract a' s.size ∧ Pbe.f k s (a : Int) (n : Int) = some (xs, (a' : Int)) := by
 have h := Psv hk s hs n hn [] 0 n k 0 a [] (by omega) (by omega) ha rfl
 cases hm : numN k n (s.extract a s.size) with
 | none =>
  rw [hm] at h
  obtain ⟨l', h⟩ := h
  refine ⟨l', ?_⟩
  unfold Pbe.f
  have : ((0 : Nat) : Int) = 0 := rfl
  rw [this] at h
  rw [h]; rfl
 | some p =>
  rw [hm] at h
  obtain ⟨h1, a', h2, h3, h4, h5⟩ := h
  refine ⟨h1, a', h2, h3, h4, ?_⟩
  unfold Pbe.f
  have : ((0 : Nat) : Int) = 0 := rfl
  rw [this] at h5
  rw [h5]; rfl
theorem Pva (k : Nat) (s : Zb) : numP k s true = (0, s, true) := by unfold numP; simp
theorem Plv {k : Nat} {s : Zb} (h : (rdv k s).2 = 0) : numP k s false = (0, s, true) := by unfold numP; simp [h]
theorem Plw {k : Nat} {s : Zb} (h : ¬ (rdv k s).2 = 0) : numP k s false = ((rdv k s).1, s.extract (rdv k s).2.toNat s.size, false) := by unfold numP; simp [h]
theorem Pqd (s : Zb) : s.extract 0 s.size = s := by
 apply Pks
 ·rw [Pbb s (Nat.le_refl _)]; omega
 ·intro i hi
  rw [Pbb s (Nat.le_refl _)] at hi
  rw [Pck s (Nat.le_refl _) (by omega), Nat.zero_add]
theorem Psc {k} (hk : Zk k) : (rdv k ⟨#[]⟩).2 = 0 := by
 obtain ⟨_, _, h⟩ := Pgw hk (⟨#[]⟩ : Zb) (by decide)
 rcases h with h | h
 ·rw [h]
 ·have : ((⟨#[]⟩ : Zb).size : Int) = 0 := rfl
  omega
theorem Pqk {k} (hk : Zk k) (r : Int × U9) (hs : r.2.1.size ≤ 1048576) : ∃ q, Pat.f k (r.2.1, r.2.2) = some q ∧ q = numP k r.2.1 r.2.2 ∧ q.2.1.size ≤ 1048576 :=
 ⟨_, Pko hk _ _ (by omega), rfl, Nat.le_trans (Pjt k _ _) hs⟩
def runN (k : Nat) : Nat → Zb → Bool → List Int × Zb × Bool
 | 0, t, b => ([], t, b)
 | d + 1, t, b => ((numP k t b).1 :: (runN k d (numP k t b).2.1 (numP k t b).2.2).1, (runN k d (numP k t b).2.1 (numP k t b).2.2).2)
theorem Pvg (k : Nat) : ∀ (d : Nat) (t : Zb), (runN k d t true).2 = (t, true)
 | 0, _ => rfl
 | d + 1, t => by
  show (runN k d (numP k t true).2.1 (numP k t true).2.2).2 = _
  rw [Pva]
  exact Pvg k d t
theorem Psh (k : Nat) : ∀ (d : Nat) (t : Zb), match numN k d t with | none => (runN k d t false).2.2 = true | some p => runN k d t false = (p.1, p.2, false)
 | 0, _ => rfl
 | d + 1, t => by
  unfold numN
  by_cases h : (rdv k t).2 = 0
  ·rw [if_pos h]
   show (runN k d (numP k t false).2.1 (numP k t false).2.2).2.2 = _
   rw [Plv h, Pvg]
  ·rw [if_neg h]
   have ih := Psh k d (t.extract (rdv k t).2.toNat t.size)
   have e : runN k (d + 1) t false = ((rdv k t).1 :: (runN k d (t.extract (rdv k t).2.toNat t.size) false).1, (runN k d (t.extract (rdv k t).2.toNat t.size) false).2) := by
    show ((numP k t false).1 :: _, _) = _
    rw [Plw h]
   cases hm : numN k d (t.extract (rdv k t).2.toNat t.size) with
   | none => rw [hm] at ih; show (runN k (d + 1) t false).2.2 = true; rw [e]; exact ih
   | some p => rw [hm] at ih; show runN k (d + 1) t false = _; rw [e, ih]
theorem len5 {l : List Int} (h : l.length = 5) : ∃ a b c d e, l = [a, b, c, d, e] := by
 match l, h with
 | [a, b, c, d, e], _ => exact ⟨a, b, c, d, e, rfl⟩
theorem len2 {l : List Int} (h : l.length = 2) : ∃ a b, l = [a, b] := by
 match l, h with
 | [a, b], _ => exact ⟨a, b, rfl⟩
theorem Pkp {k} (hk : Zk k) (s : Zb) (hs : s.size ≤ 1048576) : ∃ r, Pdn.f k s = some r ∧ Pdj.f k s = some r := by
 have hv := Pra hk s (by omega) 5 (by omega) 0 (by omega)
 rw [Pqd] at hv
 have hr := Psh k 5 s
 unfold Pdj.f Pdn.f
 have e5 : ((5 : Nat) : Int) = 5 := rfl
 have e0 : ((0 : Nat) : Int) = 0 := rfl
 rw [e5, e0] at hv
 have hq1 : Pat.f k (s, false) = some (numP k s false) := Pko hk s false (by omega)
 have hz1 : (numP k s false).2.1.size ≤ 1048576 := Nat.le_trans (Pjt k _ _) hs
 have hR : runN k 5 s false = runN k 5 s false := rfl
 unfold runN at hR
 obtain ⟨r1, h1⟩ : ∃ r, numP k s false = r := ⟨_, rfl⟩
 rw [h1] at hq1 hz1
 obtain ⟨r2, hq2, h2, hz2⟩ := Pqk hk r1 hz1
 obtain ⟨r3, hq3, h3, hz3⟩ := Pqk hk r2 hz2
 obtain ⟨r4, hq4, h4, hz4⟩ := Pqk hk r3 hz3
 obtain ⟨r5, hq5, h5, hz5⟩ := Pqk hk r4 hz4
 have hrun : runN k 5 s false = ([r1.1, r2.1, r3.1, r4.1, r5.1], r5.2.1, r5.2.2) := by
  simp only [runN, h1, ← h2, ← h3, ← h4, ← h5]
 rw [hrun] at hr
 rw [hq1]
 simp only [Zo, hq2, hq3, hq4, hq5]
 cases hm : numN k 5 s with
 | none =>
  rw [hm] at hr hv
  obtain ⟨l', hv⟩ := hv
  have hr : r5.2.2 = true := hr
  rw [hv, hr]
  exact ⟨_, rfl, rfl⟩
 | some p =>
  rw [hm] at hr hv
  obtain ⟨hl, a', _, ha, hu, hv⟩ := hv
  have hr : ([r1.1, r2.1, r3.1, r4.1, r5.1], r5.2.1, r5.2.2) = (p.1, p.2, false) := hr
  simp only [Prod.mk.injEq] at hr
  obtain ⟨hp, hp2, hb⟩ := hr
  have hne : ¬ s = (⟨#[]⟩ : Zb) := by
   intro e
   subst e
   unfold numN at hm
   rw [if_pos (Psc hk)] at hm
   simp at hm
  rw [hv, hb]
  have en : decide ((a' : Int) < 0) = false := by simp
  simp only [Zo, en, Zz, ← hp]
  rw [Qqx (by omega) (by simp), Qqx (by omega) (by simp), Qqx (by omega) (by simp), Qqx (by omega) (by simp), Qqx (by omega) (by simp), Zc]
  simp only [Zo]
  have g0 : [r1.1, r2.1, r3.1, r4.1, r5.1][(0 : Int).toNat]? = some r1.1 := rfl
  have g1 : [r1.1, r2.1, r3.1, r4.1, r5.1][(1 : Int).toNat]? = some r2.1 := rfl
  have g2 : [r1.1, r2.1, r3.1, r4.1, r5.1][(2 : Int).toNat]? = some r3.1 := rfl
  have g3 : [r1.1, r2.1, r3.1, r4.1, r5.1][(3 : Int).toNat]? = some r4.1 := rfl
  have g4 : [r1.1, r2.1, r3.1, r4.1, r5.1][(4 : Int).toNat]? = some r5.1 := rfl
  simp only [g0, g1, g2, g3, g4, Zo, Zn]
  rw [← hu, ← hp2]
  have hd : decide (s = (⟨#[]⟩ : Zb)) = false := by simp [hne]
  obtain ⟨w, hw, _⟩ := Pon hk (r1.1, r2.1, r3.1, r5.2.1, r4.1, r5.1) hz5
  rw [Pkq, hw, hd]
  simp only [Zo, Zz]
  cases decide (w = s)
  ·exact ⟨_, rfl, rfl⟩
  ·exact ⟨_, rfl, rfl⟩
theorem Pwz {k : Nat} (s : Zb) (bad : Bool) (hs : s.size ≤ 1048576) : Pcs.f k (s, bad) = some (if bad = true ∨ s.size = 0 then (0, s, true) else (Qmy s 0, s.extract 1 s.size, false)) := by
 unfold Pcs.f Pcy.f
 have hw : ∀ x : Int, Paa.f k 1 0 x = some (decide (1 ≤ x)) := by intro x; unfold Paa.f; simp
 dsimp only
 cases bad
 ·rw [hw]
  by_cases h : s.size = 0
  ·have : decide ((1 : Int) ≤ (s.size : Int)) = false := by simp; omega
   rw [this, if_pos (.inr h)]; rfl
  ·have : decide ((1 : Int) ≤ (s.size : Int)) = true := by simp; omega
   rw [this, if_neg (by simp [h]), Zc, Zc]
   simp only [Zz, Zy, Zx, Zo, Zn]
   have e1 : s.extract (Int.toNat 0) (Int.toNat 1) ≠ (⟨#[]⟩ : Zb) := by
    intro e
    have := congrArg ByteArray.size e
    rw [Pbb s (by show 1 ≤ _; omega)] at this
    exact absurd this (by decide)
   rw [Zf e1, Qqx (by omega) (by rw [Pbb s (by show 1 ≤ _; omega)]; decide)]
   simp only [Zz, Zo]
   rw [Pck s (by show 1 ≤ _; omega) (by decide), Zv]
   ·rfl
   ·have := Pdh s (Int.toNat 0 + Int.toNat 0); omega
   ·have := Pdp s (Int.toNat 0 + Int.toNat 0); omega
 ·rfl
end V
end Go.Proofs.YtbkcbfkehncocaaGreatDoor.Rx
