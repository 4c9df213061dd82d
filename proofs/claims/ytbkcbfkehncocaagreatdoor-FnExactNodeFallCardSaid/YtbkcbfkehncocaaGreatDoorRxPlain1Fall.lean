/- The plain side of the law: part 1. No condition beside those that each theorem states. -/
import Derived.Test.YtbkcbfkehncocaaGreatDoorRxFnsBFall
set_option linter.unusedVariables false
set_option linter.unusedSimpArgs false
namespace Go.Proofs.YtbkcbfkehncocaaGreatDoor.Rx
section
abbrev U0 := Zb × Int
abbrev U1 := Int × Int × Int × Int × Int × Zb × Int × Int
abbrev U2 := Int × Zb
abbrev U3 := Int × Int
abbrev U4 := Zb × U0
abbrev U5 := List Int × List Int × List Int
abbrev U6 := Int × Int × Int × Int × Int × Int × Int × Int × List (U2) × Int × U5
abbrev U7 := Zb × Zb
abbrev U8 := Int × Int × List (Int × U0) × List (U0) × List (Int × U4)
abbrev U9 := Zb × List Int
abbrev U10 := Zb × Bool
abbrev U11 := List (U4) × List Int × List (U1)
abbrev U12 := List Zb × Int
abbrev U13 := List Zb × Bool × List Zb × Int × Zb × List (U3)
abbrev LinkT := Zb × Int
abbrev Peg := Int × Zb × Int
abbrev MoveT := Int × Zb × Zb × Int
abbrev DiskT := Int × Int × List Peg × List LinkT × List MoveT
theorem Ptl (k : Nat) (a b c : Int) : Pan.f k a b c = some (decide (b ≤ a) && decide (a ≤ c)) := by
 unfold Pan.f
 cases decide (b ≤ a) <;> rfl
theorem Pdr (k : Nat) (a b c : Int) : Paa.f k a b c = some (decide (b ≤ a) && decide (a ≤ c)) := Ptl k a b c
def chB (b : Int) : Bool := (decide (97 ≤ b) && decide (b ≤ 122)) || (decide (48 ≤ b) && decide (b ≤ 57)) || decide (b = 46)
def nameB (s : Zb) : Bool := decide (1 ≤ (s.size : Int)) && decide ((s.size : Int) ≤ 12) && (List.range s.size).all fun i => chB (Qmy s i)
theorem Pvm {S X : Type} (b : Int) (x : Option (S ⊕ X ⊕ Bool)) :
  (bif decide (97 ≤ b) then (bif decide (b ≤ 122) then x else (bif decide (48 ≤ b) then (bif decide (b ≤ 57) then x else (bif !(decide (b = 46)) then some (.inr (.inr false)) else x)) else (bif !(decide (b = 46)) then some (.inr (.inr false)) else x)))
   else (bif decide (48 ≤ b) then (bif decide (b ≤ 57) then x else (bif !(decide (b = 46)) then some (.inr (.inr false)) else x)) else (bif !(decide (b = 46)) then some (.inr (.inr false)) else x))) = if chB b then x else some (.inr (.inr false)) := by
 unfold chB
 cases decide (97 ≤ b) <;> cases decide (b ≤ 122) <;> cases decide (48 ≤ b) <;> cases decide (b ≤ 57) <;> cases decide (b = 46) <;> rfl
theorem Ptz {k} (hk : Zk k) (s : Zb) (hs : s.size ≤ 1048576) : Pdo.f k s = some (nameB s) := by
 unfold Pdo.f nameB
 rw [Ptl]
 simp only [Zo]
 cases h : (decide (1 ≤ (s.size : Int)) && decide ((s.size : Int) ≤ 12)) with
 | false => rfl
 | true =>
  simp only [Zx, Zz, Bool.true_and]
  have key := Qqt (B := Pdo.b0 k) s.size (fun i => (s, false, (i : Int))) (fun i => chB (Qmy s i)) (.inl false) (.inr false) (fun i hi _ => by
   have e1 : decide ((i : Int) < (s.size : Int)) = true := by simp; omega
   have e2 : inb? s.size (i : Int) = some i := by rw [Zi, Zn]
   unfold Pdo.b0
   dsimp only
   simp only [e1, Zy, e2, Zo, Pvm]
   rw [Zw]
   rfl) (fun _ => by
   have e1 : decide ((s.size : Int) < (s.size : Int)) = false := by simp
   unfold Pdo.b0
   dsimp only
   rw [e1]; rfl) k (by omega)
  have e0 : ((0 : Nat) : Int) = 0 := rfl
  simp only [e0] at key
  rw [key]
  cases (List.range s.size).all fun i => chB (Qmy s i) <;> rfl
theorem Ptk {k} (hk : Zk k) (s : Zb) (hs : s.size ≤ 1048576) : Pcz.f k s = some (nameB s) := by
 unfold Pcz.f nameB
 have key := Qqt (B := Pcz.b0 k) s.size (fun i => (s, false, (i : Int))) (fun i => chB (Qmy s i)) (.inl (s, false)) (.inr false) (fun i hi _ => by
  have e1 : decide ((i : Int) < (s.size : Int)) = true := by simp; omega
  have e2 : inb? s.size (i : Int) = some i := by rw [Zi, Zn]
  unfold Pcz.b0
  dsimp only
  simp only [e1, Zy, e2, Zo, Pvm]
  rw [Zw]
  rfl) (fun _ => by
  have e1 : decide ((s.size : Int) < (s.size : Int)) = false := by simp
  unfold Pcz.b0
  dsimp only
  rw [e1]; rfl) k (by omega)
 have e0 : ((0 : Nat) : Int) = 0 := rfl
 simp only [e0] at key
 rw [key]
 cases (List.range s.size).all fun i => chB (Qmy s i) with
 | false => simp
 | true =>
  simp only [if_true, Zo, Bool.and_true]
  unfold Pcz.d0
  rw [Pdr]; rfl
theorem Pbfk {k} (hk : Zk k) (l : List LinkT) (n : Zb) (hl : l.length ≤ 4194304) : Pfg.f k l n = some (idxOf (fun x => decide (x.1 = n)) l) := by
 unfold Pfg.f idxOf
 have key := Qqy (B := Pfg.b0 k) l (fun i => (l, n, 0, (i : Int))) (fun x => decide (x.1 = n)) (fun i => .inr (i : Int)) (.inl 0) (fun i hi => by
  have e1 : decide ((i : Int) < (l.length : Int)) = true := by simp; omega
  have e2 : inb? l.length (i : Int) = some i := by rw [Zi, Zn]
  unfold Pfg.b0
  dsimp only
  simp only [e1, Zy, e2, Zo, Zg hi]
  rw [Zw]
  rfl) (by
  have e1 : decide ((l.length : Int) < (l.length : Int)) = false := by simp
  unfold Pfg.b0
  dsimp only
  rw [e1]; rfl) k (by omega)
 have e0 : ((0 : Nat) : Int) = 0 := rfl
 simp only [e0] at key
 rw [key]
 cases l.findIdx? (fun x => decide (x.1 = n)) <;> rfl
theorem Pnd {k} (hk : Zk k) (l : List LinkT) (n : Int) (hl : l.length ≤ 4194304) : Pbu.f k l n = some (l.any fun x => decide (x.2 = n)) := by
 rw [Qrm]
 unfold Pbu.f idxOf
 have key := Qqy (B := Pbu.b0 k) l (fun i => (l, n, false, (i : Int))) (fun x => decide (x.2 = n)) (fun i => .inr true) (.inl false) (fun i hi => by
  have e1 : decide ((i : Int) < (l.length : Int)) = true := by simp; omega
  have e2 : inb? l.length (i : Int) = some i := by rw [Zi, Zn]
  unfold Pbu.b0
  dsimp only
  simp only [e1, Zy, e2, Zo, Zg hi]
  rw [Zw]
  rfl) (by
  have e1 : decide ((l.length : Int) < (l.length : Int)) = false := by simp
  unfold Pbu.b0
  dsimp only
  rw [e1]; rfl) k (by omega)
 have e0 : ((0 : Nat) : Int) = 0 := rfl
 simp only [e0] at key
 rw [key]
 cases l.findIdx? (fun x => decide (x.2 = n)) with
 | none => rfl
 | some i => simp
theorem Pzc {k} (hk : Zk k) (l : List MoveT) (n : Int) (hl : l.length ≤ 4194304) : Peb.f k l n = some (l.any fun x => decide (x.1 = 1) && decide (x.2.2.2 = n)) := by
 rw [Qrm]
 unfold Peb.f idxOf
 have key := Qqy (B := Peb.b0 k) l (fun i => (l, n, false, (i : Int))) (fun x => decide (x.1 = 1) && decide (x.2.2.2 = n)) (fun i => .inr true) (.inl false) (fun i hi => by
  have e1 : decide ((i : Int) < (l.length : Int)) = true := by simp; omega
  have e2 : inb? l.length (i : Int) = some i := by rw [Zi, Zn]
  unfold Peb.b0
  dsimp only
  simp only [e1, Zy, e2, Zo, Zg hi]
  rw [Zw]
  cases decide (l[i].1 = 1) <;> cases decide (l[i].2.2.2 = n) <;> rfl) (by
  have e1 : decide ((l.length : Int) < (l.length : Int)) = false := by simp
  unfold Peb.b0
  dsimp only
  rw [e1]; rfl) k (by omega)
 have e0 : ((0 : Nat) : Int) = 0 := rfl
 simp only [e0] at key
 rw [key]
 cases l.findIdx? (fun x => decide (x.1 = 1) && decide (x.2.2.2 = n)) with
 | none => rfl
 | some i => simp
theorem Prm {k} (hk : Zk k) (d : DiskT) (n : Int) (hl : d.2.2.1.length ≤ 1048576) : Pcy.f k d n = some (idxOf (fun x => decide (x.1 = n)) d.2.2.1) := by
 unfold Pcy.f idxOf
 have key := Qqy (B := Pcy.b0 k) d.2.2.1 (fun i => (n, 0, (i : Int), d)) (fun x => decide (x.1 = n)) (fun i => .inr (i : Int)) (.inl 0) (fun i hi => by
  have e1 : decide ((i : Int) < (d.2.2.1.length : Int)) = true := by simp; omega
  have e2 : inb? d.2.2.1.length (i : Int) = some i := by rw [Zi, Zn]
  unfold Pcy.b0
  dsimp only
  simp only [e1, Zy, e2, Zo, Zg hi]
  rw [Zw]
  rfl) (by
  have e1 : decide ((d.2.2.1.length : Int) < (d.2.2.1.length : Int)) = false := by simp
  unfold Pcy.b0
  dsimp only
  rw [e1]; rfl) k (by omega)
 have e0 : ((0 : Nat) : Int) = 0 := rfl
 simp only [e0] at key
 try simp only [Prod.eta]
 rw [key]
 cases d.2.2.1.findIdx? (fun x => decide (x.1 = n)) <;> rfl
theorem Pbff {k} (hk : Zk k) (l : List LinkT) (n : Zb) (hl : l.length ≤ 4194304) : Phg.f k l n = some (idxOf (fun x => decide (x.1 = n)) l) := by
 unfold Phg.f Pak.f idxOf
 have key := Qqy (B := Pak.b0 k) l (fun i => (l, 0, (l.length : Int), (i : Int), n)) (fun x => decide (x.1 = n)) (fun i => .inr (i : Int)) (.inl 0) (fun i hi => by
  have e1 : decide ((i : Int) < (l.length : Int)) = true := by simp; omega
  have e2 : inb? l.length (i : Int) = some i := by rw [Zi, Zn]
  unfold Pak.b0 Piq.f
  dsimp only
  simp only [e1, Zy, e2, Zo, Zg hi]
  rw [Zw]
  rfl) (by
  have e1 : decide ((l.length : Int) < (l.length : Int)) = false := by simp
  unfold Pak.b0
  dsimp only
  rw [e1]; rfl) k (by omega)
 have e0 : ((0 : Nat) : Int) = 0 := rfl
 simp only [e0] at key
 rw [key]
 cases l.findIdx? (fun x => decide (x.1 = n)) <;> rfl
theorem Pqy {k} (hk : Zk k) (d : DiskT) (n : Int) (hl : d.2.2.1.length ≤ 1048576) : Pfb.f k d n = some (idxOf (fun x => decide (x.1 = n)) d.2.2.1) := by
 unfold Pfb.f Pag.f idxOf
 have key := Qqy (B := Pag.b0 k) d.2.2.1 (fun i => (d.2.2.1, 0, (d.2.2.1.length : Int), (i : Int), n)) (fun x => decide (x.1 = n)) (fun i => .inr (i : Int)) (.inl 0) (fun i hi => by
  have e1 : decide ((i : Int) < (d.2.2.1.length : Int)) = true := by simp; omega
  have e2 : inb? d.2.2.1.length (i : Int) = some i := by rw [Zi, Zn]
  unfold Pag.b0 Pha.f
  dsimp only
  simp only [e1, Zy, e2, Zo, Zg hi]
  rw [Zw]
  rfl) (by
  have e1 : decide ((d.2.2.1.length : Int) < (d.2.2.1.length : Int)) = false := by simp
  unfold Pag.b0
  dsimp only
  rw [e1]; rfl) k (by omega)
 have e0 : ((0 : Nat) : Int) = 0 := rfl
 simp only [e0] at key
 rw [key]
 cases d.2.2.1.findIdx? (fun x => decide (x.1 = n)) <;> rfl
theorem Ppt {k} (hk : Zk k) (l : List Int) (n : Int) (hl : l.length ≤ 4194304) : Pdb.f k l n = some (decide (n ∈ l)) := by
 unfold Pdb.f Pcx.f
 have key := Qqy (B := Pcx.b0 k) l (fun i => (l, n, 0, (l.length : Int), (i : Int))) (fun x => decide (n = x)) (fun i => .inr (i : Int)) (.inl 0) (fun i hi => by
  have e1 : decide ((i : Int) < (l.length : Int)) = true := by simp; omega
  have e2 : inb? l.length (i : Int) = some i := by rw [Zi, Zn]
  unfold Pcx.b0
  dsimp only
  simp only [e1, Zy, e2, Zo, Zg hi]
  rw [Zw]
  rfl) (by
  have e1 : decide ((l.length : Int) < (l.length : Int)) = false := by simp
  unfold Pcx.b0
  dsimp only
  rw [e1]; rfl) k (by omega)
 have e0 : ((0 : Nat) : Int) = 0 := rfl
 simp only [e0] at key
 rw [key]
 cases h : l.findIdx? (fun x => decide (n = x)) with
 | none =>
  have := List.findIdx?_eq_none_iff.1 h
  have : n ∉ l := fun hm => by simpa using this n hm
  simp [this, Pcx.d0]
 | some i =>
  obtain ⟨h1, h2, _⟩ := List.findIdx?_eq_some_iff_getElem.1 h
  have : n ∈ l := by
   have h2 : n = l[i] := of_decide_eq_true h2
   rw [h2]; exact List.getElem_mem h1
  simp [this]
def Peo (l : List LinkT) (n : Zb) : List LinkT := l.filter fun x => !decide (x.1 = n)
def insM (p : LinkT → Bool) (x : LinkT) (l : List LinkT) : List LinkT := l.takeWhile (fun y => !p y) ++ x :: l.dropWhile (fun y => !p y)
def withS (l : List LinkT) (x : LinkT) : List LinkT := insM (fun y => strLt x.1 y.1) x (Peo l x.1)
def linkI (l : List LinkT) (x : LinkT) : List LinkT := insM (fun y => !strLt y.1 x.1) x l
theorem Plb (l : List LinkT) (n : Zb) : (Peo l n).length ≤ l.length := List.length_filter_le _ _
theorem Pql (p : LinkT → Bool) (x : LinkT) (l : List LinkT) : (insM p x l).length = l.length + 1 := by
 unfold insM
 have := congrArg List.length (List.takeWhile_append_dropWhile (p := fun y => !p y) (l := l))
 simp only [List.length_append, Zl] at this ⊢
 omega
theorem Pkt {α : Type} (p : α → Bool) : ∀ (l a : List α), l.foldl (fun a x => bif p x then a ++ [x] else a) a = a ++ l.filter p
 | [], a => by simp
 | x :: l, a => by
  rw [List.foldl_cons, Pkt p l]
  cases h : p x <;> simp [h]
theorem Prn {k} (hk : Zk k) (l : List LinkT) (n : Zb) (hl : l.length ≤ 4194304) : Pat.f k l n = some (Peo l n) := by
 unfold Pat.f
 have key := Qqp (B := Pat.b0 k) l (fun i a => (l, n, [], a, (i : Int))) (fun a x => bif !decide (x.1 = n) then a ++ [x] else a) (fun a => .inl ([], a)) [] (fun i hi => by
  have e1 : decide ((i : Int) < (l.length : Int)) = true := by simp; omega
  have e2 : inb? l.length (i : Int) = some i := by rw [Zi, Zn]
  rw [Pkt]
  have hlen := List.length_filter_le (fun x => !decide (x.1 = n)) (l.take i)
  rw [List.length_take] at hlen
  unfold Pat.b0
  dsimp only
  simp only [e1, Zy, e2, Zo, Zg hi]
  rw [Zw, Qrr (by unfold limOf; simp only [List.length_append, List.length_nil, Zl]; omega)]
  cases !decide (l[i].1 = n) <;> rfl) (by
  have e1 : decide ((l.length : Int) < (l.length : Int)) = false := by simp
  unfold Pat.b0
  dsimp only
  rw [e1]; rfl) k (by omega)
 have e0 : ((0 : Nat) : Int) = 0 := rfl
 simp only [e0] at key
 rw [key, Pkt]
 rfl
def putG (x : LinkT) (a : List LinkT × Bool) (y : LinkT) : List LinkT × Bool := bif !a.2 && strLt x.1 y.1 then (a.1 ++ [x, y], true) else (a.1 ++ [y], a.2)
def putE (x : LinkT) (a : List LinkT × Bool) : List LinkT := bif !a.2 then a.1 ++ [x] else a.1
theorem Pvp (x : LinkT) : ∀ (l a : List LinkT), l.foldl (putG x) (a, true) = (a ++ l, true)
 | [], a => by simp
 | y :: l, a => by
  rw [List.foldl_cons]
  have : putG x (a, true) y = (a ++ [y], true) := rfl
  rw [this, Pvp x l]; simp
theorem Pbcj (x : LinkT) : ∀ (l a : List LinkT), putE x (l.foldl (putG x) (a, false)) = a ++ insM (fun y => strLt x.1 y.1) x l
 | [], a => by simp [putE, insM]
 | y :: l, a => by
  rw [List.foldl_cons]
  cases h : strLt x.1 y.1 with
  | true =>
   have : putG x (a, false) y = (a ++ [x, y], true) := by simp [putG, h]
   rw [this, Pvp]
   simp [putE, insM, List.takeWhile, List.dropWhile, h]
  | false =>
   have : putG x (a, false) y = (a ++ [y], false) := by simp [putG, h]
   rw [this, Pbcj x l]
   simp [insM, List.takeWhile, List.dropWhile, h]
theorem Ptu (x : LinkT) : ∀ (l : List LinkT) (a : List LinkT × Bool), (l.foldl (putG x) a).1.length ≤ a.1.length + 2 * l.length
 | [], a => by simp
 | y :: l, a => by
  rw [List.foldl_cons]
  have := Ptu x l (putG x a y)
  have h2 : (putG x a y).1.length ≤ a.1.length + 2 := by
   unfold putG
   cases !a.2 && strLt x.1 y.1 <;> simp
  simp only [Zl]
  omega
theorem Pze {k} (hk : Zk k) (l : List LinkT) (x : LinkT) (hl : l.length ≤ 4194304) : Pcs.f k l x = some (withS l x) := by
 unfold Pcs.f
 rw [Prn hk l x.1 hl]
 simp only [Zo]
 have hwl := Plb l x.1
 obtain ⟨w, hw⟩ : ∃ w, Peo l x.1 = w := ⟨_, rfl⟩
 unfold withS
 rw [hw] at hwl ⊢
 have key := Qqp (B := Pcs.b0 k) w (fun i a => (w, [], a.1, a.2, (i : Int), x.1, x.2)) (putG x) (fun a => .inl ([], a.1, a.2, x.1, x.2)) ([], false) (fun i hi => by
  have e1 : decide ((i : Int) < (w.length : Int)) = true := by simp; omega
  have e2 : inb? w.length (i : Int) = some i := by rw [Zi, Zn]
  have hlen := Ptu x (w.take i) ([], false)
  rw [List.length_take] at hlen
  simp only [List.length_nil] at hlen
  obtain ⟨a, ha⟩ : ∃ a, (w.take i).foldl (putG x) ([], false) = a := ⟨_, rfl⟩
  rw [ha] at hlen ⊢
  unfold Pcs.b0 Pcs.c0
  dsimp only
  simp only [e1, Zy, e2, Zo, Zg hi]
  unfold putG
  cases hb : a.2 with
  | true =>
   simp only [Zx, Zz, Bool.false_and, Zo, e2, Zg hi]
   rw [Qrr (by unfold limOf; simp only [List.length_append, List.length_nil, Zl]; omega)]
   simp only [e2, Zo, Zg hi]
   rw [Zw]
   rfl
  | false =>
   simp only [Bool.not_false, Zy, Bool.true_and, Zo]
   cases strLt x.1 w[i].1 with
   | true =>
    simp only [Zy]
    rw [Qrr (by unfold limOf; simp only [List.length_append, List.length_nil, Zl]; omega)]
    simp only [e2, Zo, Zg hi]
    rw [Qrr (by unfold limOf; simp only [List.length_append, List.length_nil, Zl]; omega)]
    simp only [Zo]
    rw [Zw]
    simp
   | false =>
    simp only [Zz, e2, Zo, Zg hi]
    rw [Qrr (by unfold limOf; simp only [List.length_append, List.length_nil, Zl]; omega)]
    simp only [Zo]
    rw [Zw]
    rfl) (by
  have e1 : decide ((w.length : Int) < (w.length : Int)) = false := by simp
  unfold Pcs.b0
  dsimp only
  rw [e1]; rfl) k (by omega)
 have e0 : ((0 : Nat) : Int) = 0 := rfl
 simp only [e0] at key
 rw [key]
 simp only [Zo]
 have := Pbcj x w []
 have hlen := Ptu x w ([], false)
 simp only [List.length_nil, List.nil_append] at this hlen
 unfold Pcs.d0
 rw [← this]
 unfold putE
 cases hb : (w.foldl (putG x) ([], false)).2 with
 | true => simp
 | false =>
  simp only [Bool.not_false, Zy]
  rw [Qrr (by unfold limOf; simp only [List.length_append, List.length_nil, Zl]; omega)]
  rfl
theorem Pue {α : Type} (p : α → Bool) (l : List α) : l.takeWhile (fun y => !p y) = l.take (match l.findIdx? p with | some i => i | none => l.length) ∧ l.dropWhile (fun y => !p y) = l.drop (match l.findIdx? p with | some i => i | none => l.length) := by
 induction l with
 | nil => simp
 | cons x l ih =>
  rw [List.findIdx?_cons]
  cases h : p x with
  | true => simp [List.takeWhile, List.dropWhile, h]
  | false =>
   simp only [List.takeWhile, List.dropWhile, h, Bool.not_false]
   rw [ih.1, ih.2]
   cases l.findIdx? p <;> simp
theorem Psl {k} (hk : Zk k) (l : List LinkT) (x : LinkT) (hl : l.length ≤ 4194304) : Pdn.f k l x = some (linkI l x) := by
 unfold Pdn.f
 have key := Qqy (B := Pdn.b0 k) l (fun i => (l, [], (i : Int), x.1, x.2)) (fun y => !strLt y.1 x.1) (fun i => .inl (l, [], (i : Int), x.1, x.2)) (.inl (l, [], (l.length : Int), x.1, x.2)) (fun i hi => by
  have e1 : decide ((i : Int) < (l.length : Int)) = true := by simp; omega
  have e2 : inb? l.length (i : Int) = some i := by rw [Zi, Zn]
  unfold Pdn.b0
  dsimp only
  simp only [e1, Zy, e2, Zo, Zg hi]
  rw [Zw]
  cases strLt l[i].1 x.1 <;> rfl) (by
  have e1 : decide ((l.length : Int) < (l.length : Int)) = false := by simp
  unfold Pdn.b0
  dsimp only
  rw [e1]; rfl) k (by omega)
 have e0 : ((0 : Nat) : Int) = 0 := rfl
 simp only [e0] at key
 rw [key]
 unfold linkI insM
 obtain ⟨t1, t2⟩ := Pue (fun y : LinkT => !strLt y.1 x.1) l
 rw [t1, t2]
 have fin : ∀ i : Nat, i ≤ l.length → Pdn.d0 k (l, [], (i : Int), x.1, x.2) = some (l.take i ++ x :: l.drop i) := fun i hi => by
  unfold Pdn.d0 Pcj.f insF
  rw [if_pos ⟨rfl, by simp, by simp; omega, by simp only; omega⟩]
  simp
 cases h : l.findIdx? (fun y : LinkT => !strLt y.1 x.1) with
 | none => simp only [Zo]; exact fin l.length (Nat.le_refl _)
 | some i =>
  obtain ⟨h1, _⟩ := List.findIdx?_eq_some_iff_getElem.1 h
  simp only [Zo]; exact fin i (by omega)
theorem Pbba {α : Type} {p : α → Option Bool} {q : α → Bool} {l : List α} (hp : ∀ x ∈ l, p x = some (q x)) (hl : l.length ≤ 9223372036854775806) : delG (some (idxOf q l)) p l = some (l.filter fun x => !q x) := by
 unfold delG idxOf
 simp only [Zo]
 cases h : l.findIdx? q with
 | none =>
  have := List.findIdx?_eq_none_iff.1 h
  rw [if_pos rfl, List.filter_eq_self.2 fun x hx => by simp [this x hx]]
 | some i =>
  obtain ⟨h1, h2, h3⟩ := List.findIdx?_eq_some_iff_getElem.1 h
  simp only
  rw [if_neg (by omega), if_pos ⟨by omega, by omega, hl⟩, Zn, Qqa (q := q) fun x hx => hp x (List.mem_of_mem_drop hx)]
  simp only [Option.map_some]
  congr 1
  conv => rhs; rw [← List.take_append_drop i l, List.filter_append, List.drop_eq_getElem_cons h1]
  rw [List.filter_cons, h2]
  simp only [Zx, Bool.false_eq_true, if_false]
  have : (l.take i).filter (fun x => !q x) = l.take i := by
   refine List.filter_eq_self.2 fun x hx => ?_
   obtain ⟨j, hj, rfl⟩ := List.getElem_of_mem hx
   rw [List.length_take] at hj
   simp only [List.getElem_take]
   have := h3 j (by omega)
   simpa using this
  rw [this]
theorem Pbfs {k} (hk : Zk k) (l : List LinkT) (m : MoveT) (hl : l.length ≤ 4194304) : Pad.f k l m = some (l.filter fun x => !(decide (x.1 = m.2.1) || decide (x.1 = m.2.2.1))) := by
 have hp : ∀ x : LinkT, Pdt.f k x m = some (decide (x.1 = m.2.1) || decide (x.1 = m.2.2.1)) := fun x => by
  unfold Pdt.f
  cases decide (x.1 = m.2.1) <;> rfl
 have hi : Pac.f k l m = some (idxOf (fun x => decide (x.1 = m.2.1) || decide (x.1 = m.2.2.1)) l) := by
  unfold Pac.f idxOf
  have key := Qqy (B := Pac.b0 k) l (fun i => (l, 0, (l.length : Int), (i : Int), m)) (fun x => decide (x.1 = m.2.1) || decide (x.1 = m.2.2.1)) (fun i => .inr (i : Int)) (.inl 0) (fun i hi => by
   have e1 : decide ((i : Int) < (l.length : Int)) = true := by simp; omega
   have e2 : inb? l.length (i : Int) = some i := by rw [Zi, Zn]
   unfold Pac.b0
   dsimp only
   simp only [e1, Zy, e2, Zo, Zg hi, Prod.eta, hp]
   rw [Zw]
   rfl) (by
   have e1 : decide ((l.length : Int) < (l.length : Int)) = false := by simp
   unfold Pac.b0
   dsimp only
   rw [e1]; rfl) k (by omega)
  have e0 : ((0 : Nat) : Int) = 0 := rfl
  simp only [e0] at key
  try simp only [Prod.eta]
  rw [key]
  cases l.findIdx? (fun x => decide (x.1 = m.2.1) || decide (x.1 = m.2.2.1)) <;> rfl
 unfold Pad.f
 rw [hi]
 exact Pbba (fun x _ => hp x) (by omega)
def at? (l : List LinkT) (n : Zb) : Int := idxOf (fun x => decide (x.1 = n)) l
def idAt (l : List LinkT) (n : Zb) : Int := match l[(at? l n).toNat]? with | some x => x.2 | none => 0
def Pev (l : List LinkT) (m : MoveT) : List LinkT × Bool :=
 if nameB m.2.1 = false then (l, false)
 else if m.1 = 1 ∧ m.2.2.1 = ⟨#[]⟩ ∧ at? l m.2.1 < 0 then (withS l (m.2.1, m.2.2.2), true)
 else if m.1 = 2 ∧ m.2.2.2 = 0 ∧ 0 ≤ at? l m.2.1 ∧ nameB m.2.2.1 = true ∧ m.2.2.1 ≠ m.2.1 then (withS (Peo l m.2.1) (m.2.2.1, idAt l m.2.1), true)
 else if m.1 = 3 ∧ m.2.2.2 = 0 ∧ m.2.2.1 = ⟨#[]⟩ ∧ 0 ≤ at? l m.2.1 then (Peo l m.2.1, true)
 else (l, false)
def Plx (l : List LinkT) (m : MoveT) : List LinkT × Bool :=
 if m.1 = 1 ∧ m.2.2.1 = ⟨#[]⟩ ∧ at? l m.2.1 < 0 then (linkI l (m.2.1, m.2.2.2), true)
 else if m.1 = 2 ∧ m.2.2.2 = 0 ∧ 0 ≤ at? l m.2.1 ∧ m.2.2.1 ≠ m.2.1 ∧ nameB m.2.2.1 = true then (linkI (l.filter fun x => !(decide (x.1 = m.2.1) || decide (x.1 = m.2.2.1))) (m.2.2.1, idAt l m.2.1), true)
 else if m.1 = 3 ∧ m.2.2.1 = ⟨#[]⟩ ∧ m.2.2.2 = 0 ∧ 0 ≤ at? l m.2.1 then (l.take (at? l m.2.1).toNat ++ l.drop ((at? l m.2.1).toNat + 1), true)
 else (l, false)
theorem Pqk {l : List LinkT} {n : Zb} (h : 0 ≤ at? l n) : inb? l.length (at? l n) = some (at? l n).toNat ∧ ∃ x, l[(at? l n).toNat]? = some x ∧ x.2 = idAt l n := by
 obtain ⟨h1, h2⟩ := Qrh (fun x : LinkT => decide (x.1 = n)) l
 have hlt : (at? l n).toNat < l.length := by unfold at? at *; omega
 refine ⟨Qqx h (by unfold at?; omega), _, Zg hlt, ?_⟩
 unfold idAt
 rw [Zg hlt]
theorem Pvz {k} (hk : Zk k) (l : List LinkT) (m : MoveT) (hl : l.length ≤ 4194000) (h1 : m.2.1.size ≤ 1048576) (h2 : m.2.2.1.size ≤ 1048576) : Pgl.f k l m = some (Pev l m) := by
 have hw : (Peo l m.2.1).length ≤ 4194304 := by have := Plb l m.2.1; omega
 unfold Pgl.f
 rw [Pbfk hk l m.2.1 (by omega), Ptz hk m.2.1 h1, Ptz hk m.2.2.1 h2]
 simp only [Zo, Pze hk l _ (show l.length ≤ 4194304 by omega), Prn hk l _ (show l.length ≤ 4194304 by omega), Pze hk (Peo l m.2.1) _ hw]
 change _ = some (Pev l m)
 have hat : idxOf (fun x => decide (x.1 = m.2.1)) l = at? l m.2.1 := rfl
 rw [hat]
 unfold Pev
 cases hn : nameB m.2.1 with
 | false => simp
 | true =>
  by_cases hp : 0 ≤ at? l m.2.1
  ·obtain ⟨e1, x, e2, e3⟩ := Pqk hp
   have hp' : ¬ at? l m.2.1 < 0 := by omega
   simp only [e1, e2, e3, Zo, hp, hp', decide_true, decide_false, Zx, Zz, Zy]
   by_cases c1 : m.1 = 1 <;> by_cases c2 : m.1 = 2 <;> by_cases c3 : m.1 = 3 <;> by_cases c4 : m.2.2.2 = 0 <;> by_cases c5 : m.2.2.1 = ⟨#[]⟩ <;> by_cases c6 : m.2.2.1 = m.2.1 <;> cases c7 : nameB m.2.2.1 <;> simp [c1, c2, c3, c4, c5, c6, c7] <;> first | (exfalso; omega) | simp_all
  ·have hp' : at? l m.2.1 < 0 := by omega
   simp only [Zo, hp, hp', decide_true, decide_false, Zx, Zz, Zy]
   by_cases c1 : m.1 = 1 <;> by_cases c2 : m.1 = 2 <;> by_cases c3 : m.1 = 3 <;> by_cases c4 : m.2.2.2 = 0 <;> by_cases c5 : m.2.2.1 = ⟨#[]⟩ <;> simp [c1, c2, c3, c4, c5] <;> omega
theorem Pux {k} (hk : Zk k) (l : List LinkT) (m : MoveT) (hl : l.length ≤ 4194000) (h2 : m.2.2.1.size ≤ 1048576) : Pjb.f k l m = some (Plx l m) := by
 unfold Pjb.f Pcu.f
 rw [Qrr (by unfold limOf; simp only [List.length_nil]; omega)]
 simp only [Zo, List.nil_append, Pbff hk l m.2.1 (show l.length ≤ 4194304 by omega), Ptk hk m.2.2.1 h2, Prod.eta, Pbfs hk l m (show l.length ≤ 4194304 by omega), Psl hk l _ (show l.length ≤ 4194304 by omega)]
 have hf : (l.filter fun x => !(decide (x.1 = m.2.1) || decide (x.1 = m.2.2.1))).length ≤ 4194304 := by have := List.length_filter_le (fun x : LinkT => !(decide (x.1 = m.2.1) || decide (x.1 = m.2.2.1))) l; omega
 simp only [Psl hk _ _ hf]
 have hat : idxOf (fun x => decide (x.1 = m.2.1)) l = at? l m.2.1 := rfl
 rw [hat]
 unfold Plx
 by_cases hp : 0 ≤ at? l m.2.1
 ·obtain ⟨e1, x, e2, e3⟩ := Pqk hp
  have hp' : ¬ at? l m.2.1 < 0 := by omega
  obtain ⟨h3, h4⟩ := Qrh (fun x : LinkT => decide (x.1 = m.2.1)) l
  rw [hat] at h3 h4
  have ed : Pao.f k l (at? l m.2.1) (Zr (at? l m.2.1 + 1)) = some (l.take (at? l m.2.1).toNat ++ l.drop ((at? l m.2.1).toNat + 1)) := by
   unfold Pao.f delR
   rw [Zw, if_pos ⟨hp, by omega, by omega⟩, show (at? l m.2.1 + 1).toNat = (at? l m.2.1).toNat + 1 by omega]
  simp only [e1, e2, e3, ed, Zo, hp, hp', decide_true, decide_false, Zx, Zz, Zy]
  by_cases c1 : m.1 = 1 <;> by_cases c2 : m.1 = 2 <;> by_cases c3 : m.1 = 3 <;> by_cases c4 : m.2.2.2 = 0 <;> by_cases c5 : m.2.2.1 = ⟨#[]⟩ <;> by_cases c6 : m.2.2.1 = m.2.1 <;> cases c7 : nameB m.2.2.1 <;> simp [c1, c2, c3, c4, c5, c6, c7] <;> first | (exfalso; omega) | simp_all
 ·have hp' : at? l m.2.1 < 0 := by omega
  simp only [Zo, hp, hp', decide_true, decide_false, Zx, Zz, Zy]
  by_cases c1 : m.1 = 1 <;> by_cases c2 : m.1 = 2 <;> by_cases c3 : m.1 = 3 <;> by_cases c4 : m.2.2.2 = 0 <;> by_cases c5 : m.2.2.1 = ⟨#[]⟩ <;> simp [c1, c2, c3, c4, c5] <;> omega
def rg (a b c : Int) : Bool := decide (b ≤ a) && decide (a ≤ c)
theorem Ply {b : Bool} {x : Option Bool} {y : Bool} (h : b = true → x = some y) : (bif !b then some false else x) = some (b && y) := by
 cases b with
 | true => simpa using h rfl
 | false => rfl
theorem Pqo {a b : Int} {x : Option Bool} {y : Bool} (h : a ≤ b → x = some y) : (bif decide (b < a) then some false else x) = some (decide (a ≤ b) && y) := by
 by_cases c : a ≤ b
 ·have e1 : decide (b < a) = false := by simp; omega
  rw [e1, Zz, h c, Zt c]; rfl
 ·have e1 : decide (b < a) = true := by simp; omega
  rw [e1, Zf c]; rfl
def Ppr (l : List Peg) : Int := l.foldl (fun n x => n + (x.2.1.size : Int)) 0
def amtI (l : List Peg) : Nat := (l.map fun x => x.2.1.size).sum
theorem Pmy : ∀ (l : List Peg) (n : Int), l.foldl (fun n x => n + (x.2.1.size : Int)) n = n + amtI l
 | [], n => by simp [amtI]
 | x :: l, n => by
  rw [List.foldl_cons, Pmy l]
  simp only [amtI, List.map_cons, List.sum_cons]
  omega
theorem Pbaq (l : List Peg) (i : Nat) : amtI (l.take i) ≤ amtI l := by
 have := congrArg amtI (List.take_append_drop i l)
 unfold amtI at *
 rw [List.map_append, List.sum_append] at this
 omega
theorem Pwo {l : List Peg} {i : Nat} (hi : i < l.length) : amtI (l.take i) + l[i].2.1.size ≤ amtI l := by
 have := Pbaq l (i + 1)
 rw [List.take_add_one, Zg hi] at this
 unfold amtI at *
 rw [List.map_append, List.sum_append] at this
 simpa using this
structure Small (d : DiskT) : Prop where
 ino : d.2.2.1.length ≤ 1048576
 dir : d.2.2.2.1.length ≤ 1048576
 mov : d.2.2.2.2.length ≤ 1048576
 amt : amtI d.2.2.1 ≤ 1048576
 dirN : ∀ x ∈ d.2.2.2.1, x.1.size ≤ 1048576
 movN : ∀ x ∈ d.2.2.2.2, x.2.1.size ≤ 1048576 ∧ x.2.2.1.size ≤ 1048576
theorem Pbcn {k} (hk : Zk k) (d : DiskT) (hs : Small d) : Ped.f k d = some (Ppr d.2.2.1) := by
 unfold Ped.f
 have ha := hs.amt
 have hl := hs.ino
 have key := Qqp (B := Ped.b0 k) d.2.2.1 (fun i a => (0, a, (i : Int), d)) (fun n x => n + (x.2.1.size : Int)) (fun a => .inl (0, a)) 0 (fun i hi => by
  have e1 : decide ((i : Int) < (d.2.2.1.length : Int)) = true := by simp; omega
  have e2 : inb? d.2.2.1.length (i : Int) = some i := by rw [Zi, Zn]
  have hb := Pwo hi
  rw [Pmy]
  unfold Ped.b0
  dsimp only
  simp only [e1, Zy, e2, Zo, Zg hi]
  rw [Zw, Zw]
  rfl) (by
  have e1 : decide ((d.2.2.1.length : Int) < (d.2.2.1.length : Int)) = false := by simp
  unfold Ped.b0
  dsimp only
  rw [e1]; rfl) k (by omega)
 have e0 : ((0 : Nat) : Int) = 0 := rfl
 simp only [e0] at key
 try simp only [Prod.eta]
 rw [key]; rfl
theorem Pbbk {k} (hk : Zk k) (d : DiskT) (hs : Small d) : Pde.f k d = some (Ppr d.2.2.1) := by
 unfold Pde.f
 have ha := hs.amt
 have hl := hs.ino
 have key := Qqp (B := Pde.b0 k) d.2.2.1 (fun i a => (0, a, d.2.2.1, (d.2.2.1.length : Int), (i : Int))) (fun n x => n + (x.2.1.size : Int)) (fun a => .inl (0, a)) 0 (fun i hi => by
  have e1 : decide ((i : Int) < (d.2.2.1.length : Int)) = true := by simp; omega
  have e2 : inb? d.2.2.1.length (i : Int) = some i := by rw [Zi, Zn]
  have hb := Pwo hi
  rw [Pmy]
  unfold Pde.b0
  dsimp only
  simp only [e1, Zy, e2, Zo, Zg hi]
  rw [Zw, Zw]
  rfl) (by
  have e1 : decide ((d.2.2.1.length : Int) < (d.2.2.1.length : Int)) = false := by simp
  unfold Pde.b0
  dsimp only
  rw [e1]; rfl) k (by omega)
 have e0 : ((0 : Nat) : Int) = 0 := rfl
 simp only [e0] at key
 rw [key]; rfl
def upI (l : List Peg) (i : Nat) : Bool := decide (i = 0) || match l[i - 1]?, l[i]? with | some y, some x => decide (y.1 < x.1) | _, _ => false
def upD (l : List LinkT) (i : Nat) : Bool := decide (i = 0) || match l[i - 1]?, l[i]? with | some y, some x => strLt y.1 x.1 | _, _ => false
def hasI (d : DiskT) (n : Int) : Bool := !decide (idxOf (fun x => decide (x.1 = n)) d.2.2.1 < 0)
def madeB (l : List MoveT) (n : Int) : Bool := l.any fun x => decide (x.1 = 1) && decide (x.2.2.2 = n)
def linkB (l : List LinkT) (n : Int) : Bool := l.any fun x => decide (x.2 = n)
def pI (d : DiskT) (i : Nat) : Bool := match d.2.2.1[i]? with
 | some x => rg x.1 1 (d.2.1 - 1) && (rg x.2.2 0 (x.2.1.size : Int) && upI d.2.2.1 i)
 | none => false
def pIS (d : DiskT) (i : Nat) : Bool := match d.2.2.1[i]? with
 | some x => rg x.1 1 (d.2.1 - 1) && (rg x.2.2 0 (x.2.1.size : Int) && (upI d.2.2.1 i && (linkB d.2.2.2.1 x.1 || madeB d.2.2.2.2 x.1)))
 | none => false
def pD (d : DiskT) (i : Nat) : Bool := match d.2.2.2.1[i]? with
 | some x => nameB x.1 && (upD d.2.2.2.1 i && (hasI d x.2 && !linkB (d.2.2.2.1.take i) x.2))
 | none => false
def Pfn (dir : List LinkT) (ms : List MoveT) : List LinkT := ms.foldl (fun l m => (Pev l m).1) dir
def Plc (dir : List LinkT) (ms : List MoveT) : List LinkT := ms.foldl (fun l m => (Plx l m).1) dir
def makes (ms : List MoveT) : List Int := (ms.filter fun m => decide (m.1 = 1)).map (·.2.2.2)
def pMS (d : DiskT) (i : Nat) : Bool := match d.2.2.2.2[i]? with
 | some m => (!decide (m.1 = 1) || (hasI d m.2.2.2 && (!linkB d.2.2.2.1 m.2.2.2 && !madeB (d.2.2.2.2.take i) m.2.2.2))) && (Pev (Pfn d.2.2.2.1 (d.2.2.2.2.take i)) m).2
 | none => false
def pMI (d : DiskT) (i : Nat) : Bool := match d.2.2.2.2[i]? with
 | some m => (Plx (Plc d.2.2.2.1 (d.2.2.2.2.take i)) m).2 && (nameB m.2.1 && (!decide (m.1 = 1) || (hasI d m.2.2.2 && !decide (m.2.2.2 ∈ d.2.2.2.1.map (·.2) ++ makes (d.2.2.2.2.take i)))))
 | none => false
def diskS (d : DiskT) : Bool :=
 rg d.1 0 1048576 && (rg d.2.1 1 1000000 && (decide ((d.2.2.1.length : Int) ≤ 10) && (decide ((d.2.2.2.2.length : Int) ≤ 20) && (decide ((d.2.2.2.1.length : Int) ≤ 10) && (decide (Ppr d.2.2.1 ≤ d.1) &&
  ((List.range d.2.2.1.length).all (pIS d) && ((List.range d.2.2.2.1.length).all (pD d) && (List.range d.2.2.2.2.length).all (pMS d))))))))
def diskI (d : DiskT) : Bool :=
 rg d.1 0 1048576 && (rg d.2.1 1 1000000 && (decide ((d.2.2.1.length : Int) ≤ 10) && (decide (Ppr d.2.2.1 ≤ d.1) && (decide ((d.2.2.2.2.length : Int) ≤ 20) &&
  ((List.range d.2.2.1.length).all (pI d) && ((List.range d.2.2.2.1.length).all (pD d) && ((List.range d.2.2.2.2.length).all (pMI d) && decide (((d.2.2.2.1.map (·.2) ++ makes d.2.2.2.2).length : Int) = (d.2.2.1.length : Int)))))))))
theorem Pna : ∀ (ms : List MoveT) (l : List LinkT), (Pfn l ms).length ≤ l.length + ms.length
 | [], l => by simp [Pfn]
 | m :: ms, l => by
  have h := Pna ms (Pev l m).1
  have h2 : (Pev l m).1.length ≤ l.length + 1 := by
   unfold Pev withS
   have w1 := Plb l m.2.1
   have w2 := Plb (Peo l m.2.1) m.2.2.1
   have w3 := Plb l (m.2.1, m.2.2.2).1
   split
   ·simp
   ·split
    ·simp only [Pql]; omega
    ·split
     ·simp only [Pql]; omega
     ·split
      ·simp only; omega
      ·simp
  simp only [Pfn, List.foldl_cons, Zl] at h ⊢
  omega
theorem Ppg : ∀ (ms : List MoveT) (l : List LinkT), (Plc l ms).length ≤ l.length + ms.length
 | [], l => by simp [Plc]
 | m :: ms, l => by
  have h := Ppg ms (Plx l m).1
  have h2 : (Plx l m).1.length ≤ l.length + 1 := by
   unfold Plx linkI
   have w1 := List.length_filter_le (fun x : LinkT => !(decide (x.1 = m.2.1) || decide (x.1 = m.2.2.1))) l
   split
   ·simp only [Pql]; omega
   ·split
    ·simp only [Pql]; omega
    ·split
     ·simp only [List.length_append, List.length_take, List.length_drop]; omega
     ·simp
  simp only [Plc, List.foldl_cons, Zl] at h ⊢
  omega
theorem Pnt {dir : List LinkT} {ms : List MoveT} {i : Nat} (hi : i < ms.length) : Pfn dir (ms.take (i + 1)) = (Pev (Pfn dir (ms.take i)) ms[i]).1 := by
 unfold Pfn
 rw [List.take_add_one, Zg hi, Option.toList_some, List.foldl_append]; rfl
theorem Pra {dir : List LinkT} {ms : List MoveT} {i : Nat} (hi : i < ms.length) : Plc dir (ms.take (i + 1)) = (Plx (Plc dir (ms.take i)) ms[i]).1 := by
 unfold Plc
 rw [List.take_add_one, Zg hi, Option.toList_some, List.foldl_append]; rfl
theorem Pst {ms : List MoveT} {i : Nat} (hi : i < ms.length) : makes (ms.take (i + 1)) = if ms[i].1 = 1 then makes (ms.take i) ++ [ms[i].2.2.2] else makes (ms.take i) := by
 unfold makes
 rw [List.take_add_one, Zg hi, Option.toList_some, List.filter_append, List.map_append]
 by_cases h : ms[i].1 = 1 <;> simp [h]
theorem Pbcd (ms : List MoveT) : (makes ms).length ≤ ms.length := by
 unfold makes; rw [List.length_map]; exact List.length_filter_le _ _
theorem Pbfe (a b : Int) : decide (a ≤ b) = !decide (b < a) := by
 by_cases h : b < a
 ·have : ¬ a ≤ b := by omega
  simp [h, this]
 ·have : a ≤ b := by omega
  simp [h, this]
theorem Pda {n : Nat} {p : Nat → Bool} : (List.range n).all p = true ↔ ∀ i, i < n → p i = true := by
 rw [List.all_eq_true]
 exact ⟨fun h i hi => h i (List.mem_range.2 hi), fun h i hi => h i (List.mem_range.1 hi)⟩
theorem Pbeg {k} (hk : Zk k) (d : DiskT) (hs : Small d) (hn : 1 ≤ d.2.1) (hn2 : d.2.1 ≤ 1000000) (i : Nat) (hi : i < d.2.2.1.length) :
  Pav.b0 k (false, (i : Int), d) = if pIS d i then some (.inl (false, ((i + 1 : Nat) : Int), d)) else some (.inr (.inr false)) := by
 have hl := hs.ino
 have e1 : decide ((i : Int) < (d.2.2.1.length : Int)) = true := by simp; omega
 have e2 : inb? d.2.2.1.length (i : Int) = some i := by rw [Zi, Zn]
 unfold Pav.b0 pIS
 dsimp only
 simp only [e1, Zy, e2, Zo, Zg hi, Ptl, Pnd hk _ _ (show d.2.2.2.1.length ≤ 4194304 by have := hs.dir; omega), Pzc hk _ _ (show d.2.2.2.2.length ≤ 4194304 by have := hs.mov; omega), Prod.eta]
 simp (disch := omega) only [Zv]
 obtain ⟨x, hx⟩ : ∃ x, d.2.2.1[i] = x := ⟨_, rfl⟩
 have hx? : d.2.2.1[i]? = some x := by rw [Zg hi, hx]
 rw [hx]
 have eL : (d.2.2.2.1.any fun y => decide (y.2 = x.1)) = linkB d.2.2.2.1 x.1 := rfl
 have eM : (d.2.2.2.2.any fun y => decide (y.1 = 1) && decide (y.2.2.2 = x.1)) = madeB d.2.2.2.2 x.1 := rfl
 have eA : (decide (1 ≤ x.1) && decide (x.1 ≤ d.2.1 - 1)) = rg x.1 1 (d.2.1 - 1) := rfl
 have eB : (decide (0 ≤ x.2.2) && decide (x.2.2 ≤ (x.2.1.size : Int))) = rg x.2.2 0 (x.2.1.size : Int) := rfl
 rw [eL, eM, eA, eB]
 by_cases h0 : i = 0
 ·subst h0
  have e3 : decide (0 < ((0 : Nat) : Int)) = false := by simp
  have eu : upI d.2.2.1 0 = true := rfl
  rw [e3, eu]
  cases rg x.1 1 (d.2.1 - 1) <;> cases rg x.2.2 0 (x.2.1.size : Int) <;> cases linkB d.2.2.2.1 x.1 <;> cases madeB d.2.2.2.2 x.1 <;> rfl
 ·have e3 : decide (0 < (i : Int)) = true := by simp; omega
  have e4 : inb? d.2.2.1.length ((i : Int) - 1) = some (i - 1) := by
   rw [Zi]; congr 1; omega
  have hi1 : i - 1 < d.2.2.1.length := by omega
  obtain ⟨y, hy⟩ : ∃ y, d.2.2.1[i - 1] = y := ⟨_, rfl⟩
  have hy? : d.2.2.1[i - 1]? = some y := by rw [Zg hi1, hy]
  have eu : upI d.2.2.1 i = decide (y.1 < x.1) := by unfold upI; rw [hx?, hy?, Zf h0]; rfl
  rw [e3, eu]
  simp only [Zy, e4, Zo, hy?, Pbfe x.1 y.1]
  cases rg x.1 1 (d.2.1 - 1) <;> cases rg x.2.2 0 (x.2.1.size : Int) <;> cases linkB d.2.2.2.1 x.1 <;> cases madeB d.2.2.2.2 x.1 <;> cases decide (y.1 < x.1) <;> rfl
theorem Pbdt {k} (hk : Zk k) (d : DiskT) (hs : Small d) (i : Nat) (hi : i < d.2.2.2.1.length) :
  Pav.b1 k (false, (i : Int), d) = if pD d i then some (.inl (false, ((i + 1 : Nat) : Int), d)) else some (.inr (.inr false)) := by
 have hl := hs.dir
 have e1 : decide ((i : Int) < (d.2.2.2.1.length : Int)) = true := by simp; omega
 have e2 : inb? d.2.2.2.1.length (i : Int) = some i := by rw [Zi, Zn]
 have e5 : cut? d.2.2.2.1.length 0 (i : Int) = some (0, i) := by rw [Zc]; simp
 have htl : ((d.2.2.2.1.take i).drop 0).length ≤ 4194304 := by simp; omega
 unfold Pav.b1 pD
 dsimp only
 simp only [e1, Zy, e2, Zo, Zg hi, Ptz hk _ (hs.dirN _ (List.getElem_mem hi)), Prod.eta, e5, Prm hk d _ hs.ino, Pnd hk _ _ htl]
 simp (disch := omega) only [Zv]
 obtain ⟨x, hx⟩ : ∃ x, d.2.2.2.1[i] = x := ⟨_, rfl⟩
 have hx? : d.2.2.2.1[i]? = some x := by rw [Zg hi, hx]
 rw [hx]
 have eL : (((d.2.2.2.1.take i).drop 0).any fun y => decide (y.2 = x.2)) = linkB (d.2.2.2.1.take i) x.2 := rfl
 have eH : decide (idxOf (fun y => decide (y.1 = x.2)) d.2.2.1 < 0) = !hasI d x.2 := by unfold hasI; rw [Bool.not_not]
 rw [eL, eH]
 by_cases h0 : i = 0
 ·subst h0
  have e3 : decide (0 < ((0 : Nat) : Int)) = false := by simp
  have eu : upD d.2.2.2.1 0 = true := rfl
  rw [e3, eu]
  cases nameB x.1 <;> cases hasI d x.2 <;> cases linkB (d.2.2.2.1.take 0) x.2 <;> rfl
 ·have e3 : decide (0 < (i : Int)) = true := by simp; omega
  have e4 : inb? d.2.2.2.1.length ((i : Int) - 1) = some (i - 1) := by
   rw [Zi]; congr 1; omega
  have hi1 : i - 1 < d.2.2.2.1.length := by omega
  obtain ⟨y, hy⟩ : ∃ y, d.2.2.2.1[i - 1] = y := ⟨_, rfl⟩
  have hy? : d.2.2.2.1[i - 1]? = some y := by rw [Zg hi1, hy]
  have eu : upD d.2.2.2.1 i = strLt y.1 x.1 := by unfold upD; rw [hx?, hy?, Zf h0]; rfl
  rw [e3, eu]
  simp only [Zy, e4, Zo, hy?]
  cases nameB x.1 <;> cases hasI d x.2 <;> cases linkB (d.2.2.2.1.take i) x.2 <;> cases strLt y.1 x.1 <;> rfl
theorem Pbei {k} (hk : Zk k) (d : DiskT) (hs : Small d) (hd : d.2.2.2.1.length ≤ 10) (hm : d.2.2.2.2.length ≤ 20) (i : Nat) (hi : i < d.2.2.2.2.length) :
  Pav.b2 k (false, Pfn d.2.2.2.1 (d.2.2.2.2.take i), (i : Int), d) = if pMS d i then some (.inl (false, Pfn d.2.2.2.1 (d.2.2.2.2.take (i + 1)), ((i + 1 : Nat) : Int), d)) else some (.inr (.inr false)) := by
 have e1 : decide ((i : Int) < (d.2.2.2.2.length : Int)) = true := by simp; omega
 have e2 : inb? d.2.2.2.2.length (i : Int) = some i := by rw [Zi, Zn]
 have e5 : cut? d.2.2.2.2.length 0 (i : Int) = some (0, i) := by rw [Zc]; simp
 have htl : ((d.2.2.2.2.take i).drop 0).length ≤ 4194304 := by simp; omega
 have hll := Pna (d.2.2.2.2.take i) d.2.2.2.1
 rw [List.length_take] at hll
 obtain ⟨n1, n2⟩ := hs.movN _ (List.getElem_mem hi)
 rw [Pnt hi]
 obtain ⟨l, hl⟩ : ∃ l, Pfn d.2.2.2.1 (d.2.2.2.2.take i) = l := ⟨_, rfl⟩
 unfold Pav.b2 pMS
 rw [hl] at hll ⊢
 obtain ⟨m, hm'⟩ : ∃ m, d.2.2.2.2[i] = m := ⟨_, rfl⟩
 have hm? : d.2.2.2.2[i]? = some m := by rw [Zg hi, hm']
 rw [hm'] at n1 n2 ⊢
 dsimp only
 simp only [e1, Zy, e2, Zo, hm?, Prod.eta, e5, Prm hk d _ hs.ino, Pnd hk _ _ (show d.2.2.2.1.length ≤ 4194304 by have := hs.dir; omega), Pzc hk _ _ htl]
 have eL : (d.2.2.2.1.any fun y => decide (y.2 = m.2.2.2)) = linkB d.2.2.2.1 m.2.2.2 := rfl
 have eM : (((d.2.2.2.2.take i).drop 0).any fun y => decide (y.1 = 1) && decide (y.2.2.2 = m.2.2.2)) = madeB (d.2.2.2.2.take i) m.2.2.2 := rfl
 have eH : decide (idxOf (fun y => decide (y.1 = m.2.2.2)) d.2.2.1 < 0) = !hasI d m.2.2.2 := by unfold hasI; rw [Bool.not_not]
 rw [eL, eM, eH]
 have ec : Pav.c0 k (false, l, (i : Int), d, m) = if (Pev l m).2 then some (.inl (false, (Pev l m).1, ((i + 1 : Nat) : Int), d)) else some (.inr (.inr false)) := by
  unfold Pav.c0
  dsimp only
  simp only [Prod.eta, Pvz hk l m (by omega) n1 n2, Zo]
  rw [Zw]
  cases (Pev l m).2 <;> rfl
 cases decide (m.1 = 1) <;> cases linkB d.2.2.2.1 m.2.2.2 <;> cases madeB (d.2.2.2.2.take i) m.2.2.2 <;> cases hasI d m.2.2.2 <;> simp [ec]
theorem Psw {k} (hk : Zk k) (d : DiskT) (hs : Small d) : Pav.f k d = some (diskS d) := by
 unfold Pav.f diskS
 simp only [Ptl, Zo, Prod.eta, Pbcn hk d hs]
 refine Ply fun h1 => Ply fun h2 => Pqo fun h3 => Pqo fun h4 => Pqo fun h5 => Pqo fun h6 => ?_
 simp only [Zd, Zq] at h2
 have hl := hs.ino
 have key := Qqt (B := Pav.b0 k) d.2.2.1.length (fun i => (false, (i : Int), d)) (pIS d) (.inl (false, d)) (.inr false) (fun i hi _ => Pbeg hk d hs h2.1 h2.2 i hi) (fun _ => by
  have e1 : decide ((d.2.2.1.length : Int) < (d.2.2.1.length : Int)) = false := by simp
  unfold Pav.b0
  dsimp only
  rw [e1]; rfl) k (by omega)
 have key1 := Qqt (B := Pav.b1 k) d.2.2.2.1.length (fun i => (false, (i : Int), d)) (pD d) (.inl (false, d)) (.inr false) (fun i hi _ => Pbdt hk d hs i hi) (fun _ => by
  have e1 : decide ((d.2.2.2.1.length : Int) < (d.2.2.2.1.length : Int)) = false := by simp
  unfold Pav.b1
  dsimp only
  rw [e1]; rfl) k (by omega)
 have key2 := Qqt (B := Pav.b2 k) d.2.2.2.2.length (fun i => (false, Pfn d.2.2.2.1 (d.2.2.2.2.take i), (i : Int), d)) (pMS d) (.inl false) (.inr false) (fun i hi _ => Pbei hk d hs (by omega) (by omega) i hi) (fun _ => by
  have e1 : decide ((d.2.2.2.2.length : Int) < (d.2.2.2.2.length : Int)) = false := by simp
  unfold Pav.b2
  dsimp only
  rw [e1]; rfl) k (by omega)
 have e0 : ((0 : Nat) : Int) = 0 := rfl
 simp only [e0, List.take_zero] at key key1 key2
 rw [key]
 cases (List.range d.2.2.1.length).all (pIS d) with
 | false => rfl
 | true =>
  simp only [if_true, Zo, Bool.true_and]
  unfold Pav.d0
  simp only [Prod.eta]
  rw [key1]
  cases (List.range d.2.2.2.1.length).all (pD d) with
  | false => rfl
  | true =>
   simp only [if_true, Zo, Bool.true_and]
   unfold Pav.d1
   dsimp only
   rw [Qrr (by unfold limOf; simp only [List.length_nil]; omega)]
   simp only [Zo, List.nil_append, Prod.eta]
   have e7 : Pfn d.2.2.2.1 [] = d.2.2.2.1 := rfl
   rw [e7] at key2
   rw [key2]
   cases (List.range d.2.2.2.2.length).all (pMS d) <;> rfl
theorem Pbbu {k} (hk : Zk k) (d : DiskT) (hs : Small d) (hn : 1 ≤ d.2.1) (hn2 : d.2.1 ≤ 1000000) (i : Nat) (hi : i < d.2.2.1.length) :
  Pcl.b0 k (false, d.2.2.1, (d.2.2.1.length : Int), (i : Int), d) = if pI d i then some (.inl (false, d.2.2.1, (d.2.2.1.length : Int), ((i + 1 : Nat) : Int), d)) else some (.inr (.inr false)) := by
 have hl := hs.ino
 have e1 : decide ((i : Int) < (d.2.2.1.length : Int)) = true := by simp; omega
 have e2 : inb? d.2.2.1.length (i : Int) = some i := by rw [Zi, Zn]
 unfold Pcl.b0 pI
 dsimp only
 simp only [e1, Zy, e2, Zo, Zg hi, Pdr, Prod.eta]
 simp (disch := omega) only [Zv]
 obtain ⟨x, hx⟩ : ∃ x, d.2.2.1[i] = x := ⟨_, rfl⟩
 have hx? : d.2.2.1[i]? = some x := by rw [Zg hi, hx]
 rw [hx]
 have eA : (decide (1 ≤ x.1) && decide (x.1 ≤ d.2.1 - 1)) = rg x.1 1 (d.2.1 - 1) := rfl
 have eB : (decide (0 ≤ x.2.2) && decide (x.2.2 ≤ (x.2.1.size : Int))) = rg x.2.2 0 (x.2.1.size : Int) := rfl
 rw [eA, eB]
 by_cases h0 : i = 0
 ·subst h0
  have e3 : decide (0 < ((0 : Nat) : Int)) = false := by simp
  have eu : upI d.2.2.1 0 = true := rfl
  rw [e3, eu]
  cases rg x.1 1 (d.2.1 - 1) <;> cases rg x.2.2 0 (x.2.1.size : Int) <;> rfl
 ·have e3 : decide (0 < (i : Int)) = true := by simp; omega
  have e4 : inb? d.2.2.1.length ((i : Int) - 1) = some (i - 1) := by
   rw [Zi]; congr 1; omega
  have hi1 : i - 1 < d.2.2.1.length := by omega
  obtain ⟨y, hy⟩ : ∃ y, d.2.2.1[i - 1] = y := ⟨_, rfl⟩
  have hy? : d.2.2.1[i - 1]? = some y := by rw [Zg hi1, hy]
  have eu : upI d.2.2.1 i = decide (y.1 < x.1) := by unfold upI; rw [hx?, hy?, Zf h0]; rfl
  rw [e3, eu]
  simp only [Zy, e4, Zo, hy?, Pbfe x.1 y.1]
  cases rg x.1 1 (d.2.1 - 1) <;> cases rg x.2.2 0 (x.2.1.size : Int) <;> cases decide (y.1 < x.1) <;> rfl
def idsD (d : DiskT) (i : Nat) : List Int := (d.2.2.2.1.take i).map (·.2)
theorem Pbdw {d : DiskT} {i : Nat} {n : Int} : decide (n ∈ idsD d i) = linkB (d.2.2.2.1.take i) n := by
 unfold idsD linkB
 cases h : (d.2.2.2.1.take i).any fun x => decide (x.2 = n) with
 | true =>
  obtain ⟨x, hx, hp⟩ := List.any_eq_true.1 h
  rw [Zq, List.mem_map]
  exact ⟨x, hx, of_decide_eq_true hp⟩
 | false =>
  rw [decide_eq_false_iff_not, List.mem_map]
  rintro ⟨x, hx, rfl⟩
  rw [List.any_eq_true.2 ⟨x, hx, by simp⟩] at h; cases h
theorem Pbbb {k} (hk : Zk k) (d : DiskT) (hs : Small d) (i : Nat) (hi : i < d.2.2.2.1.length) :
  Paq.b0 k (false, idsD d i, d.2.2.2.1, (d.2.2.2.1.length : Int), (i : Int), d) = if pD d i then some (.inl (false, idsD d (i + 1), d.2.2.2.1, (d.2.2.2.1.length : Int), ((i + 1 : Nat) : Int), d)) else some (.inr (.inr false)) := by
 have hl := hs.dir
 have e1 : decide ((i : Int) < (d.2.2.2.1.length : Int)) = true := by simp; omega
 have e2 : inb? d.2.2.2.1.length (i : Int) = some i := by rw [Zi, Zn]
 have hil : (idsD d i).length ≤ 1048576 := by unfold idsD; simp; omega
 have hsu : idsD d (i + 1) = idsD d i ++ [d.2.2.2.1[i].2] := by
  unfold idsD; rw [List.take_add_one, Zg hi, Option.toList_some, List.map_append]; rfl
 rw [hsu]
 unfold Paq.b0 pD Paq.c0
 dsimp only
 simp only [e1, Zy, e2, Zo, Zg hi, Ptk hk _ (hs.dirN _ (List.getElem_mem hi)), Prod.eta, Pqy hk d _ hs.ino, Ppt hk (idsD d i) _ (show (idsD d i).length ≤ 4194304 by omega), Pbdw]
 simp (disch := omega) only [Zv]
 obtain ⟨x, hx⟩ : ∃ x, d.2.2.2.1[i] = x := ⟨_, rfl⟩
 have hx? : d.2.2.2.1[i]? = some x := by rw [Zg hi, hx]
 rw [hx]
 have eH : decide (idxOf (fun y => decide (y.1 = x.2)) d.2.2.1 < 0) = !hasI d x.2 := by unfold hasI; rw [Bool.not_not]
 have ea : app? (limOf 8) (idsD d i) [x.2] = some (idsD d i ++ [x.2]) := Qrr (by unfold limOf; simp only [Zl, List.length_nil]; omega)
 rw [eH]
 by_cases h0 : i = 0
 ·subst h0
  have e3 : decide (0 < ((0 : Nat) : Int)) = false := by simp
  have eu : upD d.2.2.2.1 0 = true := rfl
  rw [e3, eu]
  cases nameB x.1 <;> cases hasI d x.2 <;> cases linkB (d.2.2.2.1.take 0) x.2 <;> simp [ea, show Zr 1 = 1 from rfl]
 ·have e3 : decide (0 < (i : Int)) = true := by simp; omega
  have ew : Zr ((i : Int) + 1) = i + 1 := Zw
  have e4 : inb? d.2.2.2.1.length ((i : Int) - 1) = some (i - 1) := by
   rw [Zi]; congr 1; omega
  have hi1 : i - 1 < d.2.2.2.1.length := by omega
  obtain ⟨y, hy⟩ : ∃ y, d.2.2.2.1[i - 1] = y := ⟨_, rfl⟩
  have hy? : d.2.2.2.1[i - 1]? = some y := by rw [Zg hi1, hy]
  have eu : upD d.2.2.2.1 i = strLt y.1 x.1 := by unfold upD; rw [hx?, hy?, Zf h0]; rfl
  rw [e3, eu]
  simp only [Zy, e4, Zo, hy?]
  cases nameB x.1 <;> cases hasI d x.2 <;> cases linkB (d.2.2.2.1.take i) x.2 <;> cases strLt y.1 x.1 <;> simp [ea, ew]
def idsM (d : DiskT) (i : Nat) : List Int := d.2.2.2.1.map (·.2) ++ makes (d.2.2.2.2.take i)
theorem Pbcf {k} (hk : Zk k) (d : DiskT) (hs : Small d) (hm : d.2.2.2.2.length ≤ 20) (i : Nat) (hi : i < d.2.2.2.2.length) :
  Paq.b1 k (false, idsM d i, Plc d.2.2.2.1 (d.2.2.2.2.take i), d.2.2.2.2, (d.2.2.2.2.length : Int), (i : Int), d) = if pMI d i then some (.inl (false, idsM d (i + 1), Plc d.2.2.2.1 (d.2.2.2.2.take (i + 1)), d.2.2.2.2, (d.2.2.2.2.length : Int), ((i + 1 : Nat) : Int), d)) else some (.inr (.inr false)) := by
 have e1 : decide ((i : Int) < (d.2.2.2.2.length : Int)) = true := by simp; omega
 have e2 : inb? d.2.2.2.2.length (i : Int) = some i := by rw [Zi, Zn]
 have hll := Ppg (d.2.2.2.2.take i) d.2.2.2.1
 rw [List.length_take] at hll
 have hml := Pbcd (d.2.2.2.2.take i)
 rw [List.length_take] at hml
 have hdl := hs.dir
 have hil : (idsM d i).length ≤ 4194304 := by unfold idsM; simp only [List.length_append, List.length_map]; omega
 obtain ⟨n1, n2⟩ := hs.movN _ (List.getElem_mem hi)
 have hsu : idsM d (i + 1) = if d.2.2.2.2[i].1 = 1 then idsM d i ++ [d.2.2.2.2[i].2.2.2] else idsM d i := by
  unfold idsM; rw [Pst hi]; split <;> simp
 have eI : (d.2.2.2.1.map (·.2) ++ makes (d.2.2.2.2.take i)) = idsM d i := rfl
 unfold Paq.b1 pMI
 rw [Pra hi, hsu]
 rw [eI]
 obtain ⟨l, hl⟩ : ∃ l, Plc d.2.2.2.1 (d.2.2.2.2.take i) = l := ⟨_, rfl⟩
 rw [hl] at hll ⊢
 obtain ⟨m, hm'⟩ : ∃ m, d.2.2.2.2[i] = m := ⟨_, rfl⟩
 have hm? : d.2.2.2.2[i]? = some m := by rw [Zg hi, hm']
 rw [hm'] at n1 n2 ⊢
 dsimp only
 simp only [e1, Zy, e2, Zo, hm?, Prod.eta, Pux hk l m (by omega) n2, Ptk hk _ n1, Pqy hk d _ hs.ino, Ppt hk (idsM d i) _ (show (idsM d i).length ≤ 4194304 by omega)]
 simp (disch := omega) only [Zv]
 have ea : app? (limOf 8) (idsM d i) [m.2.2.2] = some (idsM d i ++ [m.2.2.2]) := Qrr (by unfold limOf; simp only [Zl, List.length_nil]; omega)
 have eH : decide (idxOf (fun y => decide (y.1 = m.2.2.2)) d.2.2.1 < 0) = !hasI d m.2.2.2 := by unfold hasI; rw [Bool.not_not]
 rw [eH, ea]
 by_cases c : m.1 = 1 <;> cases (Plx l m).2 <;> cases nameB m.2.1 <;> cases hasI d m.2.2.2 <;> cases decide (m.2.2.2 ∈ idsM d i) <;> simp [c]
theorem Pva {k} (hk : Zk k) (d : DiskT) (hs : Small d) : Pcl.f k d = some (diskI d) := by
 unfold Pcl.f diskI
 simp only [Pdr, Zo, Prod.eta, Pbbk hk d hs]
 refine Ply fun h1 => Ply fun h2 => Pqo fun h3 => Pqo fun h4 => Pqo fun h5 => ?_
 simp only [Zd, Zq] at h2
 have hl := hs.ino
 have hdl := hs.dir
 have key := Qqt (B := Pcl.b0 k) d.2.2.1.length (fun i => (false, d.2.2.1, (d.2.2.1.length : Int), (i : Int), d)) (pI d) (.inl (false, d)) (.inr false) (fun i hi _ => Pbbu hk d hs h2.1 h2.2 i hi) (fun _ => by
  have e1 : decide ((d.2.2.1.length : Int) < (d.2.2.1.length : Int)) = false := by simp
  unfold Pcl.b0
  dsimp only
  rw [e1]; rfl) k (by omega)
 have key1 := Qqt (B := Paq.b0 k) d.2.2.2.1.length (fun i => (false, idsD d i, d.2.2.2.1, (d.2.2.2.1.length : Int), (i : Int), d)) (pD d) (.inl (false, idsM d 0, d)) (.inr false) (fun i hi _ => Pbbb hk d hs i hi) (fun _ => by
  have e1 : decide ((d.2.2.2.1.length : Int) < (d.2.2.2.1.length : Int)) = false := by simp
  unfold Paq.b0
  dsimp only
  rw [e1]
  simp [idsD, idsM, makes]) k (by omega)
 have e0 : ((0 : Nat) : Int) = 0 := rfl
 simp only [e0] at key key1
 rw [key]
 cases (List.range d.2.2.1.length).all (pI d) with
 | false => rfl
 | true =>
  simp only [if_true, Zo, Bool.true_and]
  unfold Pcl.d0 Paq.f
  simp only [Prod.eta]
  have ei : idsD d 0 = [] := rfl
  rw [ei] at key1
  rw [key1]
  cases hD : (List.range d.2.2.2.1.length).all (pD d) with
  | false => rfl
  | true =>
   -- names that rise are few
   simp only [if_true, Zo, Bool.true_and]
   unfold Paq.d0 Pcu.f
   dsimp only
   rw [Qrr (by unfold limOf; simp only [List.length_nil]; omega)]
   simp only [Zo, List.nil_append, Prod.eta]
   ·have key2 := Qqt (B := Paq.b1 k) d.2.2.2.2.length (fun i => (false, idsM d i, Plc d.2.2.2.1 (d.2.2.2.2.take i), d.2.2.2.2, (d.2.2.2.2.length : Int), (i : Int), d)) (pMI d) (.inl (false, idsM d d.2.2.2.2.length, d)) (.inr false) (fun i hi _ => Pbcf hk d hs (by omega) i hi) (fun _ => by
     have e1 : decide ((d.2.2.2.2.length : Int) < (d.2.2.2.2.length : Int)) = false := by simp
     unfold Paq.b1
     dsimp only
     rw [e1]; rfl) k (by omega)
    simp only [e0, List.take_zero] at key2
    have e7 : Plc d.2.2.2.1 [] = d.2.2.2.1 := rfl
    rw [e7] at key2
    rw [key2]
    cases (List.range d.2.2.2.2.length).all (pMI d) with
    | false => rfl
    | true =>
     simp only [if_true, Zo, Bool.true_and]
     unfold Paq.d1
     dsimp only
     unfold idsM
     rw [List.take_length]
     rfl
theorem Pnx : ∀ (x y : List UInt8), Op.bytesLess x y = decide (x < y)
 | [], [] => by simp [Op.bytesLess]
 | _ :: _, [] => by simp [Op.bytesLess]
 | [], _ :: _ => by simp [Op.bytesLess]
 | a :: x, b :: y => by
  rw [Op.bytesLess, Pnx x y]
  simp only [List.cons_lt_cons_iff]
  by_cases h1 : a < b <;> by_cases h2 : a = b <;> by_cases h3 : x < y <;> simp [h1, h2, h3]
theorem Pop (a b : Zb) : strLt a b = decide (a.toList < b.toList) := by
 unfold strLt; exact Pnx _ _
theorem Pbcx (a : Zb) : strLt a a = false := by
 rw [Pop]; simp [List.lt_irrefl]
theorem Prv {a b c : Zb} (h1 : strLt a b = true) (h2 : strLt b c = true) : strLt a c = true := by
 rw [Pop, Zq] at *
 exact List.lt_trans h1 h2
theorem baInj {a b : Zb} (h : a.toList = b.toList) : a = b :=
 of_decide_eq_true (by rw [← Qcp]; simp [h])
theorem Pwf {a b : Zb} (h : a ≠ b) : strLt a b = !strLt b a := by
 rw [Pop, Pop]
 by_cases c : a.toList < b.toList
 ·have : ¬ b.toList < a.toList := fun d => List.lt_irrefl _ (List.lt_trans c d)
  simp [c, this]
 ·by_cases c2 : b.toList < a.toList
  ·simp [c, c2]
  ·exact absurd (baInj (List.le_antisymm (List.not_lt.1 c2) (List.not_lt.1 c))) h
theorem Pog {α : Type} [DecidableEq α] : ∀ {a b : List α}, a.Nodup → (∀ x ∈ a, x ∈ b) → a.length ≤ b.length
 | [], b, _, _ => by simp
 | x :: a, b, hn, hs => by
  obtain ⟨h1, h2⟩ := List.nodup_cons.1 hn
  have := Pog (b := b.erase x) h2 fun y hy => (List.mem_erase_of_ne (fun (e : y = x) => h1 (e ▸ hy))).2 (hs y (by simp [hy]))
  have hx := hs x (by simp)
  rw [List.length_erase_of_mem hx] at this
  have := List.length_pos_of_mem hx
  simp only [Zl]
  omega
def Srt (l : List LinkT) : Prop := l.Pairwise fun x y => strLt x.1 y.1 = true
theorem Srt.ne {x y : LinkT} (h : strLt x.1 y.1 = true) : x.1 ≠ y.1 := fun e => by rw [e, Pbcx] at h; cases h
theorem Phk {l : List LinkT} {n : Zb} {y : LinkT} : y ∈ Peo l n ↔ y ∈ l ∧ y.1 ≠ n := by
 unfold Peo; simp [List.mem_filter]
theorem Pqf {l : List LinkT} {n : Zb} (h : ∀ y ∈ l, y.1 ≠ n) : Peo l n = l := by
 unfold Peo
 exact List.filter_eq_self.2 fun y hy => by simp [h y hy]
theorem Pzy {p q : LinkT → Bool} {x : LinkT} {l : List LinkT} (h : ∀ y ∈ l, p y = q y) : insM p x l = insM q x l := by
 unfold insM
 induction l with
 | nil => rfl
 | cons y l ih =>
  have hy := h y (by simp)
  simp only [List.takeWhile, List.dropWhile, hy]
  cases hq : q y with
  | true => simp
  | false =>
   have := ih fun z hz => h z (by simp [hz])
   simpa using this
theorem Poa {l : List LinkT} {x : LinkT} (h : ∀ y ∈ l, y.1 ≠ x.1) : insM (fun y => strLt x.1 y.1) x l = linkI l x := by
 unfold linkI
 exact Pzy fun y hy => Pwf (fun e => h y hy e.symm)
theorem Pbeh {p : LinkT → Bool} {x y : LinkT} {l : List LinkT} : y ∈ insM p x l ↔ y = x ∨ y ∈ l := by
 unfold insM
 have := List.takeWhile_append_dropWhile (p := fun y => !p y) (l := l)
 conv => rhs; rw [← this]
 simp only [List.mem_append, List.mem_cons]
 constructor
 ·rintro (h | h | h)
  ·exact .inr (.inl h)
  ·exact .inl h
  ·exact .inr (.inr h)
 ·rintro (h | h | h)
  ·exact .inr (.inl h)
  ·exact .inl h
  ·exact .inr (.inr h)
theorem Pqz {l : List LinkT} {x : LinkT} (hs : Srt l) (h : ∀ y ∈ l, y.1 ≠ x.1) : Srt (linkI l x) := by
 unfold linkI insM Srt
 have e := List.takeWhile_append_dropWhile (p := fun y : LinkT => !(fun y : LinkT => !strLt y.1 x.1) y) (l := l)
 simp only [Bool.not_not] at e ⊢
 obtain ⟨A, hA⟩ : ∃ A, l.takeWhile (fun y : LinkT => strLt y.1 x.1) = A := ⟨_, rfl⟩
 obtain ⟨B, hB⟩ : ∃ B, l.dropWhile (fun y : LinkT => strLt y.1 x.1) = B := ⟨_, rfl⟩
 have hAx : ∀ a ∈ A, strLt a.1 x.1 = true := fun a ha => by
  rw [← hA] at ha
  exact List.all_eq_true.1 (List.all_takeWhile (l := l) (p := fun y : LinkT => strLt y.1 x.1)) a ha
 have hBh : ∀ b B', B = b :: B' → strLt b.1 x.1 = false := fun b B' hb => by
  have := List.head?_dropWhile_not (p := fun y : LinkT => strLt y.1 x.1) (l := l)
  rw [hB, hb] at this
  simpa using this
 rw [hA, hB] at e ⊢
 unfold Srt at hs
 rw [← e, List.pairwise_append] at hs
 obtain ⟨h1, h2, h3⟩ := hs
 have hBx : ∀ b ∈ B, strLt x.1 b.1 = true := fun b hb => by
  cases B with
  | nil => simp at hb
  | cons b0 B' =>
   have h0 := hBh b0 B' rfl
   have hx0 : strLt x.1 b0.1 = true := by
    rw [Pwf (fun e' => h b0 (by rw [← e]; simp) e'.symm), h0]; rfl
   rcases List.mem_cons.1 hb with rfl | hb
   ·exact hx0
   ·exact Prv hx0 ((List.pairwise_cons.1 h2).1 b hb)
 refine List.pairwise_append.2 ⟨h1, List.pairwise_cons.2 ⟨hBx, h2⟩, fun a ha b hb => ?_⟩
 rcases List.mem_cons.1 hb with rfl | hb
 ·exact hAx a ha
 ·exact h3 a ha b hb
theorem Puk (l : List LinkT) (a b : Zb) : Peo (Peo l a) b = l.filter fun x => !(decide (x.1 = a) || decide (x.1 = b)) := by
 unfold Peo
 rw [List.filter_filter]
 exact List.filter_congr fun x _ => by cases decide (x.1 = a) <;> cases decide (x.1 = b) <;> rfl
theorem Pbfc {l : List LinkT} {n : Zb} : at? l n < 0 ↔ ∀ y ∈ l, y.1 ≠ n := by
 unfold at?
 rw [Qlb]
 exact ⟨fun h y hy => by simpa using h y hy, fun h y hy => by simpa using h y hy⟩
theorem Pbdu {l : List LinkT} {n : Zb} (hs : Srt l) (h : 0 ≤ at? l n) : Peo l n = l.take (at? l n).toNat ++ l.drop ((at? l n).toNat + 1) := by
 obtain ⟨i, hi, he, hp, hq⟩ := Qrg (p := fun x : LinkT => decide (x.1 = n)) (l := l) (by unfold at? at h; omega)
 have e : (at? l n).toNat = i := by unfold at?; rw [he]; simp
 rw [e]
 have hp : l[i].1 = n := of_decide_eq_true hp
 unfold Srt at hs
 have hl : l = l.take i ++ l[i] :: l.drop (i + 1) := by rw [← List.drop_eq_getElem_cons hi, List.take_append_drop]
 have hs' := hs
 rw [hl, List.pairwise_append] at hs'
 obtain ⟨h1, h2, h3⟩ := hs'
 conv => lhs; rw [hl]
 unfold Peo
 rw [List.filter_append, List.filter_cons]
 simp only [hp, decide_true, Zx, Bool.false_eq_true, if_false]
 congr 1
 ·refine List.filter_eq_self.2 fun y hy => ?_
  have := Srt.ne (h3 y hy l[i] List.mem_cons_self)
  rw [hp] at this
  simp [this]
 ·refine List.filter_eq_self.2 fun y hy => ?_
  have := Srt.ne ((List.pairwise_cons.1 h2).1 y hy)
  rw [hp] at this
  simp [Ne.symm this]
theorem Psg {l : List LinkT} {m : MoveT} (hs : Srt l) (hn : nameB m.2.1 = true) : Plx l m = Pev l m := by
 unfold Plx Pev
 rw [if_neg (show ¬ nameB m.2.1 = false by rw [hn]; simp)]
 by_cases c1 : m.1 = 1 ∧ m.2.2.1 = ⟨#[]⟩ ∧ at? l m.2.1 < 0
 ·rw [if_pos c1, if_pos c1]
  have hne := Pbfc.1 c1.2.2
  unfold withS
  rw [Pqf hne, Poa hne]
 ·rw [if_neg c1, if_neg c1]
  by_cases c2 : m.1 = 2 ∧ m.2.2.2 = 0 ∧ 0 ≤ at? l m.2.1 ∧ m.2.2.1 ≠ m.2.1 ∧ nameB m.2.2.1 = true
  ·rw [if_pos c2, if_pos ⟨c2.1, c2.2.1, c2.2.2.1, c2.2.2.2.2, c2.2.2.2.1⟩]
   unfold withS
   rw [Puk, Poa]
   intro y hy
   have := (List.mem_filter.1 hy).2
   intro e
   simp only at e
   rw [e] at this; simp at this
  ·rw [if_neg c2, if_neg (show ¬ (m.1 = 2 ∧ m.2.2.2 = 0 ∧ 0 ≤ at? l m.2.1 ∧ nameB m.2.2.1 = true ∧ m.2.2.1 ≠ m.2.1) from fun c => c2 ⟨c.1, c.2.1, c.2.2.1, c.2.2.2.2, c.2.2.2.1⟩)]
   by_cases c3 : m.1 = 3 ∧ m.2.2.1 = ⟨#[]⟩ ∧ m.2.2.2 = 0 ∧ 0 ≤ at? l m.2.1
   ·rw [if_pos c3, if_pos ⟨c3.1, c3.2.2.1, c3.2.1, c3.2.2.2⟩, Pbdu hs c3.2.2.2]
   ·rw [if_neg c3, if_neg (show ¬ (m.1 = 3 ∧ m.2.2.2 = 0 ∧ m.2.2.1 = ⟨#[]⟩ ∧ 0 ≤ at? l m.2.1) from fun c => c3 ⟨c.1, c.2.2.1, c.2.1, c.2.2.2⟩)]
theorem Pmj {l : List LinkT} {n : Zb} (hs : Srt l) : Srt (Peo l n) := hs.filter _
theorem Pbau {l : List LinkT} {m : MoveT} (hs : Srt l) : Srt (Pev l m).1 := by
 unfold Pev
 split
 ·exact hs
 ·split
  ·unfold withS
   rw [Poa fun y hy => (Phk.1 hy).2]
   exact Pqz (Pmj hs) fun y hy => (Phk.1 hy).2
  ·split
   ·unfold withS
    rw [Poa fun y hy => (Phk.1 hy).2]
    exact Pqz (Pmj (Pmj hs)) fun y hy => (Phk.1 hy).2
   ·split
    ·exact Pmj hs
    ·exact hs
theorem Pow {l : List LinkT} {m : MoveT} (h : (Pev l m).2 = true) : nameB m.2.1 = true := by
 unfold Pev at h
 split at h
 ·cases h
 ·rename_i hn; simpa using hn
theorem Pbgl {l : List LinkT} (h : ∀ i, i < l.length → upD l i = true) : Srt l := by
 unfold Srt
 rw [List.pairwise_iff_getElem]
 have step : ∀ i, ∀ hi : i + 1 < l.length, strLt l[i].1 l[i + 1].1 = true := fun i hi => by
  have := h (i + 1) hi
  unfold upD at this
  rw [show i + 1 - 1 = i by omega, Zg hi, Zg (show i < l.length by omega)] at this
  simpa using this
 intro i j hi hj hij
 induction j with
 | zero => omega
 | succ j ih =>
  by_cases e : i = j
  ·subst e; exact step i hj
  ·exact Prv (ih (by omega) (by omega)) (step j hj)
theorem Ptb {n : Nat} {p q : Nat → Bool} (h : ∀ i, i < n → (∀ j, j < i → p j = true) → p i = q i) : (List.range n).all p = (List.range n).all q := by
 by_cases hp : ∀ i, i < n → p i = true
 ·have hq : ∀ i, i < n → q i = true := fun i hi => by rw [← h i hi fun j hj => hp j (by omega)]; exact hp i hi
  rw [Pda.2 hp, Pda.2 hq]
 ·have e1 : (List.range n).all p = false := by
   cases c : (List.range n).all p with
   | false => rfl
   | true => exact absurd (Pda.1 c) hp
  rw [e1]
  cases c : (List.range n).all q with
  | false => rfl
  | true =>
   exfalso
   have hq := Pda.1 c
   refine hp fun i => ?_
   induction i using Nat.strongRecOn with
   | _ i ih =>
    intro hi
    rw [h i hi fun j hj => ih j hj (by omega)]
    exact hq i hi
theorem Pnb {d : DiskT} (hd : (List.range d.2.2.2.1.length).all (pD d) = true) : ∀ i, i ≤ d.2.2.2.2.length → (∀ j, j < i → pMS d j = true) → Plc d.2.2.2.1 (d.2.2.2.2.take i) = Pfn d.2.2.2.1 (d.2.2.2.2.take i) ∧ Srt (Pfn d.2.2.2.1 (d.2.2.2.2.take i))
 | 0, _, _ => by
  refine ⟨by simp [Plc, Pfn], ?_⟩
  simp only [List.take_zero, Pfn, List.foldl_nil]
  refine Pbgl fun i hi => ?_
  have := Pda.1 hd i hi
  unfold pD at this
  rw [Zg hi] at this
  simp only [Zd] at this
  exact this.2.1
 | i + 1, hi, hp => by
  obtain ⟨h1, h2⟩ := Pnb hd i (by omega) fun j hj => hp j (by omega)
  have hm := hp i (by omega)
  unfold pMS at hm
  have hi' : i < d.2.2.2.2.length := by omega
  rw [Zg hi'] at hm
  simp only [Zd] at hm
  rw [Pra hi', Pnt hi', h1]
  exact ⟨by rw [Psg h2 (Pow hm.2)], Pbau h2⟩
theorem Pvl {ms : List MoveT} {n : Int} : decide (n ∈ makes ms) = madeB ms n := by
 unfold makes madeB
 cases h : ms.any fun x => decide (x.1 = 1) && decide (x.2.2.2 = n) with
 | true =>
  obtain ⟨x, hx, hp⟩ := List.any_eq_true.1 h
  simp only [Zd, Zq] at hp
  rw [Zq, List.mem_map]
  exact ⟨x, List.mem_filter.2 ⟨hx, by simp [hp.1]⟩, hp.2⟩
 | false =>
  rw [decide_eq_false_iff_not, List.mem_map]
  rintro ⟨x, hx, rfl⟩
  obtain ⟨h1, h2⟩ := List.mem_filter.1 hx
  rw [List.any_eq_true.2 ⟨x, h1, by simpa using h2⟩] at h; cases h
theorem Ptq {l : List LinkT} {n : Int} : decide (n ∈ l.map (·.2)) = linkB l n := by
 unfold linkB
 cases h : l.any fun x => decide (x.2 = n) with
 | true =>
  obtain ⟨x, hx, hp⟩ := List.any_eq_true.1 h
  rw [Zq, List.mem_map]
  exact ⟨x, hx, of_decide_eq_true hp⟩
 | false =>
  rw [decide_eq_false_iff_not, List.mem_map]
  rintro ⟨x, hx, rfl⟩
  rw [List.any_eq_true.2 ⟨x, hx, by simp⟩] at h; cases h
theorem Ptr {l : List LinkT} {ms : List MoveT} {n : Int} : decide (n ∈ l.map (·.2) ++ makes ms) = (linkB l n || madeB ms n) := by
 rw [← Ptq, ← Pvl]
 by_cases h1 : n ∈ l.map (·.2) <;> by_cases h2 : n ∈ makes ms <;> simp [h1, h2]
theorem Pbaa {d : DiskT} (hd : (List.range d.2.2.2.1.length).all (pD d) = true) : (List.range d.2.2.2.2.length).all (pMS d) = (List.range d.2.2.2.2.length).all (pMI d) := by
 refine Ptb fun i hi hp => ?_
 obtain ⟨h1, h2⟩ := Pnb hd i (by omega) hp
 unfold pMS pMI
 rw [Zg hi]
 simp only
 obtain ⟨m, hm⟩ : ∃ m, d.2.2.2.2[i] = m := ⟨_, rfl⟩
 rw [hm, Ptr, h1]
 cases hn : nameB m.2.1 with
 | false =>
  have : (Pev (Pfn d.2.2.2.1 (d.2.2.2.2.take i)) m).2 = false := by unfold Pev; rw [if_pos hn]
  rw [this]; simp
 | true =>
  rw [Psg h2 hn]
  cases (Pev (Pfn d.2.2.2.1 (d.2.2.2.2.take i)) m).2 <;> cases decide (m.1 = 1) <;> cases hasI d m.2.2.2 <;> cases linkB d.2.2.2.1 m.2.2.2 <;> cases madeB (d.2.2.2.2.take i) m.2.2.2 <;> rfl
theorem Ptj {d : DiskT} {n : Int} : hasI d n = true ↔ n ∈ d.2.2.1.map (·.1) := by
 unfold hasI
 have := Qrm (fun x : Peg => decide (x.1 = n)) d.2.2.1
 rw [← this, List.any_eq_true, List.mem_map]
 exact ⟨fun ⟨x, hx, hp⟩ => ⟨x, hx, of_decide_eq_true hp⟩, fun ⟨x, hx, hp⟩ => ⟨x, hx, Zt hp⟩⟩
theorem Pbbv {d : DiskT} (h : (List.range d.2.2.1.length).all (pI d) = true) : (d.2.2.1.map (·.1)).Nodup := by
 have step : ∀ i, ∀ hi : i + 1 < d.2.2.1.length, d.2.2.1[i].1 < d.2.2.1[i + 1].1 := fun i hi => by
  have := Pda.1 h (i + 1) hi
  unfold pI upI at this
  rw [show i + 1 - 1 = i by omega, Zg hi, Zg (show i < d.2.2.1.length by omega)] at this
  simp only [Zd] at this
  simpa using this.2.2
 have lt : ∀ i j, ∀ hi : i < d.2.2.1.length, ∀ hj : j < d.2.2.1.length, i < j → d.2.2.1[i].1 < d.2.2.1[j].1 := by
  intro i j hi hj hij
  induction j with
  | zero => omega
  | succ j ih =>
   by_cases e : i = j
   ·subst e; exact step i hj
   ·exact Int.lt_trans (ih (by omega) (by omega)) (step j hj)
 rw [List.Nodup, List.pairwise_map, List.pairwise_iff_getElem]
 intro i j hi hj hij
 have := lt i j hi hj hij
 omega
theorem Pbbj {d : DiskT} (hd : (List.range d.2.2.2.1.length).all (pD d) = true) (hm : (List.range d.2.2.2.2.length).all (pMI d) = true) :
  (d.2.2.2.1.map (·.2) ++ makes d.2.2.2.2).Nodup ∧ ∀ n ∈ d.2.2.2.1.map (·.2) ++ makes d.2.2.2.2, n ∈ d.2.2.1.map (·.1) := by
 have h1 : ∀ i, i ≤ d.2.2.2.1.length → ((d.2.2.2.1.take i).map (·.2)).Nodup ∧ ∀ n ∈ (d.2.2.2.1.take i).map (·.2), n ∈ d.2.2.1.map (·.1) := by
  intro i
  induction i with
  | zero => intro _; simp
  | succ i ih =>
   intro hi
   obtain ⟨i1, i2⟩ := ih (by omega)
   have hi' : i < d.2.2.2.1.length := by omega
   have := Pda.1 hd i hi'
   unfold pD at this
   rw [Zg hi'] at this
   simp only [Zd, Bool.not_eq_true', ← Ptq, decide_eq_false_iff_not] at this
   obtain ⟨_, _, h3, h4⟩ := this
   rw [List.take_add_one, Zg hi', Option.toList_some, List.map_append]
   simp only [List.map_cons, List.map_nil]
   refine ⟨List.nodup_append.2 ⟨i1, by simp, fun a ha b hb => ?_⟩, fun n hn => ?_⟩
   ·simp only [List.mem_singleton] at hb
    subst hb
    exact fun e => h4 (e ▸ ha)
   ·rcases List.mem_append.1 hn with hn | hn
    ·exact i2 n hn
    ·simp only [List.mem_singleton] at hn
     subst hn
     exact Ptj.1 h3
 have h2 : ∀ i, i ≤ d.2.2.2.2.length → (d.2.2.2.1.map (·.2) ++ makes (d.2.2.2.2.take i)).Nodup ∧ ∀ n ∈ d.2.2.2.1.map (·.2) ++ makes (d.2.2.2.2.take i), n ∈ d.2.2.1.map (·.1) := by
  intro i
  induction i with
  | zero =>
   intro _
   have := h1 _ (Nat.le_refl _)
   rw [List.take_length] at this
   simpa [makes] using this
  | succ i ih =>
   intro hi
   obtain ⟨i1, i2⟩ := ih (by omega)
   have hi' : i < d.2.2.2.2.length := by omega
   rw [Pst hi']
   split
   ·rename_i hk
    have := Pda.1 hm i hi'
    unfold pMI at this
    rw [Zg hi'] at this
    simp only [Zd, Bool.or_eq_true, Bool.not_eq_true', decide_eq_false_iff_not] at this
    obtain ⟨_, _, h5⟩ := this
    obtain ⟨h3, h4⟩ := h5.resolve_left (fun c => c hk)
    rw [← List.append_assoc]
    refine ⟨List.nodup_append.2 ⟨i1, by simp, fun a ha b hb => ?_⟩, fun n hn => ?_⟩
    ·simp only [List.mem_singleton] at hb
     subst hb
     exact fun e => h4 (e ▸ ha)
    ·rcases List.mem_append.1 hn with hn | hn
     ·exact i2 n hn
     ·simp only [List.mem_singleton] at hn
      subst hn
      exact Ptj.1 h3
   ·exact ⟨i1, i2⟩
 have := h2 _ (Nat.le_refl _)
 rwa [List.take_length] at this
theorem Pyv {d : DiskT} {i : Nat} (hi : i < d.2.2.1.length) : pIS d i = (pI d i && (linkB d.2.2.2.1 d.2.2.1[i].1 || madeB d.2.2.2.2 d.2.2.1[i].1)) := by
 unfold pIS pI
 rw [Zg hi]
 simp only [Bool.and_assoc]
theorem Pmm (d : DiskT) : diskS d = diskI d := by
 unfold diskS diskI
 cases rg d.1 0 1048576 with
 | false => rfl
 | true =>
 cases rg d.2.1 1 1000000 with
 | false => rfl
 | true =>
 by_cases c1 : (d.2.2.1.length : Int) ≤ 10
 case neg => simp [c1]
 by_cases c2 : (d.2.2.2.2.length : Int) ≤ 20
 case neg => simp [c2]
 by_cases c3 : Ppr d.2.2.1 ≤ d.1
 case neg => simp [c3]
 simp only [c1, c2, c3, decide_true, Bool.true_and]
 cases hD : (List.range d.2.2.2.1.length).all (pD d) with
 | false => simp
 | true =>
 rw [Pbaa hD]
 cases hM : (List.range d.2.2.2.2.length).all (pMI d) with
 | false => simp
 | true =>
 simp only [Bool.and_true, Bool.true_and]
 obtain ⟨n1, n2⟩ := Pbbj hD hM
 cases hI : (List.range d.2.2.1.length).all (pI d) with
 | false =>
  have : (List.range d.2.2.1.length).all (pIS d) = false := by
   cases c : (List.range d.2.2.1.length).all (pIS d) with
   | false => rfl
   | true =>
    have : (List.range d.2.2.1.length).all (pI d) = true := Pda.2 fun i hi => by
     have := Pda.1 c i hi
     rw [Pyv hi, Zd] at this
     exact this.1
    rw [hI] at this; cases this
  rw [this]; simp
 | true =>
  have n3 := Pbbv hI
  have hle := Pog n1 n2
  have hdir : (d.2.2.2.1.length : Int) ≤ 10 := by
   simp only [List.length_append, List.length_map] at hle
   omega
  rw [Zt hdir]
  simp only [Bool.true_and]
  by_cases hall : ∀ n ∈ d.2.2.1.map (·.1), n ∈ d.2.2.2.1.map (·.2) ++ makes d.2.2.2.2
  ·have hge := Pog n3 hall
   rw [List.length_map] at hge hle
   rw [Zt (by omega)]
   refine Pda.2 fun i hi => ?_
   rw [Pyv hi, Pda.1 hI i hi, Bool.true_and, ← Ptr, Zq]
   exact hall _ (List.mem_map.2 ⟨_, List.getElem_mem hi, rfl⟩)
  ·have hx : ∃ n ∈ d.2.2.1.map (·.1), n ∉ d.2.2.2.1.map (·.2) ++ makes d.2.2.2.2 := by
    apply Classical.byContradiction
    intro hc
    exact hall fun n hn => Classical.byContradiction fun h => hc ⟨n, hn, h⟩
   obtain ⟨n, hn, hnn⟩ := hx
   have hlt := Pog (a := n :: (d.2.2.2.1.map (·.2) ++ makes d.2.2.2.2)) (b := d.2.2.1.map (·.1)) (List.nodup_cons.2 ⟨hnn, n1⟩) (fun y hy => by
    rcases List.mem_cons.1 hy with rfl | hy
    ·exact hn
    ·exact n2 y hy)
   rw [Zl, List.length_map] at hlt
   rw [Zf (by omega)]
   cases c : (List.range d.2.2.1.length).all (pIS d) with
   | false => rfl
   | true =>
    exfalso
    obtain ⟨x, hx, rfl⟩ := List.mem_map.1 hn
    obtain ⟨i, hi, rfl⟩ := List.getElem_of_mem hx
    have := Pda.1 c i hi
    rw [Pyv hi, Zd, ← Ptr, Zq] at this
    exact hnn this.2
end
section
structure Right (d : DiskT) : Prop where
 small : Small d
 ok : diskS d = true
theorem Right.ok' {d : DiskT} (h : Right d) : diskI d = true := by rw [← Pmm]; exact h.ok
theorem Right.parts {d : DiskT} (h : Right d) : 0 ≤ d.1 ∧ d.1 ≤ 1048576 ∧ 1 ≤ d.2.1 ∧ d.2.1 ≤ 1000000 ∧ d.2.2.1.length ≤ 10 ∧ d.2.2.2.2.length ≤ 20 ∧ d.2.2.2.1.length ≤ 10 ∧ Ppr d.2.2.1 ≤ d.1 ∧
  (List.range d.2.2.1.length).all (pIS d) = true ∧ (List.range d.2.2.2.1.length).all (pD d) = true ∧ (List.range d.2.2.2.2.length).all (pMS d) = true := by
 have := h.ok
 unfold diskS rg at this
 simp only [Zd, Zq] at this
 obtain ⟨h1, h2, h3, h4, h5, h6, h7, h8, h9⟩ := this
 exact ⟨h1.1, h1.2, h2.1, h2.2, by omega, by omega, by omega, h6, h7, h8, h9⟩
theorem Right.links {d : DiskT} (h : Right d) (n : Nat) : Plc d.2.2.2.1 (d.2.2.2.2.take n) = Pfn d.2.2.2.1 (d.2.2.2.2.take n) ∧ Srt (Pfn d.2.2.2.1 (d.2.2.2.2.take n)) := by
 obtain ⟨_, _, _, _, _, _, _, _, _, h8, h9⟩ := h.parts
 by_cases hn : n ≤ d.2.2.2.2.length
 ·exact Pnb h8 n hn fun j hj => Pda.1 h9 j (by omega)
 ·rw [List.take_of_length_le (show d.2.2.2.2.length ≤ n by omega)]
  have := Pnb h8 d.2.2.2.2.length (Nat.le_refl _) fun j hj => Pda.1 h9 j hj
  rwa [List.take_length] at this
def Pir (d : DiskT) (n : Nat) : List LinkT := Pfn d.2.2.2.1 (d.2.2.2.2.take n)
theorem Pnc (d : DiskT) (n : Nat) : (Pir d n).length ≤ d.2.2.2.1.length + d.2.2.2.2.length := by
 unfold Pir
 have := Pna (d.2.2.2.2.take n) d.2.2.2.1
 rw [List.length_take] at this
 omega
theorem Pqw (dir : List LinkT) (ms : List MoveT) : ms.foldl (fun l m => (Pev l m).1) dir = Pfn dir ms := rfl
theorem Puw (dir : List LinkT) (ms : List MoveT) : ms.foldl (fun l m => (Plx l m).1) dir = Plc dir ms := rfl
theorem Pwa {k} (hk : Zk k) {d : DiskT} (hs : Small d) (n : Int) : Pdm.f k d n = some (Pir d n.toNat) := by
 have hd := hs.dir
 have hm := hs.mov
 unfold Pdm.f
 rw [Qrr (by unfold limOf; simp only [List.length_nil]; omega)]
 simp only [Zo, List.nil_append, Prod.eta]
 obtain ⟨ms, hms⟩ : ∃ ms, d.2.2.2.2.take n.toNat = ms := ⟨_, rfl⟩
 have hl : ms.length = min n.toNat d.2.2.2.2.length := by rw [← hms, List.length_take]
 have hat : ∀ i (hi : i < ms.length), d.2.2.2.2[i]? = some ms[i] := fun i hi => by
  rw [← Zg hi, ← hms, List.getElem?_take, if_pos (by omega)]
 have key := Qqp (B := Pdm.b0 k) ms (fun i a => (n, [], a, (i : Int), d)) (fun l m => (Pev l m).1) (fun a => .inl ([], a)) d.2.2.2.1 (fun i hi => by
  have e1 : decide ((i : Int) < n) = true := by simp; omega
  have e2 : decide ((i : Int) < (d.2.2.2.2.length : Int)) = true := by simp; omega
  have e3 : inb? d.2.2.2.2.length (i : Int) = some i := by rw [Zi, Zn]
  have hll := Pna (ms.take i) d.2.2.2.1
  rw [List.length_take] at hll
  obtain ⟨n1, n2⟩ := hs.movN ms[i] (List.mem_of_getElem? (hat i hi))
  simp only [Pqw]
  unfold Pdm.b0
  dsimp only
  simp only [e1, e2, Zy, e3, Zo, hat i hi, Prod.eta]
  rw [Pvz hk _ _ (by omega) n1 n2]
  simp only [Zo]
  rw [Zw]
  rfl) (by
  unfold Pdm.b0
  dsimp only
  by_cases c : (ms.length : Int) < n
  ·have e1 : decide ((ms.length : Int) < n) = true := Zt c
   have e2 : decide ((ms.length : Int) < (d.2.2.2.2.length : Int)) = false := by simp; omega
   rw [e1, e2]; rfl
  ·have e1 : decide ((ms.length : Int) < n) = false := Zf c
   rw [e1]; rfl) k (by omega)
 have e0 : ((0 : Nat) : Int) = 0 := rfl
 simp only [e0] at key
 rw [key]
 simp only [Zo, Pqw]
 rw [← hms]
 rfl
theorem Puz {k} (hk : Zk k) {d : DiskT} (hr : Right d) (n : Int) (h0 : 0 ≤ n) (h1 : n ≤ d.2.2.2.2.length) : Pcd.f k d n = some (Pir d n.toNat) := by
 have hd := hr.small.dir
 have hm := hr.small.mov
 have hL := (hr.links n.toNat).1
 unfold Pcd.f Pcu.f
 rw [Qrr (by unfold limOf; simp only [List.length_nil]; omega)]
 simp only [Zo, List.nil_append]
 rw [Zc]
 simp only [Zo, Int.toNat_zero, List.drop_zero]
 unfold Pir
 rw [← hL]
 obtain ⟨ms, hms⟩ : ∃ ms, d.2.2.2.2.take n.toNat = ms := ⟨_, rfl⟩
 have hl : ms.length = min n.toNat d.2.2.2.2.length := by rw [← hms, List.length_take]
 rw [hms]
 have key := Qqp (B := Pcd.b0 k) ms (fun i a => ([], a, ms, (ms.length : Int), (i : Int))) (fun l m => (Plx l m).1) (fun a => .inl ([], a)) d.2.2.2.1 (fun i hi => by
  have e1 : decide ((i : Int) < (ms.length : Int)) = true := by simp; omega
  have e3 : inb? ms.length (i : Int) = some i := by rw [Zi, Zn]
  have hll := Ppg (ms.take i) d.2.2.2.1
  rw [List.length_take] at hll
  obtain ⟨n1, n2⟩ := hr.small.movN ms[i] (List.mem_of_mem_take (by rw [hms]; exact List.getElem_mem hi))
  simp only [Puw]
  unfold Pcd.b0
  dsimp only
  simp only [e1, Zy, e3, Zo, Zg hi, Prod.eta]
  rw [Pux hk _ _ (by omega) n2]
  simp only [Zo]
  rw [Zw]
  rfl) (by
  have e1 : decide ((ms.length : Int) < (ms.length : Int)) = false := by simp
  unfold Pcd.b0
  dsimp only
  rw [e1]; rfl) k (by omega)
 have e0 : ((0 : Nat) : Int) = 0 := rfl
 simp only [e0] at key
 rw [key]
 rfl
def nowM (d : DiskT) : List LinkT := Pir d d.2.2.2.2.length
theorem Pbfw {k} (hk : Zk k) {d : DiskT} (hs : Small d) : Pdm.f k d (d.2.2.2.2.length : Int) = some (nowM d) := Pwa hk hs _
theorem Pbft {k} (hk : Zk k) {d : DiskT} (hr : Right d) : Phr.f k d = some (nowM d) := by
 unfold Phr.f
 try simp only [Prod.eta]
 rw [Puz hk hr _ (by omega) (by omega)]
 rfl
def fileM (d : DiskT) (n : Zb) : Int := bif decide (at? (nowM d) n < 0) then -1 else idxOf (fun x => decide (x.1 = idAt (nowM d) n)) d.2.2.1
theorem Pbdv (d : DiskT) (n : Zb) : -1 ≤ fileM d n ∧ fileM d n < d.2.2.1.length := by
 unfold fileM
 have := Qrh (fun x : Peg => decide (x.1 = idAt (nowM d) n)) d.2.2.1
 cases decide (at? (nowM d) n < 0) with
 | true => simp only [Zy]; omega
 | false => simpa using this
theorem Pys {d : DiskT} (hs : Small d) : (nowM d).length ≤ 4194304 := by
 have := Pnc d d.2.2.2.2.length
 have := hs.dir
 have := hs.mov
 unfold nowM
 omega
theorem Pzb {k} (hk : Zk k) {d : DiskT} (hs : Small d) (n : Zb) : Pko.f k d n = some (fileM d n) := by
 unfold Pko.f fileM
 simp only [Prod.eta, Pbfw hk hs, Zo, Pbfk hk _ n (Pys hs)]
 have hat : idxOf (fun x => decide (x.1 = n)) (nowM d) = at? (nowM d) n := rfl
 rw [hat]
 by_cases c : at? (nowM d) n < 0
 ·rw [Zt c]; rfl
 ·obtain ⟨e1, x, e2, e3⟩ := Pqk (l := nowM d) (n := n) (by omega)
  rw [Zf c]
  simp only [Zz, e1, e2, Zo, Prm hk d _ hs.ino, e3]
theorem Pyl {k} (hk : Zk k) {d : DiskT} (hr : Right d) (n : Zb) : Pef.f k d n = some (fileM d n) := by
 unfold Pef.f fileM
 simp only [Prod.eta, Pbft hk hr, Zo, Pbff hk _ n (Pys hr.small)]
 have hat : idxOf (fun x => decide (x.1 = n)) (nowM d) = at? (nowM d) n := rfl
 rw [hat]
 by_cases c : at? (nowM d) n < 0
 ·rw [Zt c]; rfl
 ·obtain ⟨e1, x, e2, e3⟩ := Pqk (l := nowM d) (n := n) (by omega)
  rw [Zf c]
  simp only [Zz, e1, e2, Zo, Pqy hk d _ hr.small.ino, e3]
def Fits (d : DiskT) : Prop := d.2.2.1.length ≤ 4194304 ∧ d.2.2.2.1.length ≤ 4194304 ∧ d.2.2.2.2.length ≤ 4194304
theorem Small.fits {d : DiskT} (h : Small d) : Fits d := ⟨by have := h.ino; omega, by have := h.dir; omega, by have := h.mov; omega⟩
theorem Pben {k : Nat} {d : DiskT} (hs : Small d) : Pkn.f k d = some d := by
 have h1 := hs.ino; have h2 := hs.dir; have h3 := hs.mov
 unfold Pkn.f
 rw [Qrr (by unfold limOf; simp only [List.length_nil]; omega), Qrr (by unfold limOf; simp only [List.length_nil]; omega), Qrr (by unfold limOf; simp only [List.length_nil]; omega)]
 rfl
theorem Pyk {k : Nat} {d : DiskT} (hs : Small d) : Pfm.f k d = some d := by
 have h1 := hs.ino; have h2 := hs.dir; have h3 := hs.mov
 unfold Pfm.f Pcu.f
 rw [Qrr (by unfold limOf; simp only [List.length_nil]; omega), Qrr (by unfold limOf; simp only [List.length_nil]; omega), Qrr (by unfold limOf; simp only [List.length_nil]; omega)]
 rfl
theorem Pzq (l : List Peg) : Ppr l = amtI l := by unfold Ppr; rw [Pmy]; simp
theorem Ptc {l : List Peg} {x : Peg} (h : x ∈ l) : x.2.1.size ≤ amtI l := by
 obtain ⟨i, hi, rfl⟩ := List.getElem_of_mem h
 have := Pwo hi
 omega
theorem Pbbh {d : DiskT} {n : Zb} (h : ¬ fileM d n < 0) : inb? d.2.2.1.length (fileM d n) = some (fileM d n).toNat ∧ ∃ x, d.2.2.1[(fileM d n).toNat]? = some x ∧ x ∈ d.2.2.1 := by
 obtain ⟨h1, h2⟩ := Pbdv d n
 have hlt : (fileM d n).toNat < d.2.2.1.length := by omega
 exact ⟨Qqx (by omega) h2, _, Zg hlt, List.getElem_mem hlt⟩
theorem fits0 : Fits (0, 0, [], [], []) := ⟨Nat.zero_le _, Nat.zero_le _, Nat.zero_le _⟩
theorem Pbcc {k} (hk : Zk k) {d : DiskT} (hs : Small d) (n : Zb) : ∃ r, Phl.f k d n = some r ∧ Plq.f k d n = some r ∧ r.1.size ≤ 1048576 := by
 unfold Phl.f Plq.f
 simp only [Prod.eta, Psw hk d hs, Pva hk d hs, ← Pmm, Zo]
 cases hd : diskS d with
 | false => exact ⟨_, rfl, rfl, Nat.zero_le _⟩
 | true =>
  have hr : Right d := ⟨hs, hd⟩
  simp only [Zx, Zz, Pzb hk hs, Pyl hk hr, Zo]
  by_cases c : fileM d n < 0
  ·rw [Zt c]; exact ⟨_, rfl, rfl, Nat.zero_le _⟩
  ·obtain ⟨e1, x, e2, e3⟩ := Pbbh c
   rw [Zf c]
   simp only [Zz, e1, e2, Zo]
   exact ⟨_, rfl, rfl, by have := Ptc e3; have := hs.amt; simp only; omega⟩
def Pwg (dir : List LinkT) (l : List Peg) : List Peg := l.filter fun x => linkB dir x.1
theorem Pbag (dir : List LinkT) (l : List Peg) : (Pwg dir l).length ≤ l.length := List.length_filter_le _ _
theorem Pxo {k} (hk : Zk k) (d : DiskT) (dir : List LinkT) (l : List Peg) (hd : dir.length ≤ 4194304) (hl : l.length ≤ 4194304) : Pdj.f k d dir l = some (d.1, d.2.1, Pwg dir l, dir, []) := by
 unfold Pdj.f
 have key := Qqp (B := Pdj.b0 k) l (fun i a => (l, (i : Int), (0, 0, [], [], []), d.1, d.2.1, a, dir, [])) (fun a x => bif linkB dir x.1 then a ++ [x] else a) (fun a => .inl ((0, 0, [], [], []), d.1, d.2.1, a, dir, [])) [] (fun i hi => by
  have e1 : decide ((i : Int) < (l.length : Int)) = true := by simp; omega
  have e2 : inb? l.length (i : Int) = some i := by rw [Zi, Zn]
  rw [Pkt]
  have hlen := List.length_filter_le (fun x : Peg => linkB dir x.1) (l.take i)
  rw [List.length_take] at hlen
  unfold Pdj.b0
  dsimp only
  simp only [e1, Zy, e2, Zo, Zg hi, Pnd hk dir _ hd]
  have eL : (dir.any fun y => decide (y.2 = l[i].1)) = linkB dir l[i].1 := rfl
  rw [eL, Zw, Qrr (by unfold limOf; simp only [List.length_append, List.length_nil, Zl]; omega)]
  cases linkB dir l[i].1 <;> rfl) (by
  have e1 : decide ((l.length : Int) < (l.length : Int)) = false := by simp
  unfold Pdj.b0
  dsimp only
  rw [e1]; rfl) k (by omega)
 have e0 : ((0 : Nat) : Int) = 0 := rfl
 simp only [e0] at key
 rw [key, Pkt]
 rfl
theorem Puy {k} (hk : Zk k) (dir : List LinkT) (x : Peg) (hd : dir.length ≤ 4194304) : Pbf.f k dir x = some (linkB dir x.1) := by
 unfold Pbf.f Pah.f linkB
 rw [Qrm]
 have key := Qqy (B := Pah.b0 k) dir (fun i => (dir, 0, (dir.length : Int), (i : Int), x)) (fun y => decide (y.2 = x.1)) (fun i => .inr (i : Int)) (.inl 0) (fun i hi => by
  have e1 : decide ((i : Int) < (dir.length : Int)) = true := by simp; omega
  have e2 : inb? dir.length (i : Int) = some i := by rw [Zi, Zn]
  unfold Pah.b0 Phh.f
  dsimp only
  simp only [e1, Zy, e2, Zo, Zg hi]
  rw [Zw]
  rfl) (by
  have e1 : decide ((dir.length : Int) < (dir.length : Int)) = false := by simp
  unfold Pah.b0
  dsimp only
  rw [e1]; rfl) k (by omega)
 have e0 : ((0 : Nat) : Int) = 0 := rfl
 simp only [e0] at key
 try simp only [Prod.eta]
 rw [key]
 unfold idxOf
 cases dir.findIdx? (fun y => decide (y.2 = x.1)) with
 | none => rfl
 | some i => simp
theorem Pbbl {k} (hk : Zk k) (d : DiskT) (hd : d.2.2.2.1.length ≤ 4194304) (hl : d.2.2.1.length ≤ 4194304) : Plj.f k d = some (d.1, d.2.1, Pwg d.2.2.2.1 d.2.2.1, d.2.2.2.1, d.2.2.2.2) := by
 have hp : ∀ (c : Int × Int × Unit × List LinkT × List MoveT) (x : Peg), c.2.2.2.1 = d.2.2.2.1 → Pdu.f k x c = some (!linkB d.2.2.2.1 x.1) := fun c x hc => by
  unfold Pdu.f
  simp only [Prod.eta, hc, Puy hk _ x hd, Zo]
 unfold Plj.f Pam.f
 have hi : Pab.f k d.2.2.1 (d.1, d.2.1, (), d.2.2.2.1, d.2.2.2.2) = some (idxOf (fun x => !linkB d.2.2.2.1 x.1) d.2.2.1) := by
  unfold Pab.f idxOf
  have key := Qqy (B := Pab.b0 k) d.2.2.1 (fun i => (d.2.2.1, 0, (d.2.2.1.length : Int), (i : Int), d.1, d.2.1, (), d.2.2.2.1, d.2.2.2.2)) (fun x => !linkB d.2.2.2.1 x.1) (fun i => .inr (i : Int)) (.inl 0) (fun i hi => by
   have e1 : decide ((i : Int) < (d.2.2.1.length : Int)) = true := by simp; omega
   have e2 : inb? d.2.2.1.length (i : Int) = some i := by rw [Zi, Zn]
   unfold Pab.b0
   dsimp only
   simp only [e1, Zy, e2, Zo, Zg hi, Prod.eta, hp (d.1, d.2.1, (), d.2.2.2.1, d.2.2.2.2) _ rfl]
   rw [Zw]
   rfl) (by
   have e1 : decide ((d.2.2.1.length : Int) < (d.2.2.1.length : Int)) = false := by simp
   unfold Pab.b0
   dsimp only
   rw [e1]; rfl) k (by omega)
  have e0 : ((0 : Nat) : Int) = 0 := rfl
  simp only [e0] at key
  rw [key]
  cases d.2.2.1.findIdx? (fun x => !linkB d.2.2.2.1 x.1) <;> rfl
 rw [hi, Pbba (q := fun x : Peg => !linkB d.2.2.2.1 x.1) (fun x _ => hp _ x rfl) (by omega)]
 simp only [Bool.not_not, Zo]
 rfl
def moreM (cuts : List Int) (x : Peg) (i : Nat) : Int := match cuts[i]? with
 | some c => if (if (x.2.1.size : Int) - x.2.2 < c then (x.2.1.size : Int) - x.2.2 else c) > 0 then (if (x.2.1.size : Int) - x.2.2 < c then (x.2.1.size : Int) - x.2.2 else c) else 0
 | none => 0
def cutM (cuts : List Int) (x : Peg) (i : Nat) : Peg := (x.1, x.2.1.extract 0 (x.2.2 + moreM cuts x i).toNat, x.2.2 + moreM cuts x i)
def cutsM (cuts : List Int) (l : List Peg) : List Peg := l.mapIdx fun i x => cutM cuts x i
theorem Plo (cuts : List Int) (l : List Peg) : (cutsM cuts l).length = l.length := by unfold cutsM; simp
theorem Pup {cuts : List Int} {l : List Peg} {i : Nat} (hi : i < l.length) : (cutsM cuts l)[i]'(by rw [Plo]; exact hi) = cutM cuts l[i] i := by unfold cutsM; simp
theorem Pxj {cuts : List Int} {x : Peg} {i : Nat} (h : x.2.2 ≤ x.2.1.size) : 0 ≤ moreM cuts x i ∧ moreM cuts x i ≤ (x.2.1.size : Int) - x.2.2 := by
 unfold moreM
 split
 ·repeat' split
  all_goals omega
 ·omega
theorem Right.sure {d : DiskT} (h : Right d) {i : Nat} (hi : i < d.2.2.1.length) : 0 ≤ d.2.2.1[i].2.2 ∧ d.2.2.1[i].2.2 ≤ d.2.2.1[i].2.1.size := by
 obtain ⟨_, _, _, _, _, _, _, _, h7, _⟩ := h.parts
 have := Pda.1 h7 i hi
 unfold pIS rg at this
 rw [Zg hi] at this
 simp only [Zd, Zq] at this
 exact this.2.1
abbrev zD : DiskT := (0, 0, [], [], [])
theorem Pber {k : Nat} (keep : Int) (cuts : List Int) (a : List Peg) (i : Nat) (d : DiskT) (x : Peg) (hx0 : 0 ≤ x.2.2) (hx1 : x.2.2 ≤ x.2.1.size) (hx2 : x.2.1.size ≤ 1048576) (ha : a.length ≤ 1048576) (hi : i ≤ 1048576) (m0 : Int)
  (hm : m0 = match cuts[i]? with | some c => if 0 < c then c else 0 | none => 0) :
  Pcn.c0 k (keep, cuts, a, (i : Int), m0, d, zD, x) = some (.inl (keep, cuts, a ++ [cutM cuts x i], ((i + 1 : Nat) : Int), d, zD)) := by
 have fin : ∀ m : Int, 0 ≤ m → m ≤ (x.2.1.size : Int) - x.2.2 → m = moreM cuts x i → Pcn.c1 k (keep, cuts, a, (i : Int), m, d, zD, x) = some (.inl (keep, cuts, a ++ [cutM cuts x i], ((i + 1 : Nat) : Int), d, zD)) := fun m h0 h1 h2 => by
  unfold Pcn.c1
  dsimp only
  rw [Zw, Zc]
  simp only [Zo, Int.toNat_zero, Prod.eta]
  rw [Qrr (by unfold limOf; simp only [Zl, List.length_nil]; omega)]
  simp only [Zo]
  rw [Zw]
  unfold cutM
  rw [← h2]
  have hz : ((x.2.1.extract 0 (x.2.2 + m).toNat).size : Int) = x.2.2 + m := by rw [ByteArray.size_extract]; omega
  rw [hz]
  rfl
 have h0 : 0 ≤ m0 := by
  rw [hm]
  split
  ·split <;> omega
  ·omega
 have hq : moreM cuts x i = if (x.2.1.size : Int) - x.2.2 < m0 then (x.2.1.size : Int) - x.2.2 else m0 := by
  rw [hm]
  unfold moreM
  cases cuts[i]? with
  | none => simp only; split <;> omega
  | some c =>
   simp only
   repeat' split
   all_goals omega
 unfold Pcn.c0
 dsimp only
 rw [Zw]
 by_cases c : (x.2.1.size : Int) - x.2.2 < m0
 ·rw [Zt c]
  simp only [Zy, Zo, Prod.eta]
  exact fin _ (by omega) (by omega) (by rw [hq, if_pos c])
 ·rw [Zf c]
  simp only [Zz, Zo, Prod.eta]
  exact fin _ h0 (by omega) (by rw [hq, if_neg c])
theorem Pbde (cuts : List Int) (l : List Peg) {i : Nat} (hi : i < l.length) : (cutsM cuts l).take (i + 1) = (cutsM cuts l).take i ++ [cutM cuts l[i] i] := by
 rw [List.take_add_one, Zg (by rw [Plo]; exact hi), Pup hi]; rfl
theorem Pbae {k} (hk : Zk k) {d : DiskT} (hr : Right d) (keep : Int) (cuts : List Int) (hc : cuts.length ≤ 1048576) :
  Pcn.f k d keep cuts = some (d.1, d.2.1, Pwg (Pir d keep.toNat) (cutsM cuts d.2.2.1), Pir d keep.toNat, []) := by
 have hs := hr.small
 have hl := hs.ino
 unfold Pcn.f
 simp only [Prod.eta, Psw hk d hs, Zo, hr.ok, Zx, Zz]
 have key := Qos (B := Pcn.b0 k) d.2.2.1.length (fun i => (keep, cuts, (cutsM cuts d.2.2.1).take i, (i : Int), d, zD)) (.inl (keep, cutsM cuts d.2.2.1, d, zD)) (fun i hi => by
  have e1 : decide ((i : Int) < (d.2.2.1.length : Int)) = true := by simp; omega
  have e2 : inb? d.2.2.1.length (i : Int) = some i := by rw [Zi, Zn]
  obtain ⟨s0, s1⟩ := hr.sure hi
  have hx2 : d.2.2.1[i].2.1.size ≤ 1048576 := by have := Ptc (List.getElem_mem hi); have := hs.amt; omega
  have hal : ((cutsM cuts d.2.2.1).take i).length ≤ 1048576 := by rw [List.length_take, Plo]; omega
  have step := fun m0 hm => Pber (k := k) keep cuts ((cutsM cuts d.2.2.1).take i) i d d.2.2.1[i] s0 s1 hx2 hal (by omega) m0 hm
  rw [← Pbde cuts d.2.2.1 hi] at step
  unfold Pcn.b0
  dsimp only
  simp only [e1, Zy, e2, Zo, Zg hi, Prod.eta]
  by_cases c : i < cuts.length
  ·have e3 : decide ((i : Int) < (cuts.length : Int)) = true := by simp; omega
   have e4 : inb? cuts.length (i : Int) = some i := by rw [Zi, Zn]
   rw [e3]
   simp only [Zy, e4, Zo, Zg c]
   by_cases c2 : 0 < cuts[i]
   ·rw [Zt c2]
    simp only [Zy, Zo]
    rw [step _ (by rw [Zg c]; simp only; rw [if_pos c2])]
   ·rw [Zf c2]
    simp only [Zz, Zo]
    rw [step _ (by rw [Zg c]; simp only; rw [if_neg c2])]
  ·have e3 : decide ((i : Int) < (cuts.length : Int)) = false := by simp; omega
   rw [e3]
   simp only [Zz, Zo]
   rw [step _ (by rw [List.getElem?_eq_none (by omega)])]) (by
  have e1 : decide ((d.2.2.1.length : Int) < (d.2.2.1.length : Int)) = false := by simp
  have e2 : (cutsM cuts d.2.2.1).take d.2.2.1.length = cutsM cuts d.2.2.1 := List.take_of_length_le (by rw [Plo]; omega)
  unfold Pcn.b0
  dsimp only
  rw [e1, e2]; rfl) k (by omega)
 have e0 : ((0 : Nat) : Int) = 0 := rfl
 simp only [e0, List.take_zero] at key
 rw [key]
 simp only [Zo]
 unfold Pcn.d0
 have hn := Pnc d keep.toNat
 have hdl := hs.dir
 have hml := hs.mov
 simp only [Prod.eta, Pwa hk hs, Zo]
 rw [Pxo hk d _ _ (by omega) (by rw [Plo]; omega)]
 rfl
theorem Pbea {k : Nat} (cuts : List Int) (ino : List Peg) (n : Int) (L : List Peg) (o : DiskT) (i : Nat) (x : Peg) (hx0 : 0 ≤ x.2.2) (hx1 : x.2.2 ≤ x.2.1.size) (hx2 : x.2.1.size ≤ 1048576) (hL : L[i]? = some x) (hi : i ≤ 1048576) (m : Int)
  (hm : m = moreM cuts x i) :
  Pdp.c0 k (cuts, (i : Int), m, ino, n, (i : Int), zD, (o.1, o.2.1, L, o.2.2.2.1, o.2.2.2.2), x) = some (.inl (cuts, ino, n, ((i + 1 : Nat) : Int), zD, (o.1, o.2.1, L.set i (cutM cuts x i), o.2.2.2.1, o.2.2.2.2))) := by
 obtain ⟨m1, m2⟩ := Pxj (cuts := cuts) (x := x) (i := i) hx1
 have hlt := (List.getElem?_eq_some_iff.1 hL).1
 have e2 : inb? L.length (i : Int) = some i := by rw [Zi, Zn]
 unfold Pdp.c0
 dsimp only
 rw [Zw (n := x.2.2 + m), Zc]
 simp only [Zo, Int.toNat_zero, e2, hL, List.length_set, List.getElem?_set_self hlt, List.set_set]
 rw [Zw]
 unfold cutM
 rw [← hm]
 rfl
theorem Pbge {α : Type} (a l : List α) (hl : l.length = a.length) {i : Nat} (hi : i < a.length) : (cpU a l i)[i]? = l[i]? := by
 rw [Qom a l hl i i (by omega), if_neg (by omega)]
theorem Pzx {k} (hk : Zk k) {d : DiskT} (hr : Right d) (keep : Int) (cuts : List Int) (hc : cuts.length ≤ 1048576) :
  Pdp.f k d keep cuts = some (d.1, d.2.1, Pwg (Pir d keep.toNat) (cutsM cuts d.2.2.1), Pir d keep.toNat, []) := by
 have hs := hr.small
 have hl := hs.ino
 have hml := hs.mov
 have hdl := hs.dir
 unfold Pdp.f
 simp only [Prod.eta, Pva hk d hs, Zo, hr.ok', Zx, Zz, Pyk hs]
 obtain ⟨n, hn⟩ : ∃ n : Int, (if (if (d.2.2.2.2.length : Int) < keep then (d.2.2.2.2.length : Int) else keep) > 0 then (if (d.2.2.2.2.length : Int) < keep then (d.2.2.2.2.length : Int) else keep) else 0) = n := ⟨_, rfl⟩
 have hn0 : 0 ≤ n := by rw [← hn]; (repeat' split) <;> omega
 have hn1 : n ≤ d.2.2.2.2.length := by rw [← hn]; (repeat' split) <;> omega
 have hn2 : n.toNat = min keep.toNat d.2.2.2.2.length := by rw [← hn]; (repeat' split) <;> omega
 rw [hn, Puz hk hr n hn0 hn1]
 have hnm : Pir d n.toNat = Pir d keep.toNat := by
  unfold Pir
  rw [hn2, List.take_eq_take_min (i := keep.toNat)]
 rw [hnm]
 simp only [Zo]
 obtain ⟨N, hN⟩ : ∃ N, Pir d keep.toNat = N := ⟨_, rfl⟩
 have hNl : N.length ≤ 4194304 := by rw [← hN]; have := Pnc d keep.toNat; omega
 rw [hN]
 have hcl := Plo cuts d.2.2.1
 have key := Qos (B := Pdp.b0 k) d.2.2.1.length (fun i => (cuts, d.2.2.1, (d.2.2.1.length : Int), (i : Int), zD, d.1, d.2.1, cpU (cutsM cuts d.2.2.1) d.2.2.1 i, N, [])) (.inl (zD, d.1, d.2.1, cutsM cuts d.2.2.1, N, [])) (fun i hi => by
  have e1 : decide ((i : Int) < (d.2.2.1.length : Int)) = true := by simp; omega
  have e2 : inb? d.2.2.1.length (i : Int) = some i := by rw [Zi, Zn]
  obtain ⟨s0, s1⟩ := hr.sure hi
  have hx2 : d.2.2.1[i].2.1.size ≤ 1048576 := by have := Ptc (List.getElem_mem hi); have := hs.amt; omega
  have hL : (cpU (cutsM cuts d.2.2.1) d.2.2.1 i)[i]? = some d.2.2.1[i] := by
   rw [Pbge _ _ hcl.symm (by rw [hcl]; exact hi), Zg hi]
  have step := fun m (hm : m = moreM cuts d.2.2.1[i] i) => Pbea (k := k) cuts d.2.2.1 (d.2.2.1.length : Int) (cpU (cutsM cuts d.2.2.1) d.2.2.1 i) (d.1, d.2.1, [], N, []) i d.2.2.1[i] s0 s1 hx2 hL (by omega) m hm
  rw [Qpj _ _ (by rw [hcl]; exact hi), Pup hi]
  unfold Pdp.b0
  dsimp only
  simp only [e1, Zy, e2, Zo, Zg hi, Prod.eta]
  by_cases c : i < cuts.length
  ·have e3 : decide ((i : Int) < (cuts.length : Int)) = true := by simp; omega
   have e4 : inb? cuts.length (i : Int) = some i := by rw [Zi, Zn]
   rw [e3]
   simp only [Zy, e4, Zo, Zg c]
   rw [Zw (n := (d.2.2.1[i].2.1.size : Int) - d.2.2.1[i].2.2)]
   rw [step _ (by unfold moreM; rw [Zg c])]
  ·have e3 : decide ((i : Int) < (cuts.length : Int)) = false := by simp; omega
   rw [e3]
   simp only [Zz, Zo]
   rw [step _ (by unfold moreM; rw [List.getElem?_eq_none (by omega)])]) (by
  have e1 : decide ((d.2.2.1.length : Int) < (d.2.2.1.length : Int)) = false := by simp
  have e2 := Qrn (cutsM cuts d.2.2.1) d.2.2.1 hcl.symm
  rw [hcl] at e2
  unfold Pdp.b0
  dsimp only
  rw [e1, e2]; rfl) k (by omega)
 have e0 : ((0 : Nat) : Int) = 0 := rfl
 simp only [e0, cpU] at key
 rw [key]
 simp only [Zo]
 unfold Pdp.d0
 dsimp only
 rw [Pbbl hk (d.1, d.2.1, cutsM cuts d.2.2.1, N, []) hNl (by simp only; omega)]
 rfl
theorem Pbds {k} (hk : Zk k) {d : DiskT} (hs : Small d) (keep : Int) (cuts : List Int) (hc : cuts.length ≤ 1048576) : ∃ r, Pcn.f k d keep cuts = some r ∧ Pdp.f k d keep cuts = some r ∧ Fits r := by
 cases hd : diskS d with
 | false =>
  refine ⟨zD, ?_, ?_, fits0⟩
  ·unfold Pcn.f
   simp only [Prod.eta, Psw hk d hs, Zo, hd]; rfl
  ·unfold Pdp.f
   simp only [Prod.eta, Pva hk d hs, Zo, ← Pmm, hd]; rfl
 | true =>
  have hr : Right d := ⟨hs, hd⟩
  refine ⟨_, Pbae hk hr keep cuts hc, Pzx hk hr keep cuts hc, ?_⟩
  have h1 := Pbag (Pir d keep.toNat) (cutsM cuts d.2.2.1)
  rw [Plo] at h1
  have h2 := Pnc d keep.toNat
  have h3 := hs.ino; have h4 := hs.dir; have h5 := hs.mov
  unfold Fits
  simp only [List.length_nil]
  omega
def useM (d : DiskT) : List Int := d.2.2.2.1.map (·.2) ++ makes d.2.2.2.2
structure RP (d : DiskT) : Prop where
 room0 : 0 ≤ d.1
 room1 : d.1 ≤ 1048576
 n1 : 1 ≤ d.2.1
 n2 : d.2.1 ≤ 1000000
 ino : d.2.2.1.length ≤ 10
 mov : d.2.2.2.2.length ≤ 20
 amt : (amtI d.2.2.1 : Int) ≤ d.1
 asc : (d.2.2.1.map (·.1)).Pairwise (· < ·)
 inr : ∀ x ∈ d.2.2.1, 1 ≤ x.1 ∧ x.1 ≤ d.2.1 - 1 ∧ 0 ≤ x.2.2 ∧ x.2.2 ≤ x.2.1.size
 srt : Srt d.2.2.2.1
 dirB : ∀ x ∈ d.2.2.2.1, nameB x.1 = true
 used : (useM d).Nodup
 sub : ∀ n ∈ useM d, n ∈ d.2.2.1.map (·.1)
 sup : ∀ n ∈ d.2.2.1.map (·.1), n ∈ useM d
 ok : ∀ i (hi : i < d.2.2.2.2.length), (Pev (Pfn d.2.2.2.1 (d.2.2.2.2.take i)) d.2.2.2.2[i]).2 = true
theorem Ppl {s : Zb} (h : nameB s = true) : s.size ≤ 12 := by
 unfold nameB at h
 simp only [Zd, Zq] at h
 omega
theorem Pbdq {l : List LinkT} {m : MoveT} (h : (Pev l m).2 = true) : m.2.2.1.size ≤ 12 := by
 unfold Pev at h
 split at h
 ·cases h
 ·split at h
  ·rename_i c; rw [c.2.1]; exact Nat.zero_le _
  ·split at h
   ·rename_i c; exact Ppl c.2.2.2.1
   ·split at h
    ·rename_i c; rw [c.2.2.1]; exact Nat.zero_le _
    ·cases h
theorem RP.dirL {d : DiskT} (h : RP d) : d.2.2.2.1.length ≤ 10 := by
 have := Pog h.used h.sub
 have := h.ino
 unfold useM at *
 simp only [List.length_append, List.length_map] at *
 omega
theorem RP.small {d : DiskT} (h : RP d) : Small d := by
 refine ⟨by have := h.ino; omega, by have := h.dirL; omega, by have := h.mov; omega, by have := h.amt; have := h.room1; omega, fun x hx => ?_, fun x hx => ?_⟩
 ·have := Ppl (h.dirB x hx); omega
 ·obtain ⟨i, hi, rfl⟩ := List.getElem_of_mem hx
  have h1 := Ppl (Pow (h.ok i hi))
  have h2 := Pbdq (h.ok i hi)
  omega
theorem Pmo (a b : List MoveT) : makes (a ++ b) = makes a ++ makes b := by
 unfold makes; rw [List.filter_append, List.map_append]
theorem RP.right {d : DiskT} (h : RP d) : Right d := by
 refine ⟨h.small, ?_⟩
 have hd := h.dirL
 unfold diskS rg
 simp only [Zd, Zq]
 refine ⟨⟨h.room0, h.room1⟩, ⟨h.n1, h.n2⟩, by have := h.ino; omega, by have := h.mov; omega, by omega, by rw [Pzq]; exact h.amt, Pda.2 fun i hi => ?_, Pda.2 fun i hi => ?_, Pda.2 fun i hi => ?_⟩
 ·rw [Pyv hi, Zd]
  refine ⟨?_, ?_⟩
  ·unfold pI rg upI
   rw [Zg hi]
   obtain ⟨a, b, c, e⟩ := h.inr _ (List.getElem_mem hi)
   simp only [Zd, Zq]
   refine ⟨⟨a, b⟩, ⟨c, e⟩, ?_⟩
   by_cases i0 : i = 0
   ·simp [i0]
   ·have := h.asc
    rw [List.pairwise_map, List.pairwise_iff_getElem] at this
    have := this (i - 1) i (by omega) hi (by omega)
    rw [Zg (show i - 1 < d.2.2.1.length by omega)]
    simp [i0, this]
  ·rw [← Ptr, Zq]
   exact h.sup _ (List.mem_map.2 ⟨_, List.getElem_mem hi, rfl⟩)
 ·unfold pD upD
  rw [Zg hi]
  simp only [Zd, Bool.not_eq_true']
  refine ⟨h.dirB _ (List.getElem_mem hi), ?_, ?_, ?_⟩
  ·by_cases i0 : i = 0
   ·simp [i0]
   ·have := h.srt
    unfold Srt at this
    rw [List.pairwise_iff_getElem] at this
    have := this (i - 1) i (by omega) hi (by omega)
    rw [Zg (show i - 1 < d.2.2.2.1.length by omega)]
    simp [i0, this]
  ·exact Ptj.2 (h.sub _ (List.mem_append_left _ (List.mem_map.2 ⟨_, List.getElem_mem hi, rfl⟩)))
  ·rw [← Ptq, decide_eq_false_iff_not]
   intro hm
   have hu := (List.nodup_append.1 h.used).1
   rw [← List.take_append_drop i d.2.2.2.1, List.map_append, List.drop_eq_getElem_cons hi, List.map_cons] at hu
   exact (List.nodup_append.1 hu).2.2 _ hm _ List.mem_cons_self rfl
 ·unfold pMS
  rw [Zg hi]
  simp only [Zd]
  refine ⟨?_, h.ok i hi⟩
  by_cases c : d.2.2.2.2[i].1 = 1
  ·have hm : makes d.2.2.2.2 = makes (d.2.2.2.2.take i) ++ d.2.2.2.2[i].2.2.2 :: makes (d.2.2.2.2.drop (i + 1)) := by
    conv => lhs; rw [← List.take_append_drop i d.2.2.2.2, List.drop_eq_getElem_cons hi, Pmo]
    congr 1
    unfold makes
    rw [List.filter_cons, if_pos (by simp [c]), List.map_cons]
   have hu := h.used
   have hs := h.sub
   unfold useM at hu hs
   rw [hm] at hu hs
   obtain ⟨u1, u2, u3⟩ := List.nodup_append.1 hu
   obtain ⟨u4, u5, u6⟩ := List.nodup_append.1 u2
   have e1 : hasI d d.2.2.2.2[i].2.2.2 = true := Ptj.2 (hs _ (by simp))
   have e2 : linkB d.2.2.2.1 d.2.2.2.2[i].2.2.2 = false := by
    rw [← Ptq, decide_eq_false_iff_not]
    exact fun hx => u3 _ hx _ (by simp) rfl
   have e3 : madeB (d.2.2.2.2.take i) d.2.2.2.2[i].2.2.2 = false := by
    rw [← Pvl, decide_eq_false_iff_not]
    exact fun hx => u6 _ hx _ List.mem_cons_self rfl
   rw [e1, e2, e3]; simp
  ·simp [c]
structure Named (l : List LinkT) (u : List Int) : Prop where
 srt : Srt l
 nm : ∀ x ∈ l, nameB x.1 = true ∧ x.2 ∈ u
 nd : (l.map (·.2)).Nodup
theorem Pbbw (p : LinkT → Bool) (x : LinkT) (l : List LinkT) : (insM p x l).Perm (x :: l) := by
 unfold insM
 have := List.perm_middle (a := x) (l₁ := l.takeWhile fun y => !p y) (l₂ := l.dropWhile fun y => !p y)
 rwa [List.takeWhile_append_dropWhile] at this
theorem Named.mono {l : List LinkT} {u v : List Int} (h : Named l u) (hs : ∀ n ∈ u, n ∈ v) : Named l v := ⟨h.srt, fun x hx => ⟨(h.nm x hx).1, hs _ (h.nm x hx).2⟩, h.nd⟩
theorem Named.filter {l : List LinkT} {u : List Int} (h : Named l u) (p : LinkT → Bool) : Named (l.filter p) u := by
 refine ⟨h.srt.filter _, fun x hx => h.nm x (List.mem_filter.1 hx).1, ?_⟩
 exact List.Nodup.sublist (List.Sublist.map _ List.filter_sublist) h.nd
theorem Named.with {l : List LinkT} {u : List Int} (h : Named l u) {x : LinkT} (hx : nameB x.1 = true) (hu : x.2 ∈ u) (hn : x.2 ∉ (Peo l x.1).map (·.2)) : Named (withS l x) u := by
 have hw := h.filter (fun y => !decide (y.1 = x.1))
 have hne : ∀ y ∈ Peo l x.1, y.1 ≠ x.1 := fun y hy => (Phk.1 hy).2
 unfold withS
 rw [Poa hne]
 refine ⟨Pqz hw.srt hne, fun y hy => ?_, ?_⟩
 ·rcases Pbeh.1 hy with rfl | hy
  ·exact ⟨hx, hu⟩
  ·exact hw.nm y hy
 ·rw [show linkI (Peo l x.1) x = insM (fun y => !strLt y.1 x.1) x (Peo l x.1) from rfl]
  refine ((Pbbw _ _ _).map _).nodup_iff.2 ?_
  rw [List.map_cons]
  exact List.nodup_cons.2 ⟨hn, hw.nd⟩
theorem Pyj {l : List LinkT} {n : Zb} (h : 0 ≤ at? l n) : (n, idAt l n) ∈ l := by
 obtain ⟨i, hi, he, hp, hq⟩ := Qrg (p := fun x : LinkT => decide (x.1 = n)) (l := l) (by unfold at? at h; omega)
 have e : (at? l n).toNat = i := by unfold at?; rw [he]; simp
 unfold idAt
 rw [e, Zg hi]
 have hp : l[i].1 = n := of_decide_eq_true hp
 rw [← hp]
 exact List.getElem_mem hi
theorem Pbgi {l : List LinkT} (hn : (l.map (·.2)).Nodup) {x y : LinkT} (hx : x ∈ l) (hy : y ∈ l) (h : x.2 = y.2) : x = y := by
 obtain ⟨i, hi, rfl⟩ := List.getElem_of_mem hx
 obtain ⟨j, hj, rfl⟩ := List.getElem_of_mem hy
 rw [List.Nodup, List.pairwise_map, List.pairwise_iff_getElem] at hn
 rcases Nat.lt_trichotomy i j with c | c | c
 ·exact absurd h (hn i j hi hj c)
 ·subst c; rfl
 ·exact absurd h.symm (hn j i hj hi c)
theorem Named.apply {l : List LinkT} {u : List Int} {m : MoveT} (h : Named l u) (ho : (Pev l m).2 = true) (hm : m.1 = 1 → m.2.2.2 ∉ u) : Named (Pev l m).1 (u ++ makes [m]) := by
 have hn := Pow ho
 unfold Pev at ho ⊢
 rw [if_neg (by rw [hn]; simp)] at ho ⊢
 have e1 : m.1 = 1 → makes [m] = [m.2.2.2] := fun c => by simp [makes, c]
 split at ho
 ·rename_i c
  rw [if_pos c, e1 c.1]
  refine (h.mono (v := u ++ [m.2.2.2]) fun n hn => by simp [hn]).with hn (by simp) ?_
  rw [Pqf (Pbfc.1 c.2.2)]
  intro hx
  obtain ⟨y, hy, e⟩ := List.mem_map.1 hx
  exact hm c.1 (e ▸ (h.nm y hy).2)
 ·rename_i c1
  rw [if_neg c1]
  split at ho
  ·rename_i c
   rw [if_pos c]
   have hi := Pyj c.2.2.1
   refine ((h.filter fun y => !decide (y.1 = m.2.1)).mono (v := u ++ makes [m]) fun n hn => by simp [hn]).with c.2.2.2.1 (List.mem_append_left _ (h.nm _ hi).2) ?_
   intro hx
   obtain ⟨y, hy, e⟩ := List.mem_map.1 hx
   have hy := (Phk.1 hy).1
   have := Pbgi h.nd (Phk.1 hy).1 hi e
   exact (Phk.1 hy).2 (by rw [this])
  ·rename_i c2
   rw [if_neg c2]
   split at ho
   ·rename_i c
    rw [if_pos c]
    exact (h.filter _).mono fun n hn => by simp [hn]
   ·cases ho
theorem RP.named {d : DiskT} (h : RP d) : ∀ i, i ≤ d.2.2.2.2.length → Named (Pir d i) (d.2.2.2.1.map (·.2) ++ makes (d.2.2.2.2.take i))
 | 0, _ => by
  unfold Pir Pfn
  refine ⟨h.srt, fun x hx => ⟨h.dirB x hx, List.mem_append_left _ (List.mem_map.2 ⟨x, hx, rfl⟩)⟩, (List.nodup_append.1 h.used).1⟩
 | i + 1, hi => by
  have ih := h.named i (by omega)
  have hi' : i < d.2.2.2.2.length := by omega
  have ht : d.2.2.2.2.take (i + 1) = d.2.2.2.2.take i ++ [d.2.2.2.2[i]] := by rw [List.take_add_one, Zg hi']; rfl
  have := ih.apply (m := d.2.2.2.2[i]) (h.ok i hi') (fun c hx => by
   have hu := h.used
   unfold useM at hu
   rw [← List.take_append_drop i d.2.2.2.2, List.drop_eq_getElem_cons hi', Pmo, ← List.append_assoc] at hu
   have := (List.nodup_append.1 hu).2.2 _ hx
   refine this d.2.2.2.2[i].2.2.2 ?_ rfl
   unfold makes
   rw [List.filter_cons, if_pos (by simp [c]), List.map_cons]
   exact List.mem_cons_self)
  unfold Pir at this ⊢
  rw [Pnt hi', ht, Pmo, ← List.append_assoc]
  exact this
theorem RP.named' {d : DiskT} (h : RP d) (i : Nat) : Named (Pir d i) (useM d) := by
 by_cases c : i ≤ d.2.2.2.2.length
 ·refine (h.named i c).mono fun n hn => ?_
  unfold useM
  rcases List.mem_append.1 hn with hn | hn
  ·exact List.mem_append_left _ hn
  ·refine List.mem_append_right _ ?_
   rw [← List.take_append_drop i d.2.2.2.2, Pmo]
   exact List.mem_append_left _ hn
 ·have := h.named _ (Nat.le_refl _)
  unfold Pir at this ⊢
  rw [List.take_of_length_le (show d.2.2.2.2.length ≤ i by omega)]
  rwa [List.take_length] at this
theorem RP.file {d : DiskT} (h : RP d) {n : Zb} : fileM d n < 0 ↔ at? (nowM d) n < 0 := by
 unfold fileM
 by_cases c : at? (nowM d) n < 0
 ·rw [Zt c]; simp [c]
 ·rw [Zf c]
  simp only [Zz, c, iff_false]
  intro hx
  have hm := Pyj (show 0 ≤ at? (nowM d) n by omega)
  have hi := h.sub _ ((h.named' d.2.2.2.2.length).nm _ hm).2
  obtain ⟨x, hx1, hx2⟩ := List.mem_map.1 hi
  have := Qlb.1 hx x hx1
  simp only [decide_eq_false_iff_not] at this
  exact this hx2
theorem Pbab {d : DiskT} : nowM d = Pfn d.2.2.2.1 d.2.2.2.2 := by unfold nowM Pir; rw [List.take_length]
theorem Pbdp (a b : List Peg) : amtI (a ++ b) = amtI a + amtI b := by unfold amtI; rw [List.map_append, List.sum_append]
theorem Pbgj {dir : List LinkT} {ms : List MoveT} {m : MoveT} (h : ∀ i (hi : i < ms.length), (Pev (Pfn dir (ms.take i)) ms[i]).2 = true) (hm : (Pev (Pfn dir ms) m).2 = true) :
  ∀ i (hi : i < (ms ++ [m]).length), (Pev (Pfn dir ((ms ++ [m]).take i)) (ms ++ [m])[i]).2 = true := by
 intro i hi
 by_cases c : i < ms.length
 ·rw [List.take_append_of_le_length (by omega), List.getElem_append_left c]
  exact h i c
 ·have e : i = ms.length := by simp only [List.length_append, List.length_singleton] at hi; omega
  subst e
  rw [List.take_append_of_le_length (Nat.le_refl _), List.take_length]
  simpa using hm
theorem RP.made {d : DiskT} (h : RP d) {n : Zb} (hn : nameB n = true) (hf : fileM d n < 0) (hi : d.2.2.1.length < 10) (hm : d.2.2.2.2.length < 20) (hx : d.2.1 < 1000000) :
  RP (d.1, d.2.1 + 1, d.2.2.1 ++ [(d.2.1, ⟨#[]⟩, 0)], d.2.2.2.1, d.2.2.2.2 ++ [(1, n, ⟨#[]⟩, d.2.1)]) := by
 have hm1 : makes [((1, n, ⟨#[]⟩, d.2.1) : MoveT)] = [d.2.1] := by simp [makes]
 have hlt : ∀ n ∈ d.2.2.1.map (·.1), n < d.2.1 := fun n hn => by
  obtain ⟨x, hx1, rfl⟩ := List.mem_map.1 hn
  have := h.inr x hx1
  omega
 have hids : useM (d.1, d.2.1 + 1, d.2.2.1 ++ [(d.2.1, (⟨#[]⟩ : Zb), 0)], d.2.2.2.1, d.2.2.2.2 ++ [(1, n, ⟨#[]⟩, d.2.1)]) = useM d ++ [d.2.1] := by
  unfold useM
  simp only
  rw [Pmo, hm1, List.append_assoc]
 refine ⟨h.room0, h.room1, by have := h.n1; simp only; omega, by simp only; omega, by simp only [List.length_append, List.length_singleton]; omega, by simp only [List.length_append, List.length_singleton]; omega, ?_, ?_, ?_, h.srt, h.dirB, ?_, ?_, ?_, ?_⟩
 ·simp only [Pbdp]
  have := h.amt
  have e : amtI [((d.2.1, ⟨#[]⟩, 0) : Peg)] = 0 := rfl
  omega
 ·simp only [List.map_append, List.map_cons, List.map_nil]
  rw [List.pairwise_append]
  refine ⟨h.asc, by simp, fun a ha b hb => ?_⟩
  simp only [List.mem_singleton] at hb
  subst hb
  exact hlt a ha
 ·intro x hx
  simp only [List.mem_append, List.mem_singleton] at hx
  rcases hx with hx | rfl
  ·obtain ⟨a, b, c, e⟩ := h.inr x hx
   exact ⟨a, by simp only; omega, c, e⟩
  ·have := h.n1
   exact ⟨by simp only; omega, by simp only; omega, by simp, by simp⟩
 ·rw [hids]
  refine List.nodup_append.2 ⟨h.used, by simp, fun a ha b hb => ?_⟩
  simp only [List.mem_singleton] at hb
  have := hlt a (h.sub a ha)
  omega
 ·rw [hids]
  intro a ha
  simp only [List.map_append, List.map_cons, List.map_nil]
  rcases List.mem_append.1 ha with ha | ha
  ·exact List.mem_append_left _ (h.sub a ha)
  ·exact List.mem_append_right _ ha
 ·rw [hids]
  intro a ha
  simp only [List.map_append, List.map_cons, List.map_nil] at ha
  rcases List.mem_append.1 ha with ha | ha
  ·exact List.mem_append_left _ (h.sup a ha)
  ·exact List.mem_append_right _ ha
 ·refine Pbgj h.ok ?_
  change (Pev (Pfn d.2.2.2.1 d.2.2.2.2) _).2 = true
  rw [← Pbab]
  unfold Pev
  simp only [hn]
  rw [if_neg (by simp), if_pos ⟨trivial, trivial, h.file.1 hf⟩]
theorem Pbfv {l : List Peg} {i : Nat} {y : Peg} (hi : i < l.length) (he : y.1 = l[i].1) : (l.set i y).map (·.1) = l.map (·.1) := by
 rw [List.map_set]
 refine List.ext_getElem (by simp) fun j hj hj' => ?_
 rw [List.getElem_set]
 split
 ·rename_i e; subst e; simpa using he
 ·rfl
theorem RP.set {d : DiskT} (h : RP d) {i : Nat} {y : Peg} (hi : i < d.2.2.1.length) (he : y.1 = d.2.2.1[i].1) (h0 : 0 ≤ y.2.2) (h1 : y.2.2 ≤ y.2.1.size) (ha : (amtI (d.2.2.1.set i y) : Int) ≤ d.1) :
  RP (d.1, d.2.1, d.2.2.1.set i y, d.2.2.2.1, d.2.2.2.2) := by
 have hs := Pbfv hi he
 refine ⟨h.room0, h.room1, h.n1, h.n2, by simp only [List.length_set]; exact h.ino, h.mov, ha, by simp only [hs]; exact h.asc, fun x hx => ?_, h.srt, h.dirB, h.used, fun n hn => by simp only [hs]; exact h.sub n hn, fun n hn => by simp only [hs] at hn; exact h.sup n hn, h.ok⟩
 simp only at hx
 rcases List.mem_or_eq_of_mem_set hx with hx | rfl
 ·exact h.inr x hx
 ·obtain ⟨a, b, _, _⟩ := h.inr _ (List.getElem_mem hi)
  exact ⟨by rw [he]; exact a, by rw [he]; exact b, h0, h1⟩
end
end Go.Proofs.YtbkcbfkehncocaaGreatDoor.Rx
