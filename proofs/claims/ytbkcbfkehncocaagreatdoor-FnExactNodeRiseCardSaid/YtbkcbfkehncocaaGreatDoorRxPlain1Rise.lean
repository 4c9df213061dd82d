/- Plain lemmas, part 1. No condition beside those that each theorem states. -/
import Derived.Test.YtbkcbfkehncocaaGreatDoorRxFnsBRise
set_option linter.unusedVariables false
set_option linter.unusedSimpArgs false
namespace Go.Proofs.YtbkcbfkehncocaaGreatDoor.Rx
section
abbrev U0 := Zb × Int
abbrev U1 := Int × Int × Int × Int × Int × Zb × Int × Int
abbrev U2 := Int × Zb
abbrev U3 := Int × Int
abbrev U4 := Zb × U0
abbrev U5 := Zb × Zb
abbrev U6 := List Int × List Int × List Int
abbrev U7 := Int × Int × Int × Int × Int × Int × Int × Int × List (U2) × Int × U6
abbrev U8 := Int × Int × List (Int × U0) × List (U0) × List (Int × U4)
abbrev U9 := Zb × List Int
abbrev U10 := Zb × Bool
abbrev U11 := Int × Zb × U5
abbrev U12 := List (U4) × List Int × List (U1)
abbrev U13 := List Zb × Int
abbrev U14 := List Zb × Bool × List Zb × Int × Zb × List (U3)
abbrev U15 := Zb × Int × U3
abbrev U16 := List Zb × Bool
abbrev U17 := List Int × List Int
abbrev U18 := Zb × Zb × List Int × List Int × U0
abbrev U19 := Zb × Bool × List (U3) × List (U3)
abbrev U20 := List Zb × Bool × List Zb
abbrev LinkT := Zb × Int
abbrev Pfp := Int × Zb × Int
abbrev MoveT := Int × Zb × Zb × Int
abbrev DiskT := Int × Int × List Pfp × List LinkT × List MoveT
theorem Pvp (k : Nat) (a b c : Int) : Pao.f k a b c = some (decide (b ≤ a) && decide (a ≤ c)) := by
 unfold Pao.f
 cases decide (b ≤ a) <;> rfl
theorem Pdx (k : Nat) (a b c : Int) : Paa.f k a b c = some (decide (b ≤ a) && decide (a ≤ c)) := Pvp k a b c
def chB (b : Int) : Bool := (decide (97 ≤ b) && decide (b ≤ 122)) || (decide (48 ≤ b) && decide (b ≤ 57)) || decide (b = 46)
def nameB (s : Zb) : Bool := decide (1 ≤ (s.size : Int)) && decide ((s.size : Int) ≤ 12) && (List.range s.size).all fun i => chB (Qmy s i)
theorem Pxo {S X : Type} (b : Int) (x : Option (S ⊕ X ⊕ Bool)) :
  (bif decide (97 ≤ b) then (bif decide (b ≤ 122) then x else (bif decide (48 ≤ b) then (bif decide (b ≤ 57) then x else (bif !(decide (b = 46)) then some (.inr (.inr false)) else x)) else (bif !(decide (b = 46)) then some (.inr (.inr false)) else x)))
   else (bif decide (48 ≤ b) then (bif decide (b ≤ 57) then x else (bif !(decide (b = 46)) then some (.inr (.inr false)) else x)) else (bif !(decide (b = 46)) then some (.inr (.inr false)) else x))) = if chB b then x else some (.inr (.inr false)) := by
 unfold chB
 cases decide (97 ≤ b) <;> cases decide (b ≤ 122) <;> cases decide (48 ≤ b) <;> cases decide (b ≤ 57) <;> cases decide (b = 46) <;> rfl
theorem Plu {k} (hk : Zk k) (s : Zb) (hs : Zh s.size) : Pcc.f k s = some (nameB s) := by
 unfold Pcc.f nameB
 rw [Pvp]
 simp only [Zo]
 cases h : (decide (1 ≤ (s.size : Int)) && decide ((s.size : Int) ≤ 12)) with
 | false => rfl
 | true =>
  simp only [Zx, Zz, Bool.true_and]
  have key := Qqt (B := Pcc.b0 k) s.size (fun i => (s, false, (i : Int))) (fun i => chB (Qmy s i)) (.inl false) (.inr false) (fun i hi _ => by
   have e1 : decide ((i : Int) < (s.size : Int)) = true := by simp; omega
   have e2 : inb? s.size (i : Int) = some i := by rw [Zi, Zn]
   unfold Pcc.b0
   dsimp only
   simp only [e1, Zy, e2, Zo, Pxo]
   rw [Zw]
   rfl) (fun _ => by
   have e1 : decide ((s.size : Int) < (s.size : Int)) = false := by simp
   unfold Pcc.b0
   dsimp only
   rw [e1]; rfl) k (by omega)
  simp only [Zu] at key
  rw [key]
  cases (List.range s.size).all fun i => chB (Qmy s i) <;> rfl
theorem Pmj {k} (hk : Zk k) (s : Zb) (hs : Zh s.size) : Pbl.f k s = some (nameB s) := by
 unfold Pbl.f nameB
 have key := Qqt (B := Pbl.b0 k) s.size (fun i => (s, false, (i : Int))) (fun i => chB (Qmy s i)) (.inl (s, false)) (.inr false) (fun i hi _ => by
  have e1 : decide ((i : Int) < (s.size : Int)) = true := by simp; omega
  have e2 : inb? s.size (i : Int) = some i := by rw [Zi, Zn]
  unfold Pbl.b0
  dsimp only
  simp only [e1, Zy, e2, Zo, Pxo]
  rw [Zw]
  rfl) (fun _ => by
  have e1 : decide ((s.size : Int) < (s.size : Int)) = false := by simp
  unfold Pbl.b0
  dsimp only
  rw [e1]; rfl) k (by omega)
 simp only [Zu] at key
 rw [key]
 cases (List.range s.size).all fun i => chB (Qmy s i) with
 | false => simp
 | true =>
  simp only [if_true, Zo, Bool.and_true]
  unfold Pbl.d0
  rw [Pdx]; rfl
theorem Pbhj {k} (hk : Zk k) (l : List LinkT) (n : Zb) (hl : l.length ≤ 4194304) : Pfw.f k l n = some (idxOf (fun x => decide (x.1 = n)) l) := by
 unfold Pfw.f idxOf
 have key := Qqy (B := Pfw.b0 k) l (fun i => (l, n, 0, (i : Int))) (fun x => decide (x.1 = n)) (fun i => .inr (i : Int)) (.inl 0) (fun i hi => by
  have e1 := Zp (i := i) (n := l.length)
  have e2 := Zp1 (i := i) (n := l.length)
  unfold Pfw.b0
  dsimp only
  simp only [e1, Zy, e2, Zo, Zg hi]
  rw [Zw]
  rfl) (by
  have e1 := Zo1 (n := l.length)
  unfold Pfw.b0
  dsimp only
  rw [e1]; rfl) k (by omega)
 simp only [Zu] at key
 rw [key]
 cases l.findIdx? (fun x => decide (x.1 = n)) <;> rfl
theorem Poo {k} (hk : Zk k) (l : List LinkT) (n : Int) (hl : l.length ≤ 4194304) : Pcb.f k l n = some (l.any fun x => decide (x.2 = n)) := by
 rw [Qrm]
 unfold Pcb.f idxOf
 have key := Qqy (B := Pcb.b0 k) l (fun i => (l, n, false, (i : Int))) (fun x => decide (x.2 = n)) (fun i => .inr true) (.inl false) (fun i hi => by
  have e1 := Zp (i := i) (n := l.length)
  have e2 := Zp1 (i := i) (n := l.length)
  unfold Pcb.b0
  dsimp only
  simp only [e1, Zy, e2, Zo, Zg hi]
  rw [Zw]
  rfl) (by
  have e1 := Zo1 (n := l.length)
  unfold Pcb.b0
  dsimp only
  rw [e1]; rfl) k (by omega)
 simp only [Zu] at key
 rw [key]
 cases l.findIdx? (fun x => decide (x.2 = n)) with
 | none => rfl
 | some i => simp
theorem Pbbc {k} (hk : Zk k) (l : List MoveT) (n : Int) (hl : l.length ≤ 4194304) : Pej.f k l n = some (l.any fun x => decide (x.1 = 1) && decide (x.2.2.2 = n)) := by
 rw [Qrm]
 unfold Pej.f idxOf
 have key := Qqy (B := Pej.b0 k) l (fun i => (l, n, false, (i : Int))) (fun x => decide (x.1 = 1) && decide (x.2.2.2 = n)) (fun i => .inr true) (.inl false) (fun i hi => by
  have e1 := Zp (i := i) (n := l.length)
  have e2 := Zp1 (i := i) (n := l.length)
  unfold Pej.b0
  dsimp only
  simp only [e1, Zy, e2, Zo, Zg hi]
  rw [Zw]
  cases decide (l[i].1 = 1) <;> cases decide (l[i].2.2.2 = n) <;> rfl) (by
  have e1 := Zo1 (n := l.length)
  unfold Pej.b0
  dsimp only
  rw [e1]; rfl) k (by omega)
 simp only [Zu] at key
 rw [key]
 cases l.findIdx? (fun x => decide (x.1 = 1) && decide (x.2.2.2 = n)) with
 | none => rfl
 | some i => simp
theorem Pti {k} (hk : Zk k) (d : DiskT) (n : Int) (hl : Zh d.2.2.1.length) : Pdi.f k d n = some (idxOf (fun x => decide (x.1 = n)) d.2.2.1) := by
 unfold Pdi.f idxOf
 have key := Qqy (B := Pdi.b0 k) d.2.2.1 (fun i => (n, 0, (i : Int), d)) (fun x => decide (x.1 = n)) (fun i => .inr (i : Int)) (.inl 0) (fun i hi => by
  have e1 := Zp (i := i) (n := d.2.2.1.length)
  have e2 := Zp1 (i := i) (n := d.2.2.1.length)
  unfold Pdi.b0
  dsimp only
  simp only [e1, Zy, e2, Zo, Zg hi]
  rw [Zw]
  rfl) (by
  have e1 := Zo1 (n := d.2.2.1.length)
  unfold Pdi.b0
  dsimp only
  rw [e1]; rfl) k (by omega)
 simp only [Zu] at key
 try simp only [Prod.eta]
 rw [key]
 cases d.2.2.1.findIdx? (fun x => decide (x.1 = n)) <;> rfl
theorem Pbhd {k} (hk : Zk k) (l : List LinkT) (n : Zb) (hl : l.length ≤ 4194304) : Pia.f k l n = some (idxOf (fun x => decide (x.1 = n)) l) := by
 unfold Pia.f Pal.f idxOf
 have key := Qqy (B := Pal.b0 k) l (fun i => (l, 0, (l.length : Int), (i : Int), n)) (fun x => decide (x.1 = n)) (fun i => .inr (i : Int)) (.inl 0) (fun i hi => by
  have e1 := Zp (i := i) (n := l.length)
  have e2 := Zp1 (i := i) (n := l.length)
  unfold Pal.b0 Pjj.f
  dsimp only
  simp only [e1, Zy, e2, Zo, Zg hi]
  rw [Zw]
  rfl) (by
  have e1 := Zo1 (n := l.length)
  unfold Pal.b0
  dsimp only
  rw [e1]; rfl) k (by omega)
 simp only [Zu] at key
 rw [key]
 cases l.findIdx? (fun x => decide (x.1 = n)) <;> rfl
theorem Psr {k} (hk : Zk k) (d : DiskT) (n : Int) (hl : Zh d.2.2.1.length) : Pfq.f k d n = some (idxOf (fun x => decide (x.1 = n)) d.2.2.1) := by
 unfold Pfq.f Pai.f idxOf
 have key := Qqy (B := Pai.b0 k) d.2.2.1 (fun i => (d.2.2.1, 0, (d.2.2.1.length : Int), (i : Int), n)) (fun x => decide (x.1 = n)) (fun i => .inr (i : Int)) (.inl 0) (fun i hi => by
  have e1 := Zp (i := i) (n := d.2.2.1.length)
  have e2 := Zp1 (i := i) (n := d.2.2.1.length)
  unfold Pai.b0 Pht.f
  dsimp only
  simp only [e1, Zy, e2, Zo, Zg hi]
  rw [Zw]
  rfl) (by
  have e1 := Zo1 (n := d.2.2.1.length)
  unfold Pai.b0
  dsimp only
  rw [e1]; rfl) k (by omega)
 simp only [Zu] at key
 rw [key]
 cases d.2.2.1.findIdx? (fun x => decide (x.1 = n)) <;> rfl
theorem Prj {k} (hk : Zk k) (l : List Int) (n : Int) (hl : l.length ≤ 4194304) : Pdj.f k l n = some (decide (n ∈ l)) := by
 unfold Pdj.f Pdh.f
 have key := Qqy (B := Pdh.b0 k) l (fun i => (l, n, 0, (l.length : Int), (i : Int))) (fun x => decide (n = x)) (fun i => .inr (i : Int)) (.inl 0) (fun i hi => by
  have e1 := Zp (i := i) (n := l.length)
  have e2 := Zp1 (i := i) (n := l.length)
  unfold Pdh.b0
  dsimp only
  simp only [e1, Zy, e2, Zo, Zg hi]
  rw [Zw]
  rfl) (by
  have e1 := Zo1 (n := l.length)
  unfold Pdh.b0
  dsimp only
  rw [e1]; rfl) k (by omega)
 simp only [Zu] at key
 rw [key]
 cases h : l.findIdx? (fun x => decide (n = x)) with
 | none =>
  have := List.findIdx?_eq_none_iff.1 h
  have : n ∉ l := fun hm => by simpa using this n hm
  simp [this, Pdh.d0]
 | some i =>
  obtain ⟨h1, h2, _⟩ := List.findIdx?_eq_some_iff_getElem.1 h
  have : n ∈ l := by
   have h2 : n = l[i] := of_decide_eq_true h2
   rw [h2]; exact List.getElem_mem h1
  simp [this]
def Pey (l : List LinkT) (n : Zb) : List LinkT := l.filter fun x => !decide (x.1 = n)
def insM (p : LinkT → Bool) (x : LinkT) (l : List LinkT) : List LinkT := l.takeWhile (fun y => !p y) ++ x :: l.dropWhile (fun y => !p y)
def withS (l : List LinkT) (x : LinkT) : List LinkT := insM (fun y => strLt x.1 y.1) x (Pey l x.1)
def linkI (l : List LinkT) (x : LinkT) : List LinkT := insM (fun y => !strLt y.1 x.1) x l
theorem Pme (l : List LinkT) (n : Zb) : (Pey l n).length ≤ l.length := List.length_filter_le _ _
theorem Psd (p : LinkT → Bool) (x : LinkT) (l : List LinkT) : (insM p x l).length = l.length + 1 := by
 unfold insM
 have := congrArg List.length (List.takeWhile_append_dropWhile (p := fun y => !p y) (l := l))
 simp only [List.length_append, Zl] at this ⊢
 omega
theorem Plw {α : Type} (p : α → Bool) : ∀ (l a : List α), l.foldl (fun a x => bif p x then a ++ [x] else a) a = a ++ l.filter p
 | [], a => by simp
 | x :: l, a => by
  rw [List.foldl_cons, Plw p l]
  cases h : p x <;> simp [h]
theorem Ptl {k} (hk : Zk k) (l : List LinkT) (n : Zb) (hl : l.length ≤ 4194304) : Pau.f k l n = some (Pey l n) := by
 unfold Pau.f
 have key := Qqp (B := Pau.b0 k) l (fun i a => (l, n, [], a, (i : Int))) (fun a x => bif !decide (x.1 = n) then a ++ [x] else a) (fun a => .inl ([], a)) [] (fun i hi => by
  have e1 := Zp (i := i) (n := l.length)
  have e2 := Zp1 (i := i) (n := l.length)
  rw [Plw]
  have hlen := List.length_filter_le (fun x => !decide (x.1 = n)) (l.take i)
  rw [List.length_take] at hlen
  unfold Pau.b0
  dsimp only
  simp only [e1, Zy, e2, Zo, Zg hi]
  rw [Zw, Qrr (by unfold limOf; simp only [List.length_append, List.length_nil, Zl]; omega)]
  cases !decide (l[i].1 = n) <;> rfl) (by
  have e1 := Zo1 (n := l.length)
  unfold Pau.b0
  dsimp only
  rw [e1]; rfl) k (by omega)
 simp only [Zu] at key
 rw [key, Plw]
 rfl
def putG (x : LinkT) (a : List LinkT × Bool) (y : LinkT) : List LinkT × Bool := bif !a.2 && strLt x.1 y.1 then (a.1 ++ [x, y], true) else (a.1 ++ [y], a.2)
def putE (x : LinkT) (a : List LinkT × Bool) : List LinkT := bif !a.2 then a.1 ++ [x] else a.1
theorem Pxr (x : LinkT) : ∀ (l a : List LinkT), l.foldl (putG x) (a, true) = (a ++ l, true)
 | [], a => by simp
 | y :: l, a => by
  rw [List.foldl_cons]
  have : putG x (a, true) y = (a ++ [y], true) := rfl
  rw [this, Pxr x l]; simp
theorem Pbei (x : LinkT) : ∀ (l a : List LinkT), putE x (l.foldl (putG x) (a, false)) = a ++ insM (fun y => strLt x.1 y.1) x l
 | [], a => by simp [putE, insM]
 | y :: l, a => by
  rw [List.foldl_cons]
  cases h : strLt x.1 y.1 with
  | true =>
   have : putG x (a, false) y = (a ++ [x, y], true) := by simp [putG, h]
   rw [this, Pxr]
   simp [putE, insM, List.takeWhile, List.dropWhile, h]
  | false =>
   have : putG x (a, false) y = (a ++ [y], false) := by simp [putG, h]
   rw [this, Pbei x l]
   simp [insM, List.takeWhile, List.dropWhile, h]
theorem Pvw (x : LinkT) : ∀ (l : List LinkT) (a : List LinkT × Bool), (l.foldl (putG x) a).1.length ≤ a.1.length + 2 * l.length
 | [], a => by simp
 | y :: l, a => by
  rw [List.foldl_cons]
  have := Pvw x l (putG x a y)
  have h2 : (putG x a y).1.length ≤ a.1.length + 2 := by
   unfold putG
   cases !a.2 && strLt x.1 y.1 <;> simp
  simp only [Zl]
  omega
theorem Pbbe {k} (hk : Zk k) (l : List LinkT) (x : LinkT) (hl : l.length ≤ 4194304) : Pdc.f k l x = some (withS l x) := by
 unfold Pdc.f
 rw [Ptl hk l x.1 hl]
 simp only [Zo]
 have hwl := Pme l x.1
 obtain ⟨w, hw⟩ : ∃ w, Pey l x.1 = w := ⟨_, rfl⟩
 unfold withS
 rw [hw] at hwl ⊢
 have key := Qqp (B := Pdc.b0 k) w (fun i a => (w, [], a.1, a.2, (i : Int), x.1, x.2)) (putG x) (fun a => .inl ([], a.1, a.2, x.1, x.2)) ([], false) (fun i hi => by
  have e1 := Zp (i := i) (n := w.length)
  have e2 := Zp1 (i := i) (n := w.length)
  have hlen := Pvw x (w.take i) ([], false)
  rw [List.length_take] at hlen
  simp only [List.length_nil] at hlen
  obtain ⟨a, ha⟩ : ∃ a, (w.take i).foldl (putG x) ([], false) = a := ⟨_, rfl⟩
  rw [ha] at hlen ⊢
  unfold Pdc.b0 Pdc.c0
  dsimp only
  simp only [e1, Zy, e2, Zo, Zg hi]
  unfold putG
  cases hb : a.2 with
  | true =>
   simp only [Zx, Zz, Bool.false_and, Zo, e2, Zg hi]
   rw [Qrr (by unfold limOf; simp only [List.length_append, List.length_nil, Zl]; omega)]
   simp only [e2, Zo, Zg hi]
   rw [Zw]
   rfl
  | false =>
   simp only [Bool.not_false, Zy, Bool.true_and, Zo]
   cases strLt x.1 w[i].1 with
   | true =>
    simp only [Zy]
    rw [Qrr (by unfold limOf; simp only [List.length_append, List.length_nil, Zl]; omega)]
    simp only [e2, Zo, Zg hi]
    rw [Qrr (by unfold limOf; simp only [List.length_append, List.length_nil, Zl]; omega)]
    simp only [Zo]
    rw [Zw]
    simp
   | false =>
    simp only [Zz, e2, Zo, Zg hi]
    rw [Qrr (by unfold limOf; simp only [List.length_append, List.length_nil, Zl]; omega)]
    simp only [Zo]
    rw [Zw]
    rfl) (by
  have e1 := Zo1 (n := w.length)
  unfold Pdc.b0
  dsimp only
  rw [e1]; rfl) k (by omega)
 simp only [Zu] at key
 rw [key]
 simp only [Zo]
 have := Pbei x w []
 have hlen := Pvw x w ([], false)
 simp only [List.length_nil, List.nil_append] at this hlen
 unfold Pdc.d0
 rw [← this]
 unfold putE
 cases hb : (w.foldl (putG x) ([], false)).2 with
 | true => simp
 | false =>
  simp only [Bool.not_false, Zy]
  rw [Qrr (by unfold limOf; simp only [List.length_append, List.length_nil, Zl]; omega)]
  rfl
theorem Pwg {α : Type} (p : α → Bool) (l : List α) : l.takeWhile (fun y => !p y) = l.take (match l.findIdx? p with | some i => i | none => l.length) ∧ l.dropWhile (fun y => !p y) = l.drop (match l.findIdx? p with | some i => i | none => l.length) := by
 induction l with
 | nil => simp
 | cons x l ih =>
  rw [List.findIdx?_cons]
  cases h : p x with
  | true => simp [List.takeWhile, List.dropWhile, h]
  | false =>
   simp only [List.takeWhile, List.dropWhile, h, Bool.not_false]
   rw [ih.1, ih.2]
   cases l.findIdx? p <;> simp
theorem Pul {k} (hk : Zk k) (l : List LinkT) (x : LinkT) (hl : l.length ≤ 4194304) : Pdu.f k l x = some (linkI l x) := by
 unfold Pdu.f
 have key := Qqy (B := Pdu.b0 k) l (fun i => (l, [], (i : Int), x.1, x.2)) (fun y => !strLt y.1 x.1) (fun i => .inl (l, [], (i : Int), x.1, x.2)) (.inl (l, [], (l.length : Int), x.1, x.2)) (fun i hi => by
  have e1 := Zp (i := i) (n := l.length)
  have e2 := Zp1 (i := i) (n := l.length)
  unfold Pdu.b0
  dsimp only
  simp only [e1, Zy, e2, Zo, Zg hi]
  rw [Zw]
  cases strLt l[i].1 x.1 <;> rfl) (by
  have e1 := Zo1 (n := l.length)
  unfold Pdu.b0
  dsimp only
  rw [e1]; rfl) k (by omega)
 simp only [Zu] at key
 rw [key]
 unfold linkI insM
 obtain ⟨t1, t2⟩ := Pwg (fun y : LinkT => !strLt y.1 x.1) l
 rw [t1, t2]
 have fin : ∀ i : Nat, i ≤ l.length → Pdu.d0 k (l, [], (i : Int), x.1, x.2) = some (l.take i ++ x :: l.drop i) := fun i hi => by
  unfold Pdu.d0 Pcs.f insF
  rw [if_pos ⟨rfl, by simp, by simp; omega, by simp only; omega⟩]
  simp
 cases h : l.findIdx? (fun y : LinkT => !strLt y.1 x.1) with
 | none => simp only [Zo]; exact fin l.length (Nat.le_refl _)
 | some i =>
  obtain ⟨h1, _⟩ := List.findIdx?_eq_some_iff_getElem.1 h
  simp only [Zo]; exact fin i (by omega)
theorem Pbdc {α : Type} {p : α → Option Bool} {q : α → Bool} {l : List α} (hp : ∀ x ∈ l, p x = some (q x)) (hl : l.length ≤ 9223372036854775806) : delG (some (idxOf q l)) p l = some (l.filter fun x => !q x) := by
 unfold delG idxOf
 simp only [Zo]
 cases h : l.findIdx? q with
 | none =>
  have := List.findIdx?_eq_none_iff.1 h
  rw [if_pos rfl, List.filter_eq_self.2 fun x hx => by simp [this x hx]]
 | some i =>
  obtain ⟨h1, h2, h3⟩ := List.findIdx?_eq_some_iff_getElem.1 h
  simp only
  rw [if_neg (by omega), if_pos ⟨by omega, by omega, hl⟩, Zn, Qqa (q := q) fun x hx => hp x (List.mem_of_mem_drop hx)]
  simp only [Option.map_some]
  congr 1
  conv => rhs; rw [← List.take_append_drop i l, List.filter_append, List.drop_eq_getElem_cons h1]
  rw [List.filter_cons, h2]
  simp only [Zx, Bool.false_eq_true, if_false]
  have : (l.take i).filter (fun x => !q x) = l.take i := by
   refine List.filter_eq_self.2 fun x hx => ?_
   obtain ⟨j, hj, rfl⟩ := List.getElem_of_mem hx
   rw [List.length_take] at hj
   simp only [List.getElem_take]
   have := h3 j (by omega)
   simpa using this
  rw [this]
theorem Pbht {k} (hk : Zk k) (l : List LinkT) (m : MoveT) (hl : l.length ≤ 4194304) : Pad.f k l m = some (l.filter fun x => !(decide (x.1 = m.2.1) || decide (x.1 = m.2.2.1))) := by
 have hp : ∀ x : LinkT, Pdz.f k x m = some (decide (x.1 = m.2.1) || decide (x.1 = m.2.2.1)) := fun x => by
  unfold Pdz.f
  cases decide (x.1 = m.2.1) <;> rfl
 have hi : Pac.f k l m = some (idxOf (fun x => decide (x.1 = m.2.1) || decide (x.1 = m.2.2.1)) l) := by
  unfold Pac.f idxOf
  have key := Qqy (B := Pac.b0 k) l (fun i => (l, 0, (l.length : Int), (i : Int), m)) (fun x => decide (x.1 = m.2.1) || decide (x.1 = m.2.2.1)) (fun i => .inr (i : Int)) (.inl 0) (fun i hi => by
   have e1 := Zp (i := i) (n := l.length)
   have e2 := Zp1 (i := i) (n := l.length)
   unfold Pac.b0
   dsimp only
   simp only [e1, Zy, e2, Zo, Zg hi, Prod.eta, hp]
   rw [Zw]
   rfl) (by
   have e1 := Zo1 (n := l.length)
   unfold Pac.b0
   dsimp only
   rw [e1]; rfl) k (by omega)
  simp only [Zu] at key
  try simp only [Prod.eta]
  rw [key]
  cases l.findIdx? (fun x => decide (x.1 = m.2.1) || decide (x.1 = m.2.2.1)) <;> rfl
 unfold Pad.f
 rw [hi]
 exact Pbdc (fun x _ => hp x) (by omega)
def at? (l : List LinkT) (n : Zb) : Int := idxOf (fun x => decide (x.1 = n)) l
def idAt (l : List LinkT) (n : Zb) : Int := match l[(at? l n).toNat]? with | some x => x.2 | none => 0
def Pep (l : List LinkT) (m : MoveT) : List LinkT × Bool :=
 if nameB m.2.1 = false then (l, false)
 else if m.1 = 1 ∧ m.2.2.1 = ⟨#[]⟩ ∧ at? l m.2.1 < 0 then (withS l (m.2.1, m.2.2.2), true)
 else if m.1 = 2 ∧ m.2.2.2 = 0 ∧ 0 ≤ at? l m.2.1 ∧ nameB m.2.2.1 = true ∧ m.2.2.1 ≠ m.2.1 then (withS (Pey l m.2.1) (m.2.2.1, idAt l m.2.1), true)
 else if m.1 = 3 ∧ m.2.2.2 = 0 ∧ m.2.2.1 = ⟨#[]⟩ ∧ 0 ≤ at? l m.2.1 then (Pey l m.2.1, true)
 else (l, false)
def Pnc (l : List LinkT) (m : MoveT) : List LinkT × Bool :=
 if m.1 = 1 ∧ m.2.2.1 = ⟨#[]⟩ ∧ at? l m.2.1 < 0 then (linkI l (m.2.1, m.2.2.2), true)
 else if m.1 = 2 ∧ m.2.2.2 = 0 ∧ 0 ≤ at? l m.2.1 ∧ m.2.2.1 ≠ m.2.1 ∧ nameB m.2.2.1 = true then (linkI (l.filter fun x => !(decide (x.1 = m.2.1) || decide (x.1 = m.2.2.1))) (m.2.2.1, idAt l m.2.1), true)
 else if m.1 = 3 ∧ m.2.2.1 = ⟨#[]⟩ ∧ m.2.2.2 = 0 ∧ 0 ≤ at? l m.2.1 then (l.take (at? l m.2.1).toNat ++ l.drop ((at? l m.2.1).toNat + 1), true)
 else (l, false)
theorem Psc {l : List LinkT} {n : Zb} (h : 0 ≤ at? l n) : inb? l.length (at? l n) = some (at? l n).toNat ∧ ∃ x, l[(at? l n).toNat]? = some x ∧ x.2 = idAt l n := by
 obtain ⟨h1, h2⟩ := Qrh (fun x : LinkT => decide (x.1 = n)) l
 have hlt : (at? l n).toNat < l.length := by unfold at? at *; omega
 refine ⟨Qqx h (by unfold at?; omega), _, Zg hlt, ?_⟩
 unfold idAt
 rw [Zg hlt]
theorem Pya {k} (hk : Zk k) (l : List LinkT) (m : MoveT) (hl : l.length ≤ 4194000) (h1 : Zh m.2.1.size) (h2 : Zh m.2.2.1.size) : Phc.f k l m = some (Pep l m) := by
 have hw : (Pey l m.2.1).length ≤ 4194304 := by have := Pme l m.2.1; omega
 unfold Phc.f
 rw [Pbhj hk l m.2.1 (by omega), Plu hk m.2.1 h1, Plu hk m.2.2.1 h2]
 simp only [Zo, Pbbe hk l _ (show l.length ≤ 4194304 by omega), Ptl hk l _ (show l.length ≤ 4194304 by omega), Pbbe hk (Pey l m.2.1) _ hw]
 change _ = some (Pep l m)
 have hat : idxOf (fun x => decide (x.1 = m.2.1)) l = at? l m.2.1 := rfl
 rw [hat]
 unfold Pep
 cases hn : nameB m.2.1 with
 | false => simp
 | true =>
  by_cases hp : 0 ≤ at? l m.2.1
  ·obtain ⟨e1, x, e2, e3⟩ := Psc hp
   have hp' : ¬ at? l m.2.1 < 0 := by omega
   simp only [e1, e2, e3, Zo, hp, hp', decide_true, decide_false, Zx, Zz, Zy]
   by_cases c1 : m.1 = 1 <;> by_cases c2 : m.1 = 2 <;> by_cases c3 : m.1 = 3 <;> by_cases c4 : m.2.2.2 = 0 <;> by_cases c5 : m.2.2.1 = ⟨#[]⟩ <;> by_cases c6 : m.2.2.1 = m.2.1 <;> cases c7 : nameB m.2.2.1 <;> simp [c1, c2, c3, c4, c5, c6, c7] <;> first | (exfalso; omega) | simp_all
  ·have hp' : at? l m.2.1 < 0 := by omega
   simp only [Zo, hp, hp', decide_true, decide_false, Zx, Zz, Zy]
   by_cases c1 : m.1 = 1 <;> by_cases c2 : m.1 = 2 <;> by_cases c3 : m.1 = 3 <;> by_cases c4 : m.2.2.2 = 0 <;> by_cases c5 : m.2.2.1 = ⟨#[]⟩ <;> simp [c1, c2, c3, c4, c5] <;> omega
theorem Pxa {k} (hk : Zk k) (l : List LinkT) (m : MoveT) (hl : l.length ≤ 4194000) (h2 : Zh m.2.2.1.size) : Pjt.f k l m = some (Pnc l m) := by
 unfold Pjt.f Pde.f
 rw [Qrr (by unfold limOf; simp only [List.length_nil]; omega)]
 simp only [Zo, List.nil_append, Pbhd hk l m.2.1 (show l.length ≤ 4194304 by omega), Pmj hk m.2.2.1 h2, Prod.eta, Pbht hk l m (show l.length ≤ 4194304 by omega), Pul hk l _ (show l.length ≤ 4194304 by omega)]
 have hf : (l.filter fun x => !(decide (x.1 = m.2.1) || decide (x.1 = m.2.2.1))).length ≤ 4194304 := by have := List.length_filter_le (fun x : LinkT => !(decide (x.1 = m.2.1) || decide (x.1 = m.2.2.1))) l; omega
 simp only [Pul hk _ _ hf]
 have hat : idxOf (fun x => decide (x.1 = m.2.1)) l = at? l m.2.1 := rfl
 rw [hat]
 unfold Pnc
 by_cases hp : 0 ≤ at? l m.2.1
 ·obtain ⟨e1, x, e2, e3⟩ := Psc hp
  have hp' : ¬ at? l m.2.1 < 0 := by omega
  obtain ⟨h3, h4⟩ := Qrh (fun x : LinkT => decide (x.1 = m.2.1)) l
  rw [hat] at h3 h4
  have ed : Pap.f k l (at? l m.2.1) (Zr (at? l m.2.1 + 1)) = some (l.take (at? l m.2.1).toNat ++ l.drop ((at? l m.2.1).toNat + 1)) := by
   unfold Pap.f delR
   rw [Zw, if_pos ⟨hp, by omega, by omega⟩, show (at? l m.2.1 + 1).toNat = (at? l m.2.1).toNat + 1 by omega]
  simp only [e1, e2, e3, ed, Zo, hp, hp', decide_true, decide_false, Zx, Zz, Zy]
  by_cases c1 : m.1 = 1 <;> by_cases c2 : m.1 = 2 <;> by_cases c3 : m.1 = 3 <;> by_cases c4 : m.2.2.2 = 0 <;> by_cases c5 : m.2.2.1 = ⟨#[]⟩ <;> by_cases c6 : m.2.2.1 = m.2.1 <;> cases c7 : nameB m.2.2.1 <;> simp [c1, c2, c3, c4, c5, c6, c7] <;> first | (exfalso; omega) | simp_all
 ·have hp' : at? l m.2.1 < 0 := by omega
  simp only [Zo, hp, hp', decide_true, decide_false, Zx, Zz, Zy]
  by_cases c1 : m.1 = 1 <;> by_cases c2 : m.1 = 2 <;> by_cases c3 : m.1 = 3 <;> by_cases c4 : m.2.2.2 = 0 <;> by_cases c5 : m.2.2.1 = ⟨#[]⟩ <;> simp [c1, c2, c3, c4, c5] <;> omega
def rg (a b c : Int) : Bool := decide (b ≤ a) && decide (a ≤ c)
theorem Pnd {b : Bool} {x : Option Bool} {y : Bool} (h : b = true → x = some y) : (bif !b then some false else x) = some (b && y) := by
 cases b with
 | true => simpa using h rfl
 | false => rfl
theorem Psh {a b : Int} {x : Option Bool} {y : Bool} (h : a ≤ b → x = some y) : (bif decide (b < a) then some false else x) = some (decide (a ≤ b) && y) := by
 by_cases c : a ≤ b
 ·have e1 : decide (b < a) = false := by simp; omega
  rw [e1, Zz, h c, Zt c]; rfl
 ·have e1 : decide (b < a) = true := by simp; omega
  rw [e1, Zf c]; rfl
def Pnu (l : List Pfp) : Int := l.foldl (fun n x => n + (x.2.1.size : Int)) 0
def amtI (l : List Pfp) : Nat := (l.map fun x => x.2.1.size).sum
theorem Poi : ∀ (l : List Pfp) (n : Int), l.foldl (fun n x => n + (x.2.1.size : Int)) n = n + amtI l
 | [], n => by simp [amtI]
 | x :: l, n => by
  rw [List.foldl_cons, Poi l]
  simp only [amtI, List.map_cons, List.sum_cons]
  omega
theorem Pbcs (l : List Pfp) (i : Nat) : amtI (l.take i) ≤ amtI l := by
 have := congrArg amtI (List.take_append_drop i l)
 unfold amtI at *
 rw [List.map_append, List.sum_append] at this
 omega
theorem Pyq {l : List Pfp} {i : Nat} (hi : i < l.length) : amtI (l.take i) + l[i].2.1.size ≤ amtI l := by
 have := Pbcs l (i + 1)
 rw [List.take_add_one, Zg hi] at this
 unfold amtI at *
 rw [List.map_append, List.sum_append] at this
 simpa using this
structure Small (d : DiskT) : Prop where
 ino : Zh d.2.2.1.length
 dir : Zh d.2.2.2.1.length
 mov : Zh d.2.2.2.2.length
 amt : amtI d.2.2.1 ≤ 1048576
 dirN : ∀ x ∈ d.2.2.2.1, Zh x.1.size
 movN : ∀ x ∈ d.2.2.2.2, Zh x.2.1.size ∧ Zh x.2.2.1.size
theorem Pth {k} (hk : Zk k) (d : DiskT) (hs : Small d) : Pdw.f k d = some (Pnu d.2.2.1) := by
 unfold Pdw.f
 have ha := hs.amt
 have hl := hs.ino
 have key := Qqp (B := Pdw.b0 k) d.2.2.1 (fun i a => (0, a, (i : Int), d)) (fun n x => n + (x.2.1.size : Int)) (fun a => .inl (0, a)) 0 (fun i hi => by
  have e1 := Zp (i := i) (n := d.2.2.1.length)
  have e2 := Zp1 (i := i) (n := d.2.2.1.length)
  have hb := Pyq hi
  rw [Poi]
  unfold Pdw.b0
  dsimp only
  simp only [e1, Zy, e2, Zo, Zg hi]
  rw [Zw, Zw]
  rfl) (by
  have e1 := Zo1 (n := d.2.2.1.length)
  unfold Pdw.b0
  dsimp only
  rw [e1]; rfl) k (by omega)
 simp only [Zu] at key
 try simp only [Prod.eta]
 rw [key]; rfl
theorem Pxb {k} (hk : Zk k) (d : DiskT) (hs : Small d) : Pcu.f k d = some (Pnu d.2.2.1) := by
 unfold Pcu.f
 have ha := hs.amt
 have hl := hs.ino
 have key := Qqp (B := Pcu.b0 k) d.2.2.1 (fun i a => (0, a, d.2.2.1, (d.2.2.1.length : Int), (i : Int))) (fun n x => n + (x.2.1.size : Int)) (fun a => .inl (0, a)) 0 (fun i hi => by
  have e1 := Zp (i := i) (n := d.2.2.1.length)
  have e2 := Zp1 (i := i) (n := d.2.2.1.length)
  have hb := Pyq hi
  rw [Poi]
  unfold Pcu.b0
  dsimp only
  simp only [e1, Zy, e2, Zo, Zg hi]
  rw [Zw, Zw]
  rfl) (by
  have e1 := Zo1 (n := d.2.2.1.length)
  unfold Pcu.b0
  dsimp only
  rw [e1]; rfl) k (by omega)
 simp only [Zu] at key
 rw [key]; rfl
def upI (l : List Pfp) (i : Nat) : Bool := decide (i = 0) || match l[i - 1]?, l[i]? with | some y, some x => decide (y.1 < x.1) | _, _ => false
def upD (l : List LinkT) (i : Nat) : Bool := decide (i = 0) || match l[i - 1]?, l[i]? with | some y, some x => strLt y.1 x.1 | _, _ => false
def hasI (d : DiskT) (n : Int) : Bool := !decide (idxOf (fun x => decide (x.1 = n)) d.2.2.1 < 0)
def madeB (l : List MoveT) (n : Int) : Bool := l.any fun x => decide (x.1 = 1) && decide (x.2.2.2 = n)
def linkB (l : List LinkT) (n : Int) : Bool := l.any fun x => decide (x.2 = n)
def pI (d : DiskT) (i : Nat) : Bool := match d.2.2.1[i]? with
 | some x => rg x.1 1 (d.2.1 - 1) && (rg x.2.2 0 (x.2.1.size : Int) && upI d.2.2.1 i)
 | none => false
def pIS (d : DiskT) (i : Nat) : Bool := match d.2.2.1[i]? with
 | some x => rg x.1 1 (d.2.1 - 1) && (rg x.2.2 0 (x.2.1.size : Int) && (upI d.2.2.1 i && (linkB d.2.2.2.1 x.1 || madeB d.2.2.2.2 x.1)))
 | none => false
def pD (d : DiskT) (i : Nat) : Bool := match d.2.2.2.1[i]? with
 | some x => nameB x.1 && (upD d.2.2.2.1 i && (hasI d x.2 && !linkB (d.2.2.2.1.take i) x.2))
 | none => false
def Pfx (dir : List LinkT) (ms : List MoveT) : List LinkT := ms.foldl (fun l m => (Pep l m).1) dir
def Pmf (dir : List LinkT) (ms : List MoveT) : List LinkT := ms.foldl (fun l m => (Pnc l m).1) dir
def makes (ms : List MoveT) : List Int := (ms.filter fun m => decide (m.1 = 1)).map (·.2.2.2)
def pMS (d : DiskT) (i : Nat) : Bool := match d.2.2.2.2[i]? with
 | some m => (!decide (m.1 = 1) || (hasI d m.2.2.2 && (!linkB d.2.2.2.1 m.2.2.2 && !madeB (d.2.2.2.2.take i) m.2.2.2))) && (Pep (Pfx d.2.2.2.1 (d.2.2.2.2.take i)) m).2
 | none => false
def pMI (d : DiskT) (i : Nat) : Bool := match d.2.2.2.2[i]? with
 | some m => (Pnc (Pmf d.2.2.2.1 (d.2.2.2.2.take i)) m).2 && (nameB m.2.1 && (!decide (m.1 = 1) || (hasI d m.2.2.2 && !decide (m.2.2.2 ∈ d.2.2.2.1.map (·.2) ++ makes (d.2.2.2.2.take i)))))
 | none => false
def diskS (d : DiskT) : Bool :=
 rg d.1 0 1048576 && (rg d.2.1 1 1000000 && (decide ((d.2.2.1.length : Int) ≤ 10) && (decide ((d.2.2.2.2.length : Int) ≤ 20) && (decide ((d.2.2.2.1.length : Int) ≤ 10) && (decide (Pnu d.2.2.1 ≤ d.1) &&
  ((List.range d.2.2.1.length).all (pIS d) && ((List.range d.2.2.2.1.length).all (pD d) && (List.range d.2.2.2.2.length).all (pMS d))))))))
def diskI (d : DiskT) : Bool :=
 rg d.1 0 1048576 && (rg d.2.1 1 1000000 && (decide ((d.2.2.1.length : Int) ≤ 10) && (decide (Pnu d.2.2.1 ≤ d.1) && (decide ((d.2.2.2.2.length : Int) ≤ 20) &&
  ((List.range d.2.2.1.length).all (pI d) && ((List.range d.2.2.2.1.length).all (pD d) && ((List.range d.2.2.2.2.length).all (pMI d) && decide (((d.2.2.2.1.map (·.2) ++ makes d.2.2.2.2).length : Int) = (d.2.2.1.length : Int)))))))))
theorem Pol : ∀ (ms : List MoveT) (l : List LinkT), (Pfx l ms).length ≤ l.length + ms.length
 | [], l => by simp [Pfx]
 | m :: ms, l => by
  have h := Pol ms (Pep l m).1
  have h2 : (Pep l m).1.length ≤ l.length + 1 := by
   unfold Pep withS
   have w1 := Pme l m.2.1
   have w2 := Pme (Pey l m.2.1) m.2.2.1
   have w3 := Pme l (m.2.1, m.2.2.2).1
   split
   ·simp
   ·split
    ·simp only [Psd]; omega
    ·split
     ·simp only [Psd]; omega
     ·split
      ·simp only; omega
      ·simp
  simp only [Pfx, List.foldl_cons, Zl] at h ⊢
  omega
theorem Pqw : ∀ (ms : List MoveT) (l : List LinkT), (Pmf l ms).length ≤ l.length + ms.length
 | [], l => by simp [Pmf]
 | m :: ms, l => by
  have h := Pqw ms (Pnc l m).1
  have h2 : (Pnc l m).1.length ≤ l.length + 1 := by
   unfold Pnc linkI
   have w1 := List.length_filter_le (fun x : LinkT => !(decide (x.1 = m.2.1) || decide (x.1 = m.2.2.1))) l
   split
   ·simp only [Psd]; omega
   ·split
    ·simp only [Psd]; omega
    ·split
     ·simp only [List.length_append, List.length_take, List.length_drop]; omega
     ·simp
  simp only [Pmf, List.foldl_cons, Zl] at h ⊢
  omega
theorem Ppg {dir : List LinkT} {ms : List MoveT} {i : Nat} (hi : i < ms.length) : Pfx dir (ms.take (i + 1)) = (Pep (Pfx dir (ms.take i)) ms[i]).1 := by
 unfold Pfx
 rw [List.take_add_one, Zg hi, Option.toList_some, List.foldl_append]; rfl
theorem Pst {dir : List LinkT} {ms : List MoveT} {i : Nat} (hi : i < ms.length) : Pmf dir (ms.take (i + 1)) = (Pnc (Pmf dir (ms.take i)) ms[i]).1 := by
 unfold Pmf
 rw [List.take_add_one, Zg hi, Option.toList_some, List.foldl_append]; rfl
theorem Put {ms : List MoveT} {i : Nat} (hi : i < ms.length) : makes (ms.take (i + 1)) = if ms[i].1 = 1 then makes (ms.take i) ++ [ms[i].2.2.2] else makes (ms.take i) := by
 unfold makes
 rw [List.take_add_one, Zg hi, Option.toList_some, List.filter_append, List.map_append]
 by_cases h : ms[i].1 = 1 <;> simp [h]
theorem Pbec (ms : List MoveT) : (makes ms).length ≤ ms.length := by
 unfold makes; rw [List.length_map]; exact List.length_filter_le _ _
theorem Pbhc (a b : Int) : decide (a ≤ b) = !decide (b < a) := by
 by_cases h : b < a
 ·have : ¬ a ≤ b := by omega
  simp [h, this]
 ·have : a ≤ b := by omega
  simp [h, this]
theorem Pcf {n : Nat} {p : Nat → Bool} : (List.range n).all p = true ↔ ∀ i, i < n → p i = true := by
 rw [List.all_eq_true]
 exact ⟨fun h i hi => h i (List.mem_range.2 hi), fun h i hi => h i (List.mem_range.1 hi)⟩
theorem Pbge {k} (hk : Zk k) (d : DiskT) (hs : Small d) (hn : 1 ≤ d.2.1) (hn2 : d.2.1 ≤ 1000000) (i : Nat) (hi : i < d.2.2.1.length) :
  Pag.b0 k (false, (i : Int), d) = if pIS d i then some (.inl (false, ((i + 1 : Nat) : Int), d)) else some (.inr (.inr false)) := by
 have hl := hs.ino
 have e1 := Zp (i := i) (n := d.2.2.1.length)
 have e2 := Zp1 (i := i) (n := d.2.2.1.length)
 unfold Pag.b0 pIS
 dsimp only
 simp only [e1, Zy, e2, Zo, Zg hi, Pvp, Poo hk _ _ (show d.2.2.2.1.length ≤ 4194304 by have := hs.dir; omega), Pbbc hk _ _ (show d.2.2.2.2.length ≤ 4194304 by have := hs.mov; omega), Prod.eta]
 simp (disch := omega) only [Zv]
 obtain ⟨x, hx⟩ : ∃ x, d.2.2.1[i] = x := ⟨_, rfl⟩
 have hx? : d.2.2.1[i]? = some x := by rw [Zg hi, hx]
 rw [hx]
 have eL : (d.2.2.2.1.any fun y => decide (y.2 = x.1)) = linkB d.2.2.2.1 x.1 := rfl
 have eM : (d.2.2.2.2.any fun y => decide (y.1 = 1) && decide (y.2.2.2 = x.1)) = madeB d.2.2.2.2 x.1 := rfl
 have eA : (decide (1 ≤ x.1) && decide (x.1 ≤ d.2.1 - 1)) = rg x.1 1 (d.2.1 - 1) := rfl
 have eB : (decide (0 ≤ x.2.2) && decide (x.2.2 ≤ (x.2.1.size : Int))) = rg x.2.2 0 (x.2.1.size : Int) := rfl
 rw [eL, eM, eA, eB]
 by_cases h0 : i = 0
 ·subst h0
  have e3 : decide (0 < ((0 : Nat) : Int)) = false := by simp
  have eu : upI d.2.2.1 0 = true := rfl
  rw [e3, eu]
  cases rg x.1 1 (d.2.1 - 1) <;> cases rg x.2.2 0 (x.2.1.size : Int) <;> cases linkB d.2.2.2.1 x.1 <;> cases madeB d.2.2.2.2 x.1 <;> rfl
 ·have e3 : decide (0 < (i : Int)) = true := by simp; omega
  have e4 : inb? d.2.2.1.length ((i : Int) - 1) = some (i - 1) := by
   rw [Zi]; congr 1; omega
  have hi1 : i - 1 < d.2.2.1.length := by omega
  obtain ⟨y, hy⟩ : ∃ y, d.2.2.1[i - 1] = y := ⟨_, rfl⟩
  have hy? : d.2.2.1[i - 1]? = some y := by rw [Zg hi1, hy]
  have eu : upI d.2.2.1 i = decide (y.1 < x.1) := by unfold upI; rw [hx?, hy?, Zf h0]; rfl
  rw [e3, eu]
  simp only [Zy, e4, Zo, hy?, Pbhc x.1 y.1]
  cases rg x.1 1 (d.2.1 - 1) <;> cases rg x.2.2 0 (x.2.1.size : Int) <;> cases linkB d.2.2.2.1 x.1 <;> cases madeB d.2.2.2.2 x.1 <;> cases decide (y.1 < x.1) <;> rfl
theorem Pbfs {k} (hk : Zk k) (d : DiskT) (hs : Small d) (i : Nat) (hi : i < d.2.2.2.1.length) :
  Pag.b1 k (false, (i : Int), d) = if pD d i then some (.inl (false, ((i + 1 : Nat) : Int), d)) else some (.inr (.inr false)) := by
 have hl := hs.dir
 have e1 := Zp (i := i) (n := d.2.2.2.1.length)
 have e2 := Zp1 (i := i) (n := d.2.2.2.1.length)
 have e5 : cut? d.2.2.2.1.length 0 (i : Int) = some (0, i) := by rw [Zc]; simp
 have htl : ((d.2.2.2.1.take i).drop 0).length ≤ 4194304 := by simp; omega
 unfold Pag.b1 pD
 dsimp only
 simp only [e1, Zy, e2, Zo, Zg hi, Plu hk _ (hs.dirN _ (List.getElem_mem hi)), Prod.eta, e5, Pti hk d _ hs.ino, Poo hk _ _ htl]
 simp (disch := omega) only [Zv]
 obtain ⟨x, hx⟩ : ∃ x, d.2.2.2.1[i] = x := ⟨_, rfl⟩
 have hx? : d.2.2.2.1[i]? = some x := by rw [Zg hi, hx]
 rw [hx]
 have eL : (((d.2.2.2.1.take i).drop 0).any fun y => decide (y.2 = x.2)) = linkB (d.2.2.2.1.take i) x.2 := rfl
 have eH : decide (idxOf (fun y => decide (y.1 = x.2)) d.2.2.1 < 0) = !hasI d x.2 := by unfold hasI; rw [Bool.not_not]
 rw [eL, eH]
 by_cases h0 : i = 0
 ·subst h0
  have e3 : decide (0 < ((0 : Nat) : Int)) = false := by simp
  have eu : upD d.2.2.2.1 0 = true := rfl
  rw [e3, eu]
  cases nameB x.1 <;> cases hasI d x.2 <;> cases linkB (d.2.2.2.1.take 0) x.2 <;> rfl
 ·have e3 : decide (0 < (i : Int)) = true := by simp; omega
  have e4 : inb? d.2.2.2.1.length ((i : Int) - 1) = some (i - 1) := by
   rw [Zi]; congr 1; omega
  have hi1 : i - 1 < d.2.2.2.1.length := by omega
  obtain ⟨y, hy⟩ : ∃ y, d.2.2.2.1[i - 1] = y := ⟨_, rfl⟩
  have hy? : d.2.2.2.1[i - 1]? = some y := by rw [Zg hi1, hy]
  have eu : upD d.2.2.2.1 i = strLt y.1 x.1 := by unfold upD; rw [hx?, hy?, Zf h0]; rfl
  rw [e3, eu]
  simp only [Zy, e4, Zo, hy?]
  cases nameB x.1 <;> cases hasI d x.2 <;> cases linkB (d.2.2.2.1.take i) x.2 <;> cases strLt y.1 x.1 <;> rfl
theorem Pbgg {k} (hk : Zk k) (d : DiskT) (hs : Small d) (hd : d.2.2.2.1.length ≤ 10) (hm : d.2.2.2.2.length ≤ 20) (i : Nat) (hi : i < d.2.2.2.2.length) :
  Pag.b2 k (false, Pfx d.2.2.2.1 (d.2.2.2.2.take i), (i : Int), d) = if pMS d i then some (.inl (false, Pfx d.2.2.2.1 (d.2.2.2.2.take (i + 1)), ((i + 1 : Nat) : Int), d)) else some (.inr (.inr false)) := by
 have e1 := Zp (i := i) (n := d.2.2.2.2.length)
 have e2 := Zp1 (i := i) (n := d.2.2.2.2.length)
 have e5 : cut? d.2.2.2.2.length 0 (i : Int) = some (0, i) := by rw [Zc]; simp
 have htl : ((d.2.2.2.2.take i).drop 0).length ≤ 4194304 := by simp; omega
 have hll := Pol (d.2.2.2.2.take i) d.2.2.2.1
 rw [List.length_take] at hll
 obtain ⟨n1, n2⟩ := hs.movN _ (List.getElem_mem hi)
 rw [Ppg hi]
 obtain ⟨l, hl⟩ : ∃ l, Pfx d.2.2.2.1 (d.2.2.2.2.take i) = l := ⟨_, rfl⟩
 unfold Pag.b2 pMS
 rw [hl] at hll ⊢
 obtain ⟨m, hm'⟩ : ∃ m, d.2.2.2.2[i] = m := ⟨_, rfl⟩
 have hm? : d.2.2.2.2[i]? = some m := by rw [Zg hi, hm']
 rw [hm'] at n1 n2 ⊢
 dsimp only
 simp only [e1, Zy, e2, Zo, hm?, Prod.eta, e5, Pti hk d _ hs.ino, Poo hk _ _ (show d.2.2.2.1.length ≤ 4194304 by have := hs.dir; omega), Pbbc hk _ _ htl]
 have eL : (d.2.2.2.1.any fun y => decide (y.2 = m.2.2.2)) = linkB d.2.2.2.1 m.2.2.2 := rfl
 have eM : (((d.2.2.2.2.take i).drop 0).any fun y => decide (y.1 = 1) && decide (y.2.2.2 = m.2.2.2)) = madeB (d.2.2.2.2.take i) m.2.2.2 := rfl
 have eH : decide (idxOf (fun y => decide (y.1 = m.2.2.2)) d.2.2.1 < 0) = !hasI d m.2.2.2 := by unfold hasI; rw [Bool.not_not]
 rw [eL, eM, eH]
 have ec : Pag.c0 k (false, l, (i : Int), d, m) = if (Pep l m).2 then some (.inl (false, (Pep l m).1, ((i + 1 : Nat) : Int), d)) else some (.inr (.inr false)) := by
  unfold Pag.c0
  dsimp only
  simp only [Prod.eta, Pya hk l m (by omega) n1 n2, Zo]
  rw [Zw]
  cases (Pep l m).2 <;> rfl
 cases decide (m.1 = 1) <;> cases linkB d.2.2.2.1 m.2.2.2 <;> cases madeB (d.2.2.2.2.take i) m.2.2.2 <;> cases hasI d m.2.2.2 <;> simp [ec]
theorem Pgu {k} (hk : Zk k) (d : DiskT) (hs : Small d) : Pag.f k d = some (diskS d) := by
 unfold Pag.f diskS
 simp only [Pvp, Zo, Prod.eta, Pth hk d hs]
 refine Pnd fun h1 => Pnd fun h2 => Psh fun h3 => Psh fun h4 => Psh fun h5 => Psh fun h6 => ?_
 simp only [Zd, Zq] at h2
 have hl := hs.ino
 have key := Qqt (B := Pag.b0 k) d.2.2.1.length (fun i => (false, (i : Int), d)) (pIS d) (.inl (false, d)) (.inr false) (fun i hi _ => Pbge hk d hs h2.1 h2.2 i hi) (fun _ => by
  have e1 := Zo1 (n := d.2.2.1.length)
  unfold Pag.b0
  dsimp only
  rw [e1]; rfl) k (by omega)
 have key1 := Qqt (B := Pag.b1 k) d.2.2.2.1.length (fun i => (false, (i : Int), d)) (pD d) (.inl (false, d)) (.inr false) (fun i hi _ => Pbfs hk d hs i hi) (fun _ => by
  have e1 := Zo1 (n := d.2.2.2.1.length)
  unfold Pag.b1
  dsimp only
  rw [e1]; rfl) k (by omega)
 have key2 := Qqt (B := Pag.b2 k) d.2.2.2.2.length (fun i => (false, Pfx d.2.2.2.1 (d.2.2.2.2.take i), (i : Int), d)) (pMS d) (.inl false) (.inr false) (fun i hi _ => Pbgg hk d hs (by omega) (by omega) i hi) (fun _ => by
  have e1 := Zo1 (n := d.2.2.2.2.length)
  unfold Pag.b2
  dsimp only
  rw [e1]; rfl) k (by omega)
 simp only [Zu, List.take_zero] at key key1 key2
 rw [key]
 cases (List.range d.2.2.1.length).all (pIS d) with
 | false => rfl
 | true =>
  simp only [if_true, Zo, Bool.true_and]
  unfold Pag.d0
  simp only [Prod.eta]
  rw [key1]
  cases (List.range d.2.2.2.1.length).all (pD d) with
  | false => rfl
  | true =>
   simp only [if_true, Zo, Bool.true_and]
   unfold Pag.d1
   dsimp only
   rw [Qrr (by unfold limOf; simp only [List.length_nil]; omega)]
   simp only [Zo, List.nil_append, Prod.eta]
   have e7 : Pfx d.2.2.2.1 [] = d.2.2.2.1 := rfl
   rw [e7] at key2
   rw [key2]
   cases (List.range d.2.2.2.2.length).all (pMS d) <;> rfl
theorem Pbdt {k} (hk : Zk k) (d : DiskT) (hs : Small d) (hn : 1 ≤ d.2.1) (hn2 : d.2.1 ≤ 1000000) (i : Nat) (hi : i < d.2.2.1.length) :
  Pbe.b0 k (false, d.2.2.1, (d.2.2.1.length : Int), (i : Int), d) = if pI d i then some (.inl (false, d.2.2.1, (d.2.2.1.length : Int), ((i + 1 : Nat) : Int), d)) else some (.inr (.inr false)) := by
 have hl := hs.ino
 have e1 := Zp (i := i) (n := d.2.2.1.length)
 have e2 := Zp1 (i := i) (n := d.2.2.1.length)
 unfold Pbe.b0 pI
 dsimp only
 simp only [e1, Zy, e2, Zo, Zg hi, Pdx, Prod.eta]
 simp (disch := omega) only [Zv]
 obtain ⟨x, hx⟩ : ∃ x, d.2.2.1[i] = x := ⟨_, rfl⟩
 have hx? : d.2.2.1[i]? = some x := by rw [Zg hi, hx]
 rw [hx]
 have eA : (decide (1 ≤ x.1) && decide (x.1 ≤ d.2.1 - 1)) = rg x.1 1 (d.2.1 - 1) := rfl
 have eB : (decide (0 ≤ x.2.2) && decide (x.2.2 ≤ (x.2.1.size : Int))) = rg x.2.2 0 (x.2.1.size : Int) := rfl
 rw [eA, eB]
 by_cases h0 : i = 0
 ·subst h0
  have e3 : decide (0 < ((0 : Nat) : Int)) = false := by simp
  have eu : upI d.2.2.1 0 = true := rfl
  rw [e3, eu]
  cases rg x.1 1 (d.2.1 - 1) <;> cases rg x.2.2 0 (x.2.1.size : Int) <;> rfl
 ·have e3 : decide (0 < (i : Int)) = true := by simp; omega
  have e4 : inb? d.2.2.1.length ((i : Int) - 1) = some (i - 1) := by
   rw [Zi]; congr 1; omega
  have hi1 : i - 1 < d.2.2.1.length := by omega
  obtain ⟨y, hy⟩ : ∃ y, d.2.2.1[i - 1] = y := ⟨_, rfl⟩
  have hy? : d.2.2.1[i - 1]? = some y := by rw [Zg hi1, hy]
  have eu : upI d.2.2.1 i = decide (y.1 < x.1) := by unfold upI; rw [hx?, hy?, Zf h0]; rfl
  rw [e3, eu]
  simp only [Zy, e4, Zo, hy?, Pbhc x.1 y.1]
  cases rg x.1 1 (d.2.1 - 1) <;> cases rg x.2.2 0 (x.2.1.size : Int) <;> cases decide (y.1 < x.1) <;> rfl
def idsD (d : DiskT) (i : Nat) : List Int := (d.2.2.2.1.take i).map (·.2)
theorem Pbfv {d : DiskT} {i : Nat} {n : Int} : decide (n ∈ idsD d i) = linkB (d.2.2.2.1.take i) n := by
 unfold idsD linkB
 cases h : (d.2.2.2.1.take i).any fun x => decide (x.2 = n) with
 | true =>
  obtain ⟨x, hx, hp⟩ := List.any_eq_true.1 h
  rw [Zq, List.mem_map]
  exact ⟨x, hx, of_decide_eq_true hp⟩
 | false =>
  rw [decide_eq_false_iff_not, List.mem_map]
  rintro ⟨x, hx, rfl⟩
  rw [List.any_eq_true.2 ⟨x, hx, by simp⟩] at h; cases h
theorem Pbdd {k} (hk : Zk k) (d : DiskT) (hs : Small d) (i : Nat) (hi : i < d.2.2.2.1.length) :
  Par.b0 k (false, idsD d i, d.2.2.2.1, (d.2.2.2.1.length : Int), (i : Int), d) = if pD d i then some (.inl (false, idsD d (i + 1), d.2.2.2.1, (d.2.2.2.1.length : Int), ((i + 1 : Nat) : Int), d)) else some (.inr (.inr false)) := by
 have hl := hs.dir
 have e1 := Zp (i := i) (n := d.2.2.2.1.length)
 have e2 := Zp1 (i := i) (n := d.2.2.2.1.length)
 have hil : (idsD d i).length ≤ 1048576 := by unfold idsD; simp; omega
 have hsu : idsD d (i + 1) = idsD d i ++ [d.2.2.2.1[i].2] := by
  unfold idsD; rw [List.take_add_one, Zg hi, Option.toList_some, List.map_append]; rfl
 rw [hsu]
 unfold Par.b0 pD Par.c0
 dsimp only
 simp only [e1, Zy, e2, Zo, Zg hi, Pmj hk _ (hs.dirN _ (List.getElem_mem hi)), Prod.eta, Psr hk d _ hs.ino, Prj hk (idsD d i) _ (show (idsD d i).length ≤ 4194304 by omega), Pbfv]
 simp (disch := omega) only [Zv]
 obtain ⟨x, hx⟩ : ∃ x, d.2.2.2.1[i] = x := ⟨_, rfl⟩
 have hx? : d.2.2.2.1[i]? = some x := by rw [Zg hi, hx]
 rw [hx]
 have eH : decide (idxOf (fun y => decide (y.1 = x.2)) d.2.2.1 < 0) = !hasI d x.2 := by unfold hasI; rw [Bool.not_not]
 have ea : app? (limOf 8) (idsD d i) [x.2] = some (idsD d i ++ [x.2]) := Qrr (by unfold limOf; simp only [Zl, List.length_nil]; omega)
 rw [eH]
 by_cases h0 : i = 0
 ·subst h0
  have e3 : decide (0 < ((0 : Nat) : Int)) = false := by simp
  have eu : upD d.2.2.2.1 0 = true := rfl
  rw [e3, eu]
  cases nameB x.1 <;> cases hasI d x.2 <;> cases linkB (d.2.2.2.1.take 0) x.2 <;> simp [ea, show Zr 1 = 1 from rfl]
 ·have e3 : decide (0 < (i : Int)) = true := by simp; omega
  have ew : Zr ((i : Int) + 1) = i + 1 := Zw
  have e4 : inb? d.2.2.2.1.length ((i : Int) - 1) = some (i - 1) := by
   rw [Zi]; congr 1; omega
  have hi1 : i - 1 < d.2.2.2.1.length := by omega
  obtain ⟨y, hy⟩ : ∃ y, d.2.2.2.1[i - 1] = y := ⟨_, rfl⟩
  have hy? : d.2.2.2.1[i - 1]? = some y := by rw [Zg hi1, hy]
  have eu : upD d.2.2.2.1 i = strLt y.1 x.1 := by unfold upD; rw [hx?, hy?, Zf h0]; rfl
  rw [e3, eu]
  simp only [Zy, e4, Zo, hy?]
  cases nameB x.1 <;> cases hasI d x.2 <;> cases linkB (d.2.2.2.1.take i) x.2 <;> cases strLt y.1 x.1 <;> simp [ea, ew]
def idsM (d : DiskT) (i : Nat) : List Int := d.2.2.2.1.map (·.2) ++ makes (d.2.2.2.2.take i)
theorem Pbee {k} (hk : Zk k) (d : DiskT) (hs : Small d) (hm : d.2.2.2.2.length ≤ 20) (i : Nat) (hi : i < d.2.2.2.2.length) :
  Par.b1 k (false, idsM d i, Pmf d.2.2.2.1 (d.2.2.2.2.take i), d.2.2.2.2, (d.2.2.2.2.length : Int), (i : Int), d) = if pMI d i then some (.inl (false, idsM d (i + 1), Pmf d.2.2.2.1 (d.2.2.2.2.take (i + 1)), d.2.2.2.2, (d.2.2.2.2.length : Int), ((i + 1 : Nat) : Int), d)) else some (.inr (.inr false)) := by
 have e1 := Zp (i := i) (n := d.2.2.2.2.length)
 have e2 := Zp1 (i := i) (n := d.2.2.2.2.length)
 have hll := Pqw (d.2.2.2.2.take i) d.2.2.2.1
 rw [List.length_take] at hll
 have hml := Pbec (d.2.2.2.2.take i)
 rw [List.length_take] at hml
 have hdl := hs.dir
 have hil : (idsM d i).length ≤ 4194304 := by unfold idsM; simp only [List.length_append, List.length_map]; omega
 obtain ⟨n1, n2⟩ := hs.movN _ (List.getElem_mem hi)
 have hsu : idsM d (i + 1) = if d.2.2.2.2[i].1 = 1 then idsM d i ++ [d.2.2.2.2[i].2.2.2] else idsM d i := by
  unfold idsM; rw [Put hi]; split <;> simp
 have eI : (d.2.2.2.1.map (·.2) ++ makes (d.2.2.2.2.take i)) = idsM d i := rfl
 unfold Par.b1 pMI
 rw [Pst hi, hsu]
 rw [eI]
 obtain ⟨l, hl⟩ : ∃ l, Pmf d.2.2.2.1 (d.2.2.2.2.take i) = l := ⟨_, rfl⟩
 rw [hl] at hll ⊢
 obtain ⟨m, hm'⟩ : ∃ m, d.2.2.2.2[i] = m := ⟨_, rfl⟩
 have hm? : d.2.2.2.2[i]? = some m := by rw [Zg hi, hm']
 rw [hm'] at n1 n2 ⊢
 dsimp only
 simp only [e1, Zy, e2, Zo, hm?, Prod.eta, Pxa hk l m (by omega) n2, Pmj hk _ n1, Psr hk d _ hs.ino, Prj hk (idsM d i) _ (show (idsM d i).length ≤ 4194304 by omega)]
 simp (disch := omega) only [Zv]
 have ea : app? (limOf 8) (idsM d i) [m.2.2.2] = some (idsM d i ++ [m.2.2.2]) := Qrr (by unfold limOf; simp only [Zl, List.length_nil]; omega)
 have eH : decide (idxOf (fun y => decide (y.1 = m.2.2.2)) d.2.2.1 < 0) = !hasI d m.2.2.2 := by unfold hasI; rw [Bool.not_not]
 rw [eH, ea]
 by_cases c : m.1 = 1 <;> cases (Pnc l m).2 <;> cases nameB m.2.1 <;> cases hasI d m.2.2.2 <;> cases decide (m.2.2.2 ∈ idsM d i) <;> simp [c]
theorem Pnf {k} (hk : Zk k) (d : DiskT) (hs : Small d) : Pbe.f k d = some (diskI d) := by
 unfold Pbe.f diskI
 simp only [Pdx, Zo, Prod.eta, Pxb hk d hs]
 refine Pnd fun h1 => Pnd fun h2 => Psh fun h3 => Psh fun h4 => Psh fun h5 => ?_
 simp only [Zd, Zq] at h2
 have hl := hs.ino
 have hdl := hs.dir
 have key := Qqt (B := Pbe.b0 k) d.2.2.1.length (fun i => (false, d.2.2.1, (d.2.2.1.length : Int), (i : Int), d)) (pI d) (.inl (false, d)) (.inr false) (fun i hi _ => Pbdt hk d hs h2.1 h2.2 i hi) (fun _ => by
  have e1 := Zo1 (n := d.2.2.1.length)
  unfold Pbe.b0
  dsimp only
  rw [e1]; rfl) k (by omega)
 have key1 := Qqt (B := Par.b0 k) d.2.2.2.1.length (fun i => (false, idsD d i, d.2.2.2.1, (d.2.2.2.1.length : Int), (i : Int), d)) (pD d) (.inl (false, idsM d 0, d)) (.inr false) (fun i hi _ => Pbdd hk d hs i hi) (fun _ => by
  have e1 := Zo1 (n := d.2.2.2.1.length)
  unfold Par.b0
  dsimp only
  rw [e1]
  simp [idsD, idsM, makes]) k (by omega)
 simp only [Zu] at key key1
 rw [key]
 cases (List.range d.2.2.1.length).all (pI d) with
 | false => rfl
 | true =>
  simp only [if_true, Zo, Bool.true_and]
  unfold Pbe.d0 Par.f
  simp only [Prod.eta]
  have ei : idsD d 0 = [] := rfl
  rw [ei] at key1
  rw [key1]
  cases hD : (List.range d.2.2.2.1.length).all (pD d) with
  | false => rfl
  | true =>
   -- names that rise are few
   simp only [if_true, Zo, Bool.true_and]
   unfold Par.d0 Pde.f
   dsimp only
   rw [Qrr (by unfold limOf; simp only [List.length_nil]; omega)]
   simp only [Zo, List.nil_append, Prod.eta]
   ·have key2 := Qqt (B := Par.b1 k) d.2.2.2.2.length (fun i => (false, idsM d i, Pmf d.2.2.2.1 (d.2.2.2.2.take i), d.2.2.2.2, (d.2.2.2.2.length : Int), (i : Int), d)) (pMI d) (.inl (false, idsM d d.2.2.2.2.length, d)) (.inr false) (fun i hi _ => Pbee hk d hs (by omega) i hi) (fun _ => by
     have e1 := Zo1 (n := d.2.2.2.2.length)
     unfold Par.b1
     dsimp only
     rw [e1]; rfl) k (by omega)
    simp only [Zu, List.take_zero] at key2
    have e7 : Pmf d.2.2.2.1 [] = d.2.2.2.1 := rfl
    rw [e7] at key2
    rw [key2]
    cases (List.range d.2.2.2.2.length).all (pMI d) with
    | false => rfl
    | true =>
     simp only [if_true, Zo, Bool.true_and]
     unfold Par.d1
     dsimp only
     unfold idsM
     rw [List.take_length]
     rfl
theorem Ppk : ∀ (x y : List UInt8), Op.bytesLess x y = decide (x < y)
 | [], [] => by simp [Op.bytesLess]
 | _ :: _, [] => by simp [Op.bytesLess]
 | [], _ :: _ => by simp [Op.bytesLess]
 | a :: x, b :: y => by
  rw [Op.bytesLess, Ppk x y]
  simp only [List.cons_lt_cons_iff]
  by_cases h1 : a < b <;> by_cases h2 : a = b <;> by_cases h3 : x < y <;> simp [h1, h2, h3]
theorem Pqe (a b : Zb) : strLt a b = decide (a.toList < b.toList) := by
 unfold strLt; exact Ppk _ _
theorem Pbez (a : Zb) : strLt a a = false := by
 rw [Pqe]; simp [List.lt_irrefl]
theorem Ptt {a b c : Zb} (h1 : strLt a b = true) (h2 : strLt b c = true) : strLt a c = true := by
 rw [Pqe, Zq] at *
 exact List.lt_trans h1 h2
theorem baInj {a b : Zb} (h : a.toList = b.toList) : a = b :=
 of_decide_eq_true (by rw [← Qcp]; simp [h])
theorem Pyf {a b : Zb} (h : a ≠ b) : strLt a b = !strLt b a := by
 rw [Pqe, Pqe]
 by_cases c : a.toList < b.toList
 ·have : ¬ b.toList < a.toList := fun d => List.lt_irrefl _ (List.lt_trans c d)
  simp [c, this]
 ·by_cases c2 : b.toList < a.toList
  ·simp [c, c2]
  ·exact absurd (baInj (List.le_antisymm (List.not_lt.1 c2) (List.not_lt.1 c))) h
theorem Ppu {α : Type} [DecidableEq α] : ∀ {a b : List α}, a.Nodup → (∀ x ∈ a, x ∈ b) → a.length ≤ b.length
 | [], b, _, _ => by simp
 | x :: a, b, hn, hs => by
  obtain ⟨h1, h2⟩ := List.nodup_cons.1 hn
  have := Ppu (b := b.erase x) h2 fun y hy => (List.mem_erase_of_ne (fun (e : y = x) => h1 (e ▸ hy))).2 (hs y (by simp [hy]))
  have hx := hs x (by simp)
  rw [List.length_erase_of_mem hx] at this
  have := List.length_pos_of_mem hx
  simp only [Zl]
  omega
def Srt (l : List LinkT) : Prop := l.Pairwise fun x y => strLt x.1 y.1 = true
theorem Srt.ne {x y : LinkT} (h : strLt x.1 y.1 = true) : x.1 ≠ y.1 := fun e => by rw [e, Pbez] at h; cases h
theorem Pie {l : List LinkT} {n : Zb} {y : LinkT} : y ∈ Pey l n ↔ y ∈ l ∧ y.1 ≠ n := by
 unfold Pey; simp [List.mem_filter]
theorem Prx {l : List LinkT} {n : Zb} (h : ∀ y ∈ l, y.1 ≠ n) : Pey l n = l := by
 unfold Pey
 exact List.filter_eq_self.2 fun y hy => by simp [h y hy]
theorem Pbbw {p q : LinkT → Bool} {x : LinkT} {l : List LinkT} (h : ∀ y ∈ l, p y = q y) : insM p x l = insM q x l := by
 unfold insM
 induction l with
 | nil => rfl
 | cons y l ih =>
  have hy := h y (by simp)
  simp only [List.takeWhile, List.dropWhile, hy]
  cases hq : q y with
  | true => simp
  | false =>
   have := ih fun z hz => h z (by simp [hz])
   simpa using this
theorem Ppn {l : List LinkT} {x : LinkT} (h : ∀ y ∈ l, y.1 ≠ x.1) : insM (fun y => strLt x.1 y.1) x l = linkI l x := by
 unfold linkI
 exact Pbbw fun y hy => Pyf (fun e => h y hy e.symm)
theorem Pbgf {p : LinkT → Bool} {x y : LinkT} {l : List LinkT} : y ∈ insM p x l ↔ y = x ∨ y ∈ l := by
 unfold insM
 have := List.takeWhile_append_dropWhile (p := fun y => !p y) (l := l)
 conv => rhs; rw [← this]
 simp only [List.mem_append, List.mem_cons]
 constructor
 ·rintro (h | h | h)
  ·exact .inr (.inl h)
  ·exact .inl h
  ·exact .inr (.inr h)
 ·rintro (h | h | h)
  ·exact .inr (.inl h)
  ·exact .inl h
  ·exact .inr (.inr h)
theorem Pss {l : List LinkT} {x : LinkT} (hs : Srt l) (h : ∀ y ∈ l, y.1 ≠ x.1) : Srt (linkI l x) := by
 unfold linkI insM Srt
 have e := List.takeWhile_append_dropWhile (p := fun y : LinkT => !(fun y : LinkT => !strLt y.1 x.1) y) (l := l)
 simp only [Bool.not_not] at e ⊢
 obtain ⟨A, hA⟩ : ∃ A, l.takeWhile (fun y : LinkT => strLt y.1 x.1) = A := ⟨_, rfl⟩
 obtain ⟨B, hB⟩ : ∃ B, l.dropWhile (fun y : LinkT => strLt y.1 x.1) = B := ⟨_, rfl⟩
 have hAx : ∀ a ∈ A, strLt a.1 x.1 = true := fun a ha => by
  rw [← hA] at ha
  exact List.all_eq_true.1 (List.all_takeWhile (l := l) (p := fun y : LinkT => strLt y.1 x.1)) a ha
 have hBh : ∀ b B', B = b :: B' → strLt b.1 x.1 = false := fun b B' hb => by
  have := List.head?_dropWhile_not (p := fun y : LinkT => strLt y.1 x.1) (l := l)
  rw [hB, hb] at this
  simpa using this
 rw [hA, hB] at e ⊢
 unfold Srt at hs
 rw [← e, List.pairwise_append] at hs
 obtain ⟨h1, h2, h3⟩ := hs
 have hBx : ∀ b ∈ B, strLt x.1 b.1 = true := fun b hb => by
  cases B with
  | nil => simp at hb
  | cons b0 B' =>
   have h0 := hBh b0 B' rfl
   have hx0 : strLt x.1 b0.1 = true := by
    rw [Pyf (fun e' => h b0 (by rw [← e]; simp) e'.symm), h0]; rfl
   rcases List.mem_cons.1 hb with rfl | hb
   ·exact hx0
   ·exact Ptt hx0 ((List.pairwise_cons.1 h2).1 b hb)
 refine List.pairwise_append.2 ⟨h1, List.pairwise_cons.2 ⟨hBx, h2⟩, fun a ha b hb => ?_⟩
 rcases List.mem_cons.1 hb with rfl | hb
 ·exact hAx a ha
 ·exact h3 a ha b hb
theorem Pwm (l : List LinkT) (a b : Zb) : Pey (Pey l a) b = l.filter fun x => !(decide (x.1 = a) || decide (x.1 = b)) := by
 unfold Pey
 rw [List.filter_filter]
 exact List.filter_congr fun x _ => by cases decide (x.1 = a) <;> cases decide (x.1 = b) <;> rfl
theorem Pbha {l : List LinkT} {n : Zb} : at? l n < 0 ↔ ∀ y ∈ l, y.1 ≠ n := by
 unfold at?
 rw [Qlb]
 exact ⟨fun h y hy => by simpa using h y hy, fun h y hy => by simpa using h y hy⟩
theorem Pbft {l : List LinkT} {n : Zb} (hs : Srt l) (h : 0 ≤ at? l n) : Pey l n = l.take (at? l n).toNat ++ l.drop ((at? l n).toNat + 1) := by
 obtain ⟨i, hi, he, hp, hq⟩ := Qrg (p := fun x : LinkT => decide (x.1 = n)) (l := l) (by unfold at? at h; omega)
 have e : (at? l n).toNat = i := by unfold at?; rw [he]; simp
 rw [e]
 have hp : l[i].1 = n := of_decide_eq_true hp
 unfold Srt at hs
 have hl : l = l.take i ++ l[i] :: l.drop (i + 1) := by rw [← List.drop_eq_getElem_cons hi, List.take_append_drop]
 have hs' := hs
 rw [hl, List.pairwise_append] at hs'
 obtain ⟨h1, h2, h3⟩ := hs'
 conv => lhs; rw [hl]
 unfold Pey
 rw [List.filter_append, List.filter_cons]
 simp only [hp, decide_true, Zx, Bool.false_eq_true, if_false]
 congr 1
 ·refine List.filter_eq_self.2 fun y hy => ?_
  have := Srt.ne (h3 y hy l[i] List.mem_cons_self)
  rw [hp] at this
  simp [this]
 ·refine List.filter_eq_self.2 fun y hy => ?_
  have := Srt.ne ((List.pairwise_cons.1 h2).1 y hy)
  rw [hp] at this
  simp [Ne.symm this]
theorem Puf {l : List LinkT} {m : MoveT} (hs : Srt l) (hn : nameB m.2.1 = true) : Pnc l m = Pep l m := by
 unfold Pnc Pep
 rw [if_neg (show ¬ nameB m.2.1 = false by rw [hn]; simp)]
 by_cases c1 : m.1 = 1 ∧ m.2.2.1 = ⟨#[]⟩ ∧ at? l m.2.1 < 0
 ·rw [if_pos c1, if_pos c1]
  have hne := Pbha.1 c1.2.2
  unfold withS
  rw [Prx hne, Ppn hne]
 ·rw [if_neg c1, if_neg c1]
  by_cases c2 : m.1 = 2 ∧ m.2.2.2 = 0 ∧ 0 ≤ at? l m.2.1 ∧ m.2.2.1 ≠ m.2.1 ∧ nameB m.2.2.1 = true
  ·rw [if_pos c2, if_pos ⟨c2.1, c2.2.1, c2.2.2.1, c2.2.2.2.2, c2.2.2.2.1⟩]
   unfold withS
   rw [Pwm, Ppn]
   intro y hy
   have := (List.mem_filter.1 hy).2
   intro e
   simp only at e
   rw [e] at this; simp at this
  ·rw [if_neg c2, if_neg (show ¬ (m.1 = 2 ∧ m.2.2.2 = 0 ∧ 0 ≤ at? l m.2.1 ∧ nameB m.2.2.1 = true ∧ m.2.2.1 ≠ m.2.1) from fun c => c2 ⟨c.1, c.2.1, c.2.2.1, c.2.2.2.2, c.2.2.2.1⟩)]
   by_cases c3 : m.1 = 3 ∧ m.2.2.1 = ⟨#[]⟩ ∧ m.2.2.2 = 0 ∧ 0 ≤ at? l m.2.1
   ·rw [if_pos c3, if_pos ⟨c3.1, c3.2.2.1, c3.2.1, c3.2.2.2⟩, Pbft hs c3.2.2.2]
   ·rw [if_neg c3, if_neg (show ¬ (m.1 = 3 ∧ m.2.2.2 = 0 ∧ m.2.2.1 = ⟨#[]⟩ ∧ 0 ≤ at? l m.2.1) from fun c => c3 ⟨c.1, c.2.2.1, c.2.1, c.2.2.2⟩)]
theorem Pnt {l : List LinkT} {n : Zb} (hs : Srt l) : Srt (Pey l n) := hs.filter _
theorem Pbcw {l : List LinkT} {m : MoveT} (hs : Srt l) : Srt (Pep l m).1 := by
 unfold Pep
 split
 ·exact hs
 ·split
  ·unfold withS
   rw [Ppn fun y hy => (Pie.1 hy).2]
   exact Pss (Pnt hs) fun y hy => (Pie.1 hy).2
  ·split
   ·unfold withS
    rw [Ppn fun y hy => (Pie.1 hy).2]
    exact Pss (Pnt (Pnt hs)) fun y hy => (Pie.1 hy).2
   ·split
    ·exact Pnt hs
    ·exact hs
theorem Pql {l : List LinkT} {m : MoveT} (h : (Pep l m).2 = true) : nameB m.2.1 = true := by
 unfold Pep at h
 split at h
 ·cases h
 ·rename_i hn; simpa using hn
theorem Pbhk {l : List LinkT} (h : ∀ i, i < l.length → upD l i = true) : Srt l := by
 unfold Srt
 rw [List.pairwise_iff_getElem]
 have step : ∀ i, ∀ hi : i + 1 < l.length, strLt l[i].1 l[i + 1].1 = true := fun i hi => by
  have := h (i + 1) hi
  unfold upD at this
  rw [show i + 1 - 1 = i by omega, Zg hi, Zg (show i < l.length by omega)] at this
  simpa using this
 intro i j hi hj hij
 induction j with
 | zero => omega
 | succ j ih =>
  by_cases e : i = j
  ·subst e; exact step i hj
  ·exact Ptt (ih (by omega) (by omega)) (step j hj)
theorem Pve {n : Nat} {p q : Nat → Bool} (h : ∀ i, i < n → (∀ j, j < i → p j = true) → p i = q i) : (List.range n).all p = (List.range n).all q := by
 by_cases hp : ∀ i, i < n → p i = true
 ·have hq : ∀ i, i < n → q i = true := fun i hi => by rw [← h i hi fun j hj => hp j (by omega)]; exact hp i hi
  rw [Pcf.2 hp, Pcf.2 hq]
 ·have e1 : (List.range n).all p = false := by
   cases c : (List.range n).all p with
   | false => rfl
   | true => exact absurd (Pcf.1 c) hp
  rw [e1]
  cases c : (List.range n).all q with
  | false => rfl
  | true =>
   exfalso
   have hq := Pcf.1 c
   refine hp fun i => ?_
   induction i using Nat.strongRecOn with
   | _ i ih =>
    intro hi
    rw [h i hi fun j hj => ih j hj (by omega)]
    exact hq i hi
theorem Pom {d : DiskT} (hd : (List.range d.2.2.2.1.length).all (pD d) = true) : ∀ i, i ≤ d.2.2.2.2.length → (∀ j, j < i → pMS d j = true) → Pmf d.2.2.2.1 (d.2.2.2.2.take i) = Pfx d.2.2.2.1 (d.2.2.2.2.take i) ∧ Srt (Pfx d.2.2.2.1 (d.2.2.2.2.take i))
 | 0, _, _ => by
  refine ⟨by simp [Pmf, Pfx], ?_⟩
  simp only [List.take_zero, Pfx, List.foldl_nil]
  refine Pbhk fun i hi => ?_
  have := Pcf.1 hd i hi
  unfold pD at this
  rw [Zg hi] at this
  simp only [Zd] at this
  exact this.2.1
 | i + 1, hi, hp => by
  obtain ⟨h1, h2⟩ := Pom hd i (by omega) fun j hj => hp j (by omega)
  have hm := hp i (by omega)
  unfold pMS at hm
  have hi' : i < d.2.2.2.2.length := by omega
  rw [Zg hi'] at hm
  simp only [Zd] at hm
  rw [Pst hi', Ppg hi', h1]
  exact ⟨by rw [Puf h2 (Pql hm.2)], Pbcw h2⟩
theorem Pxn {ms : List MoveT} {n : Int} : decide (n ∈ makes ms) = madeB ms n := by
 unfold makes madeB
 cases h : ms.any fun x => decide (x.1 = 1) && decide (x.2.2.2 = n) with
 | true =>
  obtain ⟨x, hx, hp⟩ := List.any_eq_true.1 h
  simp only [Zd, Zq] at hp
  rw [Zq, List.mem_map]
  exact ⟨x, List.mem_filter.2 ⟨hx, by simp [hp.1]⟩, hp.2⟩
 | false =>
  rw [decide_eq_false_iff_not, List.mem_map]
  rintro ⟨x, hx, rfl⟩
  obtain ⟨h1, h2⟩ := List.mem_filter.1 hx
  rw [List.any_eq_true.2 ⟨x, h1, by simpa using h2⟩] at h; cases h
theorem Prb {l : List LinkT} {n : Int} : decide (n ∈ l.map (·.2)) = linkB l n := by
 unfold linkB
 cases h : l.any fun x => decide (x.2 = n) with
 | true =>
  obtain ⟨x, hx, hp⟩ := List.any_eq_true.1 h
  rw [Zq, List.mem_map]
  exact ⟨x, hx, of_decide_eq_true hp⟩
 | false =>
  rw [decide_eq_false_iff_not, List.mem_map]
  rintro ⟨x, hx, rfl⟩
  rw [List.any_eq_true.2 ⟨x, hx, by simp⟩] at h; cases h
theorem Psy {l : List LinkT} {ms : List MoveT} {n : Int} : decide (n ∈ l.map (·.2) ++ makes ms) = (linkB l n || madeB ms n) := by
 rw [← Prb, ← Pxn]
 by_cases h1 : n ∈ l.map (·.2) <;> by_cases h2 : n ∈ makes ms <;> simp [h1, h2]
theorem Puu {d : DiskT} (hd : (List.range d.2.2.2.1.length).all (pD d) = true) : (List.range d.2.2.2.2.length).all (pMS d) = (List.range d.2.2.2.2.length).all (pMI d) := by
 refine Pve fun i hi hp => ?_
 obtain ⟨h1, h2⟩ := Pom hd i (by omega) hp
 unfold pMS pMI
 rw [Zg hi]
 simp only
 obtain ⟨m, hm⟩ : ∃ m, d.2.2.2.2[i] = m := ⟨_, rfl⟩
 rw [hm, Psy, h1]
 cases hn : nameB m.2.1 with
 | false =>
  have : (Pep (Pfx d.2.2.2.1 (d.2.2.2.2.take i)) m).2 = false := by unfold Pep; rw [if_pos hn]
  rw [this]; simp
 | true =>
  rw [Puf h2 hn]
  cases (Pep (Pfx d.2.2.2.1 (d.2.2.2.2.take i)) m).2 <;> cases decide (m.1 = 1) <;> cases hasI d m.2.2.2 <;> cases linkB d.2.2.2.1 m.2.2.2 <;> cases madeB (d.2.2.2.2.take i) m.2.2.2 <;> rfl
theorem Pvo {d : DiskT} {n : Int} : hasI d n = true ↔ n ∈ d.2.2.1.map (·.1) := by
 unfold hasI
 have := Qrm (fun x : Pfp => decide (x.1 = n)) d.2.2.1
 rw [← this, List.any_eq_true, List.mem_map]
 exact ⟨fun ⟨x, hx, hp⟩ => ⟨x, hx, of_decide_eq_true hp⟩, fun ⟨x, hx, hp⟩ => ⟨x, hx, Zt hp⟩⟩
theorem Pbdu {d : DiskT} (h : (List.range d.2.2.1.length).all (pI d) = true) : (d.2.2.1.map (·.1)).Nodup := by
 have step : ∀ i, ∀ hi : i + 1 < d.2.2.1.length, d.2.2.1[i].1 < d.2.2.1[i + 1].1 := fun i hi => by
  have := Pcf.1 h (i + 1) hi
  unfold pI upI at this
  rw [show i + 1 - 1 = i by omega, Zg hi, Zg (show i < d.2.2.1.length by omega)] at this
  simp only [Zd] at this
  simpa using this.2.2
 have lt : ∀ i j, ∀ hi : i < d.2.2.1.length, ∀ hj : j < d.2.2.1.length, i < j → d.2.2.1[i].1 < d.2.2.1[j].1 := by
  intro i j hi hj hij
  induction j with
  | zero => omega
  | succ j ih =>
   by_cases e : i = j
   ·subst e; exact step i hj
   ·exact Int.lt_trans (ih (by omega) (by omega)) (step j hj)
 rw [List.Nodup, List.pairwise_map, List.pairwise_iff_getElem]
 intro i j hi hj hij
 have := lt i j hi hj hij
 omega
theorem Pwz {d : DiskT} (hd : (List.range d.2.2.2.1.length).all (pD d) = true) (hm : (List.range d.2.2.2.2.length).all (pMI d) = true) :
  (d.2.2.2.1.map (·.2) ++ makes d.2.2.2.2).Nodup ∧ ∀ n ∈ d.2.2.2.1.map (·.2) ++ makes d.2.2.2.2, n ∈ d.2.2.1.map (·.1) := by
 have h1 : ∀ i, i ≤ d.2.2.2.1.length → ((d.2.2.2.1.take i).map (·.2)).Nodup ∧ ∀ n ∈ (d.2.2.2.1.take i).map (·.2), n ∈ d.2.2.1.map (·.1) := by
  intro i
  induction i with
  | zero => intro _; simp
  | succ i ih =>
   intro hi
   obtain ⟨i1, i2⟩ := ih (by omega)
   have hi' : i < d.2.2.2.1.length := by omega
   have := Pcf.1 hd i hi'
   unfold pD at this
   rw [Zg hi'] at this
   simp only [Zd, Bool.not_eq_true', ← Prb, decide_eq_false_iff_not] at this
   obtain ⟨_, _, h3, h4⟩ := this
   rw [List.take_add_one, Zg hi', Option.toList_some, List.map_append]
   simp only [List.map_cons, List.map_nil]
   refine ⟨List.nodup_append.2 ⟨i1, by simp, fun a ha b hb => ?_⟩, fun n hn => ?_⟩
   ·simp only [List.mem_singleton] at hb
    subst hb
    exact fun e => h4 (e ▸ ha)
   ·rcases List.mem_append.1 hn with hn | hn
    ·exact i2 n hn
    ·simp only [List.mem_singleton] at hn
     subst hn
     exact Pvo.1 h3
 have h2 : ∀ i, i ≤ d.2.2.2.2.length → (d.2.2.2.1.map (·.2) ++ makes (d.2.2.2.2.take i)).Nodup ∧ ∀ n ∈ d.2.2.2.1.map (·.2) ++ makes (d.2.2.2.2.take i), n ∈ d.2.2.1.map (·.1) := by
  intro i
  induction i with
  | zero =>
   intro _
   have := h1 _ (Nat.le_refl _)
   rw [List.take_length] at this
   simpa [makes] using this
  | succ i ih =>
   intro hi
   obtain ⟨i1, i2⟩ := ih (by omega)
   have hi' : i < d.2.2.2.2.length := by omega
   rw [Put hi']
   split
   ·rename_i hk
    have := Pcf.1 hm i hi'
    unfold pMI at this
    rw [Zg hi'] at this
    simp only [Zd, Bool.or_eq_true, Bool.not_eq_true', decide_eq_false_iff_not] at this
    obtain ⟨_, _, h5⟩ := this
    obtain ⟨h3, h4⟩ := h5.resolve_left (fun c => c hk)
    rw [← List.append_assoc]
    refine ⟨List.nodup_append.2 ⟨i1, by simp, fun a ha b hb => ?_⟩, fun n hn => ?_⟩
    ·simp only [List.mem_singleton] at hb
     subst hb
     exact fun e => h4 (e ▸ ha)
    ·rcases List.mem_append.1 hn with hn | hn
     ·exact i2 n hn
     ·simp only [List.mem_singleton] at hn
      subst hn
      exact Pvo.1 h3
   ·exact ⟨i1, i2⟩
 have := h2 _ (Nat.le_refl _)
 rwa [List.take_length] at this
theorem Puw {d : DiskT} {i : Nat} (hi : i < d.2.2.1.length) : pIS d i = (pI d i && (linkB d.2.2.2.1 d.2.2.1[i].1 || madeB d.2.2.2.2 d.2.2.1[i].1)) := by
 unfold pIS pI
 rw [Zg hi]
 simp only [Bool.and_assoc]
theorem Pgm (d : DiskT) : diskS d = diskI d := by
 unfold diskS diskI
 cases rg d.1 0 1048576 with
 | false => rfl
 | true =>
 cases rg d.2.1 1 1000000 with
 | false => rfl
 | true =>
 by_cases c1 : (d.2.2.1.length : Int) ≤ 10
 case neg => simp [c1]
 by_cases c2 : (d.2.2.2.2.length : Int) ≤ 20
 case neg => simp [c2]
 by_cases c3 : Pnu d.2.2.1 ≤ d.1
 case neg => simp [c3]
 simp only [c1, c2, c3, decide_true, Bool.true_and]
 cases hD : (List.range d.2.2.2.1.length).all (pD d) with
 | false => simp
 | true =>
 rw [Puu hD]
 cases hM : (List.range d.2.2.2.2.length).all (pMI d) with
 | false => simp
 | true =>
 simp only [Bool.and_true, Bool.true_and]
 obtain ⟨n1, n2⟩ := Pwz hD hM
 cases hI : (List.range d.2.2.1.length).all (pI d) with
 | false =>
  have : (List.range d.2.2.1.length).all (pIS d) = false := by
   cases c : (List.range d.2.2.1.length).all (pIS d) with
   | false => rfl
   | true =>
    have : (List.range d.2.2.1.length).all (pI d) = true := Pcf.2 fun i hi => by
     have := Pcf.1 c i hi
     rw [Puw hi, Zd] at this
     exact this.1
    rw [hI] at this; cases this
  rw [this]; simp
 | true =>
  have n3 := Pbdu hI
  have hle := Ppu n1 n2
  have hdir : (d.2.2.2.1.length : Int) ≤ 10 := by
   simp only [List.length_append, List.length_map] at hle
   omega
  rw [Zt hdir]
  simp only [Bool.true_and]
  by_cases hall : ∀ n ∈ d.2.2.1.map (·.1), n ∈ d.2.2.2.1.map (·.2) ++ makes d.2.2.2.2
  ·have hge := Ppu n3 hall
   rw [List.length_map] at hge hle
   rw [Zt (by omega)]
   refine Pcf.2 fun i hi => ?_
   rw [Puw hi, Pcf.1 hI i hi, Bool.true_and, ← Psy, Zq]
   exact hall _ (List.mem_map.2 ⟨_, List.getElem_mem hi, rfl⟩)
  ·have hx : ∃ n ∈ d.2.2.1.map (·.1), n ∉ d.2.2.2.1.map (·.2) ++ makes d.2.2.2.2 := by
    apply Classical.byContradiction
    intro hc
    exact hall fun n hn => Classical.byContradiction fun h => hc ⟨n, hn, h⟩
   obtain ⟨n, hn, hnn⟩ := hx
   have hlt := Ppu (a := n :: (d.2.2.2.1.map (·.2) ++ makes d.2.2.2.2)) (b := d.2.2.1.map (·.1)) (List.nodup_cons.2 ⟨hnn, n1⟩) (fun y hy => by
    rcases List.mem_cons.1 hy with rfl | hy
    ·exact hn
    ·exact n2 y hy)
   rw [Zl, List.length_map] at hlt
   rw [Zf (by omega)]
   cases c : (List.range d.2.2.1.length).all (pIS d) with
   | false => rfl
   | true =>
    exfalso
    obtain ⟨x, hx, rfl⟩ := List.mem_map.1 hn
    obtain ⟨i, hi, rfl⟩ := List.getElem_of_mem hx
    have := Pcf.1 c i hi
    rw [Puw hi, Zd, ← Psy, Zq] at this
    exact hnn this.2
end
section
structure Right (d : DiskT) : Prop where
 small : Small d
 ok : diskS d = true
theorem Right.ok' {d : DiskT} (h : Right d) : diskI d = true := by rw [← Pgm]; exact h.ok
theorem Right.parts {d : DiskT} (h : Right d) : 0 ≤ d.1 ∧ d.1 ≤ 1048576 ∧ 1 ≤ d.2.1 ∧ d.2.1 ≤ 1000000 ∧ d.2.2.1.length ≤ 10 ∧ d.2.2.2.2.length ≤ 20 ∧ d.2.2.2.1.length ≤ 10 ∧ Pnu d.2.2.1 ≤ d.1 ∧
  (List.range d.2.2.1.length).all (pIS d) = true ∧ (List.range d.2.2.2.1.length).all (pD d) = true ∧ (List.range d.2.2.2.2.length).all (pMS d) = true := by
 have := h.ok
 unfold diskS rg at this
 simp only [Zd, Zq] at this
 obtain ⟨h1, h2, h3, h4, h5, h6, h7, h8, h9⟩ := this
 exact ⟨h1.1, h1.2, h2.1, h2.2, by omega, by omega, by omega, h6, h7, h8, h9⟩
theorem Right.links {d : DiskT} (h : Right d) (n : Nat) : Pmf d.2.2.2.1 (d.2.2.2.2.take n) = Pfx d.2.2.2.1 (d.2.2.2.2.take n) ∧ Srt (Pfx d.2.2.2.1 (d.2.2.2.2.take n)) := by
 obtain ⟨_, _, _, _, _, _, _, _, _, h8, h9⟩ := h.parts
 by_cases hn : n ≤ d.2.2.2.2.length
 ·exact Pom h8 n hn fun j hj => Pcf.1 h9 j (by omega)
 ·rw [List.take_of_length_le (show d.2.2.2.2.length ≤ n by omega)]
  have := Pom h8 d.2.2.2.2.length (Nat.le_refl _) fun j hj => Pcf.1 h9 j hj
  rwa [List.take_length] at this
def Pkr (d : DiskT) (n : Nat) : List LinkT := Pfx d.2.2.2.1 (d.2.2.2.2.take n)
theorem Pbbz (d : DiskT) (n : Nat) : (Pkr d n).length ≤ d.2.2.2.1.length + d.2.2.2.2.length := by
 unfold Pkr
 have := Pol (d.2.2.2.2.take n) d.2.2.2.1
 rw [List.length_take] at this
 omega
theorem Psp (dir : List LinkT) (ms : List MoveT) : ms.foldl (fun l m => (Pep l m).1) dir = Pfx dir ms := rfl
theorem Pwy (dir : List LinkT) (ms : List MoveT) : ms.foldl (fun l m => (Pnc l m).1) dir = Pmf dir ms := rfl
theorem Pbep {k} (hk : Zk k) {d : DiskT} (hs : Small d) (n : Int) : Pdt.f k d n = some (Pkr d n.toNat) := by
 have hd := hs.dir
 have hm := hs.mov
 unfold Pdt.f
 rw [Qrr (by unfold limOf; simp only [List.length_nil]; omega)]
 simp only [Zo, List.nil_append, Prod.eta]
 obtain ⟨ms, hms⟩ : ∃ ms, d.2.2.2.2.take n.toNat = ms := ⟨_, rfl⟩
 have hl : ms.length = min n.toNat d.2.2.2.2.length := by rw [← hms, List.length_take]
 have hat : ∀ i (hi : i < ms.length), d.2.2.2.2[i]? = some ms[i] := fun i hi => by
  rw [← Zg hi, ← hms, List.getElem?_take, if_pos (by omega)]
 have key := Qqp (B := Pdt.b0 k) ms (fun i a => (n, [], a, (i : Int), d)) (fun l m => (Pep l m).1) (fun a => .inl ([], a)) d.2.2.2.1 (fun i hi => by
  have e1 : decide ((i : Int) < n) = true := by simp; omega
  have e2 := Zp (i := i) (n := d.2.2.2.2.length)
  have e3 := Zp1 (i := i) (n := d.2.2.2.2.length)
  have hll := Pol (ms.take i) d.2.2.2.1
  rw [List.length_take] at hll
  obtain ⟨n1, n2⟩ := hs.movN ms[i] (List.mem_of_getElem? (hat i hi))
  simp only [Psp]
  unfold Pdt.b0
  dsimp only
  simp only [e1, e2, Zy, e3, Zo, hat i hi, Prod.eta]
  rw [Pya hk _ _ (by omega) n1 n2]
  simp only [Zo]
  rw [Zw]
  rfl) (by
  unfold Pdt.b0
  dsimp only
  by_cases c : (ms.length : Int) < n
  ·have e1 : decide ((ms.length : Int) < n) = true := Zt c
   have e2 : decide ((ms.length : Int) < (d.2.2.2.2.length : Int)) = false := by simp; omega
   rw [e1, e2]; rfl
  ·have e1 : decide ((ms.length : Int) < n) = false := Zf c
   rw [e1]; rfl) k (by omega)
 simp only [Zu] at key
 rw [key]
 simp only [Zo, Psp]
 rw [← hms]
 rfl
theorem Pbdi {k} (hk : Zk k) {d : DiskT} (hr : Right d) (n : Int) (h0 : 0 ≤ n) (h1 : n ≤ d.2.2.2.2.length) : Pcw.f k d n = some (Pkr d n.toNat) := by
 have hd := hr.small.dir
 have hm := hr.small.mov
 have hL := (hr.links n.toNat).1
 unfold Pcw.f Pde.f
 rw [Qrr (by unfold limOf; simp only [List.length_nil]; omega)]
 simp only [Zo, List.nil_append]
 rw [Zc]
 simp only [Zo, Int.toNat_zero, List.drop_zero]
 unfold Pkr
 rw [← hL]
 obtain ⟨ms, hms⟩ : ∃ ms, d.2.2.2.2.take n.toNat = ms := ⟨_, rfl⟩
 have hl : ms.length = min n.toNat d.2.2.2.2.length := by rw [← hms, List.length_take]
 rw [hms]
 have key := Qqp (B := Pcw.b0 k) ms (fun i a => ([], a, ms, (ms.length : Int), (i : Int))) (fun l m => (Pnc l m).1) (fun a => .inl ([], a)) d.2.2.2.1 (fun i hi => by
  have e1 := Zp (i := i) (n := ms.length)
  have e3 := Zp1 (i := i) (n := ms.length)
  have hll := Pqw (ms.take i) d.2.2.2.1
  rw [List.length_take] at hll
  obtain ⟨n1, n2⟩ := hr.small.movN ms[i] (List.mem_of_mem_take (by rw [hms]; exact List.getElem_mem hi))
  simp only [Pwy]
  unfold Pcw.b0
  dsimp only
  simp only [e1, Zy, e3, Zo, Zg hi, Prod.eta]
  rw [Pxa hk _ _ (by omega) n2]
  simp only [Zo]
  rw [Zw]
  rfl) (by
  have e1 := Zo1 (n := ms.length)
  unfold Pcw.b0
  dsimp only
  rw [e1]; rfl) k (by omega)
 simp only [Zu] at key
 rw [key]
 rfl
def nowM (d : DiskT) : List LinkT := Pkr d d.2.2.2.2.length
theorem Pzq {k} (hk : Zk k) {d : DiskT} (hs : Small d) : Pdt.f k d (d.2.2.2.2.length : Int) = some (nowM d) := Pbep hk hs _
theorem Pbdj {k} (hk : Zk k) {d : DiskT} (hr : Right d) : Pgb.f k d = some (nowM d) := by
 unfold Pgb.f
 try simp only [Prod.eta]
 rw [Pbdi hk hr _ (by omega) (by omega)]
 rfl
def fileM (d : DiskT) (n : Zb) : Int := bif decide (at? (nowM d) n < 0) then -1 else idxOf (fun x => decide (x.1 = idAt (nowM d) n)) d.2.2.1
theorem Pbfu (d : DiskT) (n : Zb) : -1 ≤ fileM d n ∧ fileM d n < d.2.2.1.length := by
 unfold fileM
 have := Qrh (fun x : Pfp => decide (x.1 = idAt (nowM d) n)) d.2.2.1
 cases decide (at? (nowM d) n < 0) with
 | true => simp only [Zy]; omega
 | false => simpa using this
theorem Pse {d : DiskT} (hs : Small d) : (nowM d).length ≤ 4194304 := by
 have := Pbbz d d.2.2.2.2.length
 have := hs.dir
 have := hs.mov
 unfold nowM
 omega
theorem Pks {k} (hk : Zk k) {d : DiskT} (hs : Small d) (n : Zb) : Pex.f k d n = some (fileM d n) := by
 unfold Pex.f fileM
 simp only [Prod.eta, Pzq hk hs, Zo, Pbhj hk _ n (Pse hs)]
 have hat : idxOf (fun x => decide (x.1 = n)) (nowM d) = at? (nowM d) n := rfl
 rw [hat]
 by_cases c : at? (nowM d) n < 0
 ·rw [Zt c]; rfl
 ·obtain ⟨e1, x, e2, e3⟩ := Psc (l := nowM d) (n := n) (by omega)
  rw [Zf c]
  simp only [Zz, e1, e2, Zo, Pti hk d _ hs.ino, e3]
theorem Pmi {k} (hk : Zk k) {d : DiskT} (hr : Right d) (n : Zb) : Pbf.f k d n = some (fileM d n) := by
 unfold Pbf.f fileM
 simp only [Prod.eta, Pbdj hk hr, Zo, Pbhd hk _ n (Pse hr.small)]
 have hat : idxOf (fun x => decide (x.1 = n)) (nowM d) = at? (nowM d) n := rfl
 rw [hat]
 by_cases c : at? (nowM d) n < 0
 ·rw [Zt c]; rfl
 ·obtain ⟨e1, x, e2, e3⟩ := Psc (l := nowM d) (n := n) (by omega)
  rw [Zf c]
  simp only [Zz, e1, e2, Zo, Psr hk d _ hr.small.ino, e3]
def Fits (d : DiskT) : Prop := d.2.2.1.length ≤ 4194304 ∧ d.2.2.2.1.length ≤ 4194304 ∧ d.2.2.2.2.length ≤ 4194304
theorem Small.fits {d : DiskT} (h : Small d) : Fits d := ⟨by have := h.ino; omega, by have := h.dir; omega, by have := h.mov; omega⟩
theorem Pef {k : Nat} {d : DiskT} (hs : Small d) : Pcn.f k d = some d := by
 have h1 := hs.ino; have h2 := hs.dir; have h3 := hs.mov
 unfold Pcn.f
 rw [Qrr (by unfold limOf; simp only [List.length_nil]; omega), Qrr (by unfold limOf; simp only [List.length_nil]; omega), Qrr (by unfold limOf; simp only [List.length_nil]; omega)]
 rfl
theorem Pmz {k : Nat} {d : DiskT} (hs : Small d) : Pbx.f k d = some d := by
 have h1 := hs.ino; have h2 := hs.dir; have h3 := hs.mov
 unfold Pbx.f Pde.f
 rw [Qrr (by unfold limOf; simp only [List.length_nil]; omega), Qrr (by unfold limOf; simp only [List.length_nil]; omega), Qrr (by unfold limOf; simp only [List.length_nil]; omega)]
 rfl
theorem Poh (l : List Pfp) : Pnu l = amtI l := by unfold Pnu; rw [Poi]; simp
theorem Pvg {l : List Pfp} {x : Pfp} (h : x ∈ l) : x.2.1.size ≤ amtI l := by
 obtain ⟨i, hi, rfl⟩ := List.getElem_of_mem h
 have := Pyq hi
 omega
theorem Pqn {d : DiskT} {n : Zb} (h : ¬ fileM d n < 0) : inb? d.2.2.1.length (fileM d n) = some (fileM d n).toNat ∧ ∃ x, d.2.2.1[(fileM d n).toNat]? = some x ∧ x ∈ d.2.2.1 := by
 obtain ⟨h1, h2⟩ := Pbfu d n
 have hlt : (fileM d n).toNat < d.2.2.1.length := by omega
 exact ⟨Qqx (by omega) h2, _, Zg hlt, List.getElem_mem hlt⟩
theorem fits0 : Fits (0, 0, [], [], []) := ⟨Nat.zero_le _, Nat.zero_le _, Nat.zero_le _⟩
theorem Pbeb {k} (hk : Zk k) {d : DiskT} (hs : Small d) (n : Zb) : ∃ r, Pfg.f k d n = some r ∧ Pmu.f k d n = some r ∧ Zh r.1.size := by
 unfold Pfg.f Pmu.f
 simp only [Prod.eta, Pgu hk d hs, Pnf hk d hs, ← Pgm, Zo]
 cases hd : diskS d with
 | false => exact ⟨_, rfl, rfl, Nat.zero_le _⟩
 | true =>
  have hr : Right d := ⟨hs, hd⟩
  simp only [Zx, Zz, Pks hk hs, Pmi hk hr, Zo]
  by_cases c : fileM d n < 0
  ·rw [Zt c]; exact ⟨_, rfl, rfl, Nat.zero_le _⟩
  ·obtain ⟨e1, x, e2, e3⟩ := Pqn c
   rw [Zf c]
   simp only [Zz, e1, e2, Zo]
   exact ⟨_, rfl, rfl, by have := Pvg e3; have := hs.amt; simp only; omega⟩
theorem eqd (a b : Int) (h : a ≤ b) : decide (a = b) = decide (b ≤ a) := by
 by_cases c : b ≤ a
 ·have : a = b := by omega
  simp [this]
 ·have : ¬ a = b := by omega
  simp [c, this]
theorem Pbhw {k} (hk : Zk k) {d : DiskT} (hs : Small d) (n : Zb) (hn : Zh n.size) : ∃ r, Pku.f k d n = some r ∧ Pnh.f k d n = some r ∧ Fits r.1 := by
 unfold Pku.f Pnh.f
 simp only [Prod.eta, Pgu hk d hs, Pnf hk d hs, ← Pgm, Zo]
 have hf := hs.fits
 cases hd : diskS d with
 | false => exact ⟨_, rfl, rfl, fits0⟩
 | true =>
  have hr : Right d := ⟨hs, hd⟩
  obtain ⟨_, _, p3, p4, p5, p6, p7, _⟩ := hr.parts
  simp only [Zx, Zz, Pks hk hs, Pmi hk hr, Zo, Pef hs, Pmz hs, Plu hk n hn, Pmj hk n hn, Prod.eta]
  rw [eqd (d.2.2.1.length : Int) 10 (by omega), eqd (d.2.2.2.2.length : Int) 20 (by omega), eqd d.2.1 1000000 p4]
  rw [Qrr (by unfold limOf; simp only [Zl, List.length_nil]; omega), Qrr (by unfold limOf; simp only [Zl, List.length_nil]; omega)]
  simp only [Zo]
  cases nameB n with
  | false => exact ⟨_, rfl, rfl, hf⟩
  | true =>
  cases decide (0 ≤ fileM d n) with
  | true => exact ⟨_, rfl, rfl, hf⟩
  | false =>
  cases decide (10 ≤ (d.2.2.1.length : Int)) with
  | true => exact ⟨_, rfl, rfl, hf⟩
  | false =>
  cases decide (20 ≤ (d.2.2.2.2.length : Int)) with
  | true => exact ⟨_, rfl, rfl, hf⟩
  | false =>
  cases decide (1000000 ≤ d.2.1) with
  | true => exact ⟨_, rfl, rfl, hf⟩
  | false => exact ⟨_, rfl, rfl, by unfold Fits; simp only [List.length_append, Zl, List.length_nil]; omega⟩
theorem Pbhz {k} (hk : Zk k) {d : DiskT} (hs : Small d) (n : Zb) (hn : Zh n.size) : ∃ r, Pkv.f k d n = some r ∧ Pni.f k d n = some r ∧ Fits r.1 := by
 unfold Pkv.f Pni.f Pec.f
 simp only [Prod.eta, Pgu hk d hs, Pnf hk d hs, ← Pgm, Zo]
 have hf := hs.fits
 cases hd : diskS d with
 | false => exact ⟨_, rfl, rfl, fits0⟩
 | true =>
  have hr : Right d := ⟨hs, hd⟩
  simp only [Zx, Zz, Pks hk hs, Pmi hk hr, Zo, Pef hs, Pmz hs, Plu hk n hn, Pmj hk n hn, Prod.eta]
  cases nameB n with
  | false => exact ⟨_, rfl, rfl, hf⟩
  | true =>
  by_cases c : fileM d n < 0
  ·rw [Zt c]; exact ⟨_, rfl, rfl, hf⟩
  ·obtain ⟨e1, x, e2, e3⟩ := Pqn c
   rw [Zf c]
   simp only [Zx, Zz, Zo, decide_true, Zy, e1, e2]
   exact ⟨_, rfl, rfl, by unfold Fits at hf ⊢; simpa using hf⟩
theorem Pbif {k} (hk : Zk k) {d : DiskT} (hs : Small d) (n t : Zb) (hn : Zh n.size) (ht : Zh t.size) : ∃ r, Pjc.f k d n t = some r ∧ Pok.f k d n t = some r ∧ Fits r.1 := by
 unfold Pjc.f Pok.f Pec.f Pjc.c0
 simp only [Prod.eta, Pgu hk d hs, Pnf hk d hs, ← Pgm, Zo]
 have hf := hs.fits
 cases hd : diskS d with
 | false => exact ⟨_, rfl, rfl, fits0⟩
 | true =>
  have hr : Right d := ⟨hs, hd⟩
  obtain ⟨p1, p2, _⟩ := hr.parts
  have ha := hs.amt
  have hb := Poh d.2.2.1
  simp only [Zx, Zz, Pks hk hs, Pmi hk hr, Zo, Pef hs, Pmz hs, Plu hk n hn, Pmj hk n hn, Prod.eta, Pth hk d hs, Pxb hk d hs]
  rw [Zw, Zw]
  have z1 : decide ((1 : Int) = 0) = false := rfl
  have z2 : decide ((2 : Int) = 0) = false := rfl
  have z4 : decide ((4 : Int) = 0) = false := rfl
  cases nameB n with
  | false =>
   simp only [Bool.not_false, Zy, Zo, z1, Zz, Pef hs, Prod.eta]
   exact ⟨_, rfl, rfl, hf⟩
  | true =>
  by_cases c : fileM d n < 0
  ·rw [Zt c]
   simp only [Zx, Zz, Zy, Zo, z2, Pef hs, Prod.eta]
   exact ⟨_, rfl, rfl, hf⟩
  ·obtain ⟨e1, x, e2, e3⟩ := Pqn c
   have hx := Pvg e3
   rw [Zf c]
   simp only [Zx, Zz, Zo, decide_true, Zy]
   by_cases c2 : d.1 - Pnu d.2.2.1 < (t.size : Int)
   ·have c3 : d.1 < Pnu d.2.2.1 + (t.size : Int) := by omega
    rw [Zt c2, Zt c3]
    simp only [Zy, Zo, z4, Zz, Pef hs, Prod.eta]
    exact ⟨_, rfl, rfl, hf⟩
   ·have c3 : ¬ d.1 < Pnu d.2.2.1 + (t.size : Int) := by omega
    rw [Zf c2, Zf c3]
    simp only [Zz, Zo, Pef hs, Pks hk hs, decide_true, Zy, e1, e2, Prod.eta]
    rw [Za]
    exact ⟨_, rfl, rfl, by unfold Fits at hf ⊢; simpa using hf⟩
theorem Pbat {k} (hk : Zk k) {d : DiskT} (hr : Right d) (m : MoveT) (ok : Bool) (code : Int) (hc : code = if ok = false then 1 else if fileM d m.2.1 < 0 then 2 else 0) :
  ∃ r, Pds.f k d m code = some r ∧ Pfr.f k d m ok = some r ∧ Fits r.1 := by
 have hs := hr.small
 have hf := hs.fits
 obtain ⟨_, _, p3, p4, p5, p6, p7, _⟩ := hr.parts
 unfold Pds.f Pfr.f Pds.c0
 simp only [Prod.eta, Pnf hk d hs, hr.ok', Zo, Zx, Zz, Pmz hs, Pmi hk hr]
 rw [eqd (d.2.2.2.2.length : Int) 20 (by omega)]
 cases ok with
 | false =>
  simp only [if_true] at hc
  subst hc
  refine ⟨(d, 1), ?_, rfl, hf⟩
  have e : decide ((1 : Int) = 0) = false := rfl
  simp only [e, Zz, Zo, Pef hs, Prod.eta]
 | true =>
  simp only [Bool.true_eq_false, if_false] at hc
  by_cases c : fileM d m.2.1 < 0
  ·rw [if_pos c] at hc
   subst hc
   refine ⟨(d, 2), ?_, ?_, hf⟩
   ·have e : decide ((2 : Int) = 0) = false := rfl
    simp only [e, Zz, Zo, Pef hs, Prod.eta]
   ·rw [Zt c]; rfl
  ·rw [if_neg c] at hc
   subst hc
   rw [Zf c]
   simp only [Zx, Zz, decide_true, Zy]
   cases decide (20 ≤ (d.2.2.2.2.length : Int)) with
   | true =>
    have e : decide ((4 : Int) = 0) = false := rfl
    simp only [Zy, Zo, Pef hs, Prod.eta, e, Zz]
    exact ⟨_, rfl, rfl, hf⟩
   | false =>
    simp only [Zz, Zo, Pef hs, Prod.eta, decide_true, Zy]
    rw [Qrr (by unfold limOf; simp only [Zl, List.length_nil]; omega)]
    exact ⟨_, rfl, rfl, by unfold Fits; simp only [List.length_append, Zl, List.length_nil]; omega⟩
theorem Pon {k} (hk : Zk k) {d : DiskT} (hs : Small d) (n : Zb) (hn : Zh n.size) : Pec.f k d n = some (if nameB n = false then 1 else if fileM d n < 0 then 2 else 0) := by
 unfold Pec.f
 simp only [Prod.eta, Pks hk hs, Plu hk n hn, Zo]
 cases nameB n with
 | false => rfl
 | true =>
  by_cases c : fileM d n < 0 <;> simp [c]
theorem Pbhq {k} (hk : Zk k) {d : DiskT} (hs : Small d) (n : Zb) (hn : Zh n.size) : ∃ r, Pkt.f k d n = some r ∧ Png.f k d n = some r ∧ Fits r.1 := by
 unfold Pkt.f Png.f
 simp only [Prod.eta, Pgu hk d hs, Zo, Pon hk hs n hn, Pmj hk n hn]
 cases hd : diskS d with
 | false =>
  unfold Pfr.f
  simp only [Prod.eta, Pnf hk d hs, ← Pgm, Zo, hd]
  exact ⟨_, rfl, rfl, fits0⟩
 | true =>
  have hr : Right d := ⟨hs, hd⟩
  obtain ⟨r, h1, h2, h3⟩ := Pbat hk hr (3, n, ⟨#[]⟩, 0) (nameB n) _ rfl
  simp only [Zx, Zz]
  rw [h2]
  simp only at h1
  rw [h1]
  exact ⟨r, rfl, rfl, h3⟩
theorem Pbem {k} (hk : Zk k) {d : DiskT} (hs : Small d) (n t : Zb) (hn : Zh n.size) (ht : Zh t.size) : ∃ r, Pfd.f k d n t = some r ∧ Pkz.f k d n t = some r ∧ Fits r.1 := by
 unfold Pfd.f Pkz.f Pfd.c0
 simp only [Prod.eta, Pgu hk d hs, Zo, Pon hk hs n hn, Pmj hk n hn, Plu hk t ht, Pmj hk t ht]
 cases hd : diskS d with
 | false =>
  refine ⟨((0, 0, [], [], []), 1), rfl, ?_, fits0⟩
  have : ∀ m ok, Pfr.f k d m ok = some ((0, 0, [], [], []), 1) := fun m ok => by
   unfold Pfr.f
   simp only [Prod.eta, Pnf hk d hs, ← Pgm, Zo, hd]
   rfl
  simp only [this, Zo]
  cases nameB n <;> cases nameB t <;> rfl
 | true =>
  have hr : Right d := ⟨hs, hd⟩
  obtain ⟨r, h1, h2, h3⟩ := Pbat hk hr (2, n, t, 0) (nameB n && (nameB t && !decide (n = t))) _ rfl
  refine ⟨r, ?_, ?_, h3⟩
  ·simp only [Zx, Zz]
   have e : ∀ c1 : Int, c1 = (if (nameB n && (nameB t && !decide (n = t))) = false then (1 : Int) else if fileM d n < 0 then 2 else 0) → (Pds.f k d (2, n, t, 0) c1).bind (fun r1 => some r1) = some r := fun c1 h => by
    rw [h]; simp only at h1; rw [h1]; rfl
   cases hnt : nameB t with
   | false =>
    simp only [Bool.not_false, Zy, Zo]
    exact e 1 (by simp [hnt])
   | true =>
    simp only [Zx, Zz]
    by_cases c : n = t
    ·rw [Zt c]
     simp only [Zy, Zo]
     exact e 1 (by simp [c])
    ·rw [Zf c]
     simp only [Zz, Zo]
     exact e _ (by simp [hnt, c])
  ·cases hnn : nameB n with
   | false =>
    rw [hnn] at h2
    simp only [Zz, Bool.false_and] at h2 ⊢
    rw [h2]; rfl
   | true =>
    cases hnt : nameB t with
    | false =>
     rw [hnn, hnt] at h2
     simp only [Zz, Zy, Bool.false_and, Bool.true_and] at h2 ⊢
     rw [h2]; rfl
    | true =>
     rw [hnn, hnt] at h2
     simp only [Zy, Bool.true_and] at h2 ⊢
     rw [h2]; rfl
def Ptu (dir : List LinkT) (l : List Pfp) : List Pfp := l.filter fun x => linkB dir x.1
theorem Pvd (dir : List LinkT) (l : List Pfp) : (Ptu dir l).length ≤ l.length := List.length_filter_le _ _
theorem Ptj {k} (hk : Zk k) (d : DiskT) (dir : List LinkT) (l : List Pfp) (hd : dir.length ≤ 4194304) (hl : l.length ≤ 4194304) : Pdq.f k d dir l = some (d.1, d.2.1, Ptu dir l, dir, []) := by
 unfold Pdq.f
 have key := Qqp (B := Pdq.b0 k) l (fun i a => (l, (i : Int), (0, 0, [], [], []), d.1, d.2.1, a, dir, [])) (fun a x => bif linkB dir x.1 then a ++ [x] else a) (fun a => .inl ((0, 0, [], [], []), d.1, d.2.1, a, dir, [])) [] (fun i hi => by
  have e1 := Zp (i := i) (n := l.length)
  have e2 := Zp1 (i := i) (n := l.length)
  rw [Plw]
  have hlen := List.length_filter_le (fun x : Pfp => linkB dir x.1) (l.take i)
  rw [List.length_take] at hlen
  unfold Pdq.b0
  dsimp only
  simp only [e1, Zy, e2, Zo, Zg hi, Poo hk dir _ hd]
  have eL : (dir.any fun y => decide (y.2 = l[i].1)) = linkB dir l[i].1 := rfl
  rw [eL, Zw, Qrr (by unfold limOf; simp only [List.length_append, List.length_nil, Zl]; omega)]
  cases linkB dir l[i].1 <;> rfl) (by
  have e1 := Zo1 (n := l.length)
  unfold Pdq.b0
  dsimp only
  rw [e1]; rfl) k (by omega)
 simp only [Zu] at key
 rw [key, Plw]
 rfl
theorem Pxc {k} (hk : Zk k) (dir : List LinkT) (x : Pfp) (hd : dir.length ≤ 4194304) : Pbj.f k dir x = some (linkB dir x.1) := by
 unfold Pbj.f Paj.f linkB
 rw [Qrm]
 have key := Qqy (B := Paj.b0 k) dir (fun i => (dir, 0, (dir.length : Int), (i : Int), x)) (fun y => decide (y.2 = x.1)) (fun i => .inr (i : Int)) (.inl 0) (fun i hi => by
  have e1 := Zp (i := i) (n := dir.length)
  have e2 := Zp1 (i := i) (n := dir.length)
  unfold Paj.b0 Pib.f
  dsimp only
  simp only [e1, Zy, e2, Zo, Zg hi]
  rw [Zw]
  rfl) (by
  have e1 := Zo1 (n := dir.length)
  unfold Paj.b0
  dsimp only
  rw [e1]; rfl) k (by omega)
 simp only [Zu] at key
 try simp only [Prod.eta]
 rw [key]
 unfold idxOf
 cases dir.findIdx? (fun y => decide (y.2 = x.1)) with
 | none => rfl
 | some i => simp
theorem Pbdk {k} (hk : Zk k) (d : DiskT) (hd : d.2.2.2.1.length ≤ 4194304) (hl : d.2.2.1.length ≤ 4194304) : Pmo.f k d = some (d.1, d.2.1, Ptu d.2.2.2.1 d.2.2.1, d.2.2.2.1, d.2.2.2.2) := by
 have hp : ∀ (c : Int × Int × Unit × List LinkT × List MoveT) (x : Pfp), c.2.2.2.1 = d.2.2.2.1 → Pea.f k x c = some (!linkB d.2.2.2.1 x.1) := fun c x hc => by
  unfold Pea.f
  simp only [Prod.eta, hc, Pxc hk _ x hd, Zo]
 unfold Pmo.f Pan.f
 have hi : Pab.f k d.2.2.1 (d.1, d.2.1, (), d.2.2.2.1, d.2.2.2.2) = some (idxOf (fun x => !linkB d.2.2.2.1 x.1) d.2.2.1) := by
  unfold Pab.f idxOf
  have key := Qqy (B := Pab.b0 k) d.2.2.1 (fun i => (d.2.2.1, 0, (d.2.2.1.length : Int), (i : Int), d.1, d.2.1, (), d.2.2.2.1, d.2.2.2.2)) (fun x => !linkB d.2.2.2.1 x.1) (fun i => .inr (i : Int)) (.inl 0) (fun i hi => by
   have e1 := Zp (i := i) (n := d.2.2.1.length)
   have e2 := Zp1 (i := i) (n := d.2.2.1.length)
   unfold Pab.b0
   dsimp only
   simp only [e1, Zy, e2, Zo, Zg hi, Prod.eta, hp (d.1, d.2.1, (), d.2.2.2.1, d.2.2.2.2) _ rfl]
   rw [Zw]
   rfl) (by
   have e1 := Zo1 (n := d.2.2.1.length)
   unfold Pab.b0
   dsimp only
   rw [e1]; rfl) k (by omega)
  simp only [Zu] at key
  rw [key]
  cases d.2.2.1.findIdx? (fun x => !linkB d.2.2.2.1 x.1) <;> rfl
 rw [hi, Pbdc (q := fun x : Pfp => !linkB d.2.2.2.1 x.1) (fun x _ => hp _ x rfl) (by omega)]
 simp only [Bool.not_not, Zo]
 rfl
theorem Pbch {k} (hk : Zk k) {d : DiskT} (hs : Small d) : ∃ r, Pgd.f k d = some r ∧ Pjr.f k d = some r ∧ Fits r.1 := by
 unfold Pgd.f Pjr.f
 simp only [Prod.eta, Pgu hk d hs, Pnf hk d hs, ← Pgm, Zo]
 have hf := hs.fits
 cases hd : diskS d with
 | false => exact ⟨_, rfl, rfl, fits0⟩
 | true =>
  have hr : Right d := ⟨hs, hd⟩
  have hn := Pse hs
  have hi := hs.ino
  simp only [Zx, Zz, Pzq hk hs, Pbdj hk hr, Zo, Pmz hs, Ptj hk d _ d.2.2.1 hn (by omega)]
  rw [Pbdk hk (d.1, d.2.1, d.2.2.1, nowM d, []) hn (by simp only; omega)]
  exact ⟨_, rfl, rfl, by have := Pvd (nowM d) d.2.2.1; unfold Fits at hf ⊢; simp only [List.length_nil]; omega⟩
abbrev zD : DiskT := (0, 0, [], [], [])
theorem Pbhy {k} (hk : Zk k) {d : DiskT} (hs : Small d) (s : U11) (h1 : Zh s.2.1.size) (h2 : Zh s.2.2.1.size) (h3 : Zh s.2.2.2.size) :
  ∃ r, Pif.f k d s = some r ∧ Pkx.f k d s = some r ∧ Fits r.1 := by
 unfold Pif.f Pkx.f
 simp only [Prod.eta, Pgu hk d hs, Pnf hk d hs, ← Pgm, Zo]
 obtain ⟨r1, a1, b1, c1⟩ := Pbhw hk hs s.2.1 h1
 obtain ⟨r2, a2, b2, c2⟩ := Pbif hk hs s.2.1 s.2.2.2 h1 h3
 obtain ⟨r3, a3, b3, c3⟩ := Pbhz hk hs s.2.1 h1
 obtain ⟨r4, a4, b4, c4⟩ := Pbem hk hs s.2.1 s.2.2.1 h1 h2
 obtain ⟨r5, a5, b5, c5⟩ := Pbhq hk hs s.2.1 h1
 obtain ⟨r6, a6, b6, c6⟩ := Pbch hk hs
 simp only [b1, b2, b3, b4, b5, b6, a1, a2, a3, a4, a5, a6, Zo, Prod.eta]
 cases hd : diskS d with
 | true =>
  simp only [Zx, Zz, Pef hs, Pmz hs, Zo]
  by_cases e1 : s.1 = 1
  ·rw [Zt e1]; exact ⟨_, rfl, rfl, c1⟩
  rw [Zf e1]
  by_cases e2 : s.1 = 2
  ·rw [Zt e2]; exact ⟨_, rfl, rfl, c2⟩
  rw [Zf e2]
  by_cases e3 : s.1 = 3
  ·rw [Zt e3]; exact ⟨_, rfl, rfl, c3⟩
  rw [Zf e3]
  by_cases e4 : s.1 = 4
  ·rw [Zt e4]; exact ⟨_, rfl, rfl, c4⟩
  rw [Zf e4]
  by_cases e5 : s.1 = 5
  ·rw [Zt e5]; exact ⟨_, rfl, rfl, c5⟩
  rw [Zf e5]
  by_cases e6 : s.1 = 6
  ·rw [Zt e6]; exact ⟨_, rfl, rfl, c6⟩
  rw [Zf e6]
  exact ⟨_, rfl, rfl, hs.fits⟩
 | false =>
  have z : ∀ r, (some r = some ((zD, 1) : DiskT × Int)) → r = (zD, 1) := fun r h => Option.some.inj h
  have w1 : r1 = (zD, 1) := z _ (by rw [← a1]; unfold Pku.f; simp only [Prod.eta, Pgu hk d hs, Zo, hd]; rfl)
  have w2 : r2 = (zD, 1) := z _ (by rw [← a2]; unfold Pjc.f; simp only [Prod.eta, Pgu hk d hs, Zo, hd]; rfl)
  have w3 : r3 = (zD, 1) := z _ (by rw [← a3]; unfold Pkv.f; simp only [Prod.eta, Pgu hk d hs, Zo, hd]; rfl)
  have w4 : r4 = (zD, 1) := z _ (by rw [← a4]; unfold Pfd.f; simp only [Prod.eta, Pgu hk d hs, Zo, hd]; rfl)
  have w5 : r5 = (zD, 1) := z _ (by rw [← a5]; unfold Pkt.f; simp only [Prod.eta, Pgu hk d hs, Zo, hd]; rfl)
  have w6 : r6 = (zD, 1) := z _ (by rw [← a6]; unfold Pgd.f; simp only [Prod.eta, Pgu hk d hs, Zo, hd]; rfl)
  rw [w1, w2, w3, w4, w5, w6]
  refine ⟨(zD, 1), rfl, ?_, fits0⟩
  cases decide (s.1 = 1) <;> cases decide (s.1 = 2) <;> cases decide (s.1 = 3) <;> cases decide (s.1 = 4) <;> cases decide (s.1 = 5) <;> cases decide (s.1 = 6) <;> rfl
def useM (d : DiskT) : List Int := d.2.2.2.1.map (·.2) ++ makes d.2.2.2.2
structure RP (d : DiskT) : Prop where
 room0 : 0 ≤ d.1
 room1 : d.1 ≤ 1048576
 n1 : 1 ≤ d.2.1
 n2 : d.2.1 ≤ 1000000
 ino : d.2.2.1.length ≤ 10
 mov : d.2.2.2.2.length ≤ 20
 amt : (amtI d.2.2.1 : Int) ≤ d.1
 asc : (d.2.2.1.map (·.1)).Pairwise (· < ·)
 inr : ∀ x ∈ d.2.2.1, 1 ≤ x.1 ∧ x.1 ≤ d.2.1 - 1 ∧ 0 ≤ x.2.2 ∧ x.2.2 ≤ x.2.1.size
 srt : Srt d.2.2.2.1
 dirB : ∀ x ∈ d.2.2.2.1, nameB x.1 = true
 used : (useM d).Nodup
 sub : ∀ n ∈ useM d, n ∈ d.2.2.1.map (·.1)
 sup : ∀ n ∈ d.2.2.1.map (·.1), n ∈ useM d
 ok : ∀ i (hi : i < d.2.2.2.2.length), (Pep (Pfx d.2.2.2.1 (d.2.2.2.2.take i)) d.2.2.2.2[i]).2 = true
theorem Pbhu {d : DiskT} (h : (List.range d.2.2.1.length).all (pI d) = true) : (d.2.2.1.map (·.1)).Pairwise (· < ·) := by
 have step : ∀ i, ∀ hi : i + 1 < d.2.2.1.length, d.2.2.1[i].1 < d.2.2.1[i + 1].1 := fun i hi => by
  have := Pcf.1 h (i + 1) hi
  unfold pI upI at this
  rw [show i + 1 - 1 = i by omega, Zg hi, Zg (show i < d.2.2.1.length by omega)] at this
  simp only [Zd] at this
  simpa using this.2.2
 have lt : ∀ i j, ∀ hi : i < d.2.2.1.length, ∀ hj : j < d.2.2.1.length, i < j → d.2.2.1[i].1 < d.2.2.1[j].1 := by
  intro i j hi hj hij
  induction j with
  | zero => omega
  | succ j ih =>
   by_cases e : i = j
   ·subst e; exact step i hj
   ·exact Int.lt_trans (ih (by omega) (by omega)) (step j hj)
 rw [List.pairwise_map, List.pairwise_iff_getElem]
 exact fun i j hi hj hij => lt i j hi hj hij
theorem Right.rp {d : DiskT} (h : Right d) : RP d := by
 obtain ⟨h1, h2, h3, h4, h5, h6, h7, h8, hI, hD, hM⟩ := h.parts
 rw [Poh] at h8
 have hI' : (List.range d.2.2.1.length).all (pI d) = true := Pcf.2 fun i hi => by
  have := Pcf.1 hI i hi
  rw [Puw hi, Zd] at this
  exact this.1
 have hM' := hM
 rw [Puu hD] at hM'
 obtain ⟨n1, n2⟩ := Pwz hD hM'
 refine ⟨h1, h2, h3, h4, h5, h6, h8, Pbhu hI', fun x hx => ?_, Pbhk fun i hi => ?_, fun x hx => ?_, n1, n2, fun n hn => ?_, fun i hi => ?_⟩
 ·obtain ⟨i, hi, rfl⟩ := List.getElem_of_mem hx
  have := Pcf.1 hI' i hi
  unfold pI rg at this
  rw [Zg hi] at this
  simp only [Zd, Zq] at this
  exact ⟨this.1.1, this.1.2, this.2.1.1, this.2.1.2⟩
 ·have := Pcf.1 hD i hi
  unfold pD at this
  rw [Zg hi] at this
  simp only [Zd] at this
  exact this.2.1
 ·obtain ⟨i, hi, rfl⟩ := List.getElem_of_mem hx
  have := Pcf.1 hD i hi
  unfold pD at this
  rw [Zg hi] at this
  simp only [Zd] at this
  exact this.1
 ·obtain ⟨x, hx, rfl⟩ := List.mem_map.1 hn
  obtain ⟨i, hi, rfl⟩ := List.getElem_of_mem hx
  have := Pcf.1 hI i hi
  rw [Puw hi, Zd, ← Psy, Zq] at this
  exact this.2
 ·have := Pcf.1 hM i hi
  unfold pMS at this
  rw [Zg hi] at this
  simp only [Zd] at this
  exact this.2
theorem Prc {s : Zb} (h : nameB s = true) : s.size ≤ 12 := by
 unfold nameB at h
 simp only [Zd, Zq] at h
 omega
theorem Pbfq {l : List LinkT} {m : MoveT} (h : (Pep l m).2 = true) : m.2.2.1.size ≤ 12 := by
 unfold Pep at h
 split at h
 ·cases h
 ·split at h
  ·rename_i c; rw [c.2.1]; exact Nat.zero_le _
  ·split at h
   ·rename_i c; exact Prc c.2.2.2.1
   ·split at h
    ·rename_i c; rw [c.2.2.1]; exact Nat.zero_le _
    ·cases h
theorem RP.dirL {d : DiskT} (h : RP d) : d.2.2.2.1.length ≤ 10 := by
 have := Ppu h.used h.sub
 have := h.ino
 unfold useM at *
 simp only [List.length_append, List.length_map] at *
 omega
theorem RP.small {d : DiskT} (h : RP d) : Small d := by
 refine ⟨by have := h.ino; omega, by have := h.dirL; omega, by have := h.mov; omega, by have := h.amt; have := h.room1; omega, fun x hx => ?_, fun x hx => ?_⟩
 ·have := Prc (h.dirB x hx); omega
 ·obtain ⟨i, hi, rfl⟩ := List.getElem_of_mem hx
  have h1 := Prc (Pql (h.ok i hi))
  have h2 := Pbfq (h.ok i hi)
  omega
theorem Pnl (a b : List MoveT) : makes (a ++ b) = makes a ++ makes b := by
 unfold makes; rw [List.filter_append, List.map_append]
theorem RP.right {d : DiskT} (h : RP d) : Right d := by
 refine ⟨h.small, ?_⟩
 have hd := h.dirL
 unfold diskS rg
 simp only [Zd, Zq]
 refine ⟨⟨h.room0, h.room1⟩, ⟨h.n1, h.n2⟩, by have := h.ino; omega, by have := h.mov; omega, by omega, by rw [Poh]; exact h.amt, Pcf.2 fun i hi => ?_, Pcf.2 fun i hi => ?_, Pcf.2 fun i hi => ?_⟩
 ·rw [Puw hi, Zd]
  refine ⟨?_, ?_⟩
  ·unfold pI rg upI
   rw [Zg hi]
   obtain ⟨a, b, c, e⟩ := h.inr _ (List.getElem_mem hi)
   simp only [Zd, Zq]
   refine ⟨⟨a, b⟩, ⟨c, e⟩, ?_⟩
   by_cases i0 : i = 0
   ·simp [i0]
   ·have := h.asc
    rw [List.pairwise_map, List.pairwise_iff_getElem] at this
    have := this (i - 1) i (by omega) hi (by omega)
    rw [Zg (show i - 1 < d.2.2.1.length by omega)]
    simp [i0, this]
  ·rw [← Psy, Zq]
   exact h.sup _ (List.mem_map.2 ⟨_, List.getElem_mem hi, rfl⟩)
 ·unfold pD upD
  rw [Zg hi]
  simp only [Zd, Bool.not_eq_true']
  refine ⟨h.dirB _ (List.getElem_mem hi), ?_, ?_, ?_⟩
  ·by_cases i0 : i = 0
   ·simp [i0]
   ·have := h.srt
    unfold Srt at this
    rw [List.pairwise_iff_getElem] at this
    have := this (i - 1) i (by omega) hi (by omega)
    rw [Zg (show i - 1 < d.2.2.2.1.length by omega)]
    simp [i0, this]
  ·exact Pvo.2 (h.sub _ (List.mem_append_left _ (List.mem_map.2 ⟨_, List.getElem_mem hi, rfl⟩)))
  ·rw [← Prb, decide_eq_false_iff_not]
   intro hm
   have hu := (List.nodup_append.1 h.used).1
   rw [← List.take_append_drop i d.2.2.2.1, List.map_append, List.drop_eq_getElem_cons hi, List.map_cons] at hu
   exact (List.nodup_append.1 hu).2.2 _ hm _ List.mem_cons_self rfl
 ·unfold pMS
  rw [Zg hi]
  simp only [Zd]
  refine ⟨?_, h.ok i hi⟩
  by_cases c : d.2.2.2.2[i].1 = 1
  ·have hm : makes d.2.2.2.2 = makes (d.2.2.2.2.take i) ++ d.2.2.2.2[i].2.2.2 :: makes (d.2.2.2.2.drop (i + 1)) := by
    conv => lhs; rw [← List.take_append_drop i d.2.2.2.2, List.drop_eq_getElem_cons hi, Pnl]
    congr 1
    unfold makes
    rw [List.filter_cons, if_pos (by simp [c]), List.map_cons]
   have hu := h.used
   have hs := h.sub
   unfold useM at hu hs
   rw [hm] at hu hs
   obtain ⟨u1, u2, u3⟩ := List.nodup_append.1 hu
   obtain ⟨u4, u5, u6⟩ := List.nodup_append.1 u2
   have e1 : hasI d d.2.2.2.2[i].2.2.2 = true := Pvo.2 (hs _ (by simp))
   have e2 : linkB d.2.2.2.1 d.2.2.2.2[i].2.2.2 = false := by
    rw [← Prb, decide_eq_false_iff_not]
    exact fun hx => u3 _ hx _ (by simp) rfl
   have e3 : madeB (d.2.2.2.2.take i) d.2.2.2.2[i].2.2.2 = false := by
    rw [← Pxn, decide_eq_false_iff_not]
    exact fun hx => u6 _ hx _ List.mem_cons_self rfl
   rw [e1, e2, e3]; simp
  ·simp [c]
structure Named (l : List LinkT) (u : List Int) : Prop where
 srt : Srt l
 nm : ∀ x ∈ l, nameB x.1 = true ∧ x.2 ∈ u
 nd : (l.map (·.2)).Nodup
theorem Pbdv (p : LinkT → Bool) (x : LinkT) (l : List LinkT) : (insM p x l).Perm (x :: l) := by
 unfold insM
 have := List.perm_middle (a := x) (l₁ := l.takeWhile fun y => !p y) (l₂ := l.dropWhile fun y => !p y)
 rwa [List.takeWhile_append_dropWhile] at this
theorem Named.mono {l : List LinkT} {u v : List Int} (h : Named l u) (hs : ∀ n ∈ u, n ∈ v) : Named l v := ⟨h.srt, fun x hx => ⟨(h.nm x hx).1, hs _ (h.nm x hx).2⟩, h.nd⟩
theorem Named.filter {l : List LinkT} {u : List Int} (h : Named l u) (p : LinkT → Bool) : Named (l.filter p) u := by
 refine ⟨h.srt.filter _, fun x hx => h.nm x (List.mem_filter.1 hx).1, ?_⟩
 exact List.Nodup.sublist (List.Sublist.map _ List.filter_sublist) h.nd
theorem Named.with {l : List LinkT} {u : List Int} (h : Named l u) {x : LinkT} (hx : nameB x.1 = true) (hu : x.2 ∈ u) (hn : x.2 ∉ (Pey l x.1).map (·.2)) : Named (withS l x) u := by
 have hw := h.filter (fun y => !decide (y.1 = x.1))
 have hne : ∀ y ∈ Pey l x.1, y.1 ≠ x.1 := fun y hy => (Pie.1 hy).2
 unfold withS
 rw [Ppn hne]
 refine ⟨Pss hw.srt hne, fun y hy => ?_, ?_⟩
 ·rcases Pbgf.1 hy with rfl | hy
  ·exact ⟨hx, hu⟩
  ·exact hw.nm y hy
 ·rw [show linkI (Pey l x.1) x = insM (fun y => !strLt y.1 x.1) x (Pey l x.1) from rfl]
  refine ((Pbdv _ _ _).map _).nodup_iff.2 ?_
  rw [List.map_cons]
  exact List.nodup_cons.2 ⟨hn, hw.nd⟩
theorem Pbam {l : List LinkT} {n : Zb} (h : 0 ≤ at? l n) : (n, idAt l n) ∈ l := by
 obtain ⟨i, hi, he, hp, hq⟩ := Qrg (p := fun x : LinkT => decide (x.1 = n)) (l := l) (by unfold at? at h; omega)
 have e : (at? l n).toNat = i := by unfold at?; rw [he]; simp
 unfold idAt
 rw [e, Zg hi]
 have hp : l[i].1 = n := of_decide_eq_true hp
 rw [← hp]
 exact List.getElem_mem hi
theorem Pbil {l : List LinkT} (hn : (l.map (·.2)).Nodup) {x y : LinkT} (hx : x ∈ l) (hy : y ∈ l) (h : x.2 = y.2) : x = y := by
 obtain ⟨i, hi, rfl⟩ := List.getElem_of_mem hx
 obtain ⟨j, hj, rfl⟩ := List.getElem_of_mem hy
 rw [List.Nodup, List.pairwise_map, List.pairwise_iff_getElem] at hn
 rcases Nat.lt_trichotomy i j with c | c | c
 ·exact absurd h (hn i j hi hj c)
 ·subst c; rfl
 ·exact absurd h.symm (hn j i hj hi c)
theorem Named.apply {l : List LinkT} {u : List Int} {m : MoveT} (h : Named l u) (ho : (Pep l m).2 = true) (hm : m.1 = 1 → m.2.2.2 ∉ u) : Named (Pep l m).1 (u ++ makes [m]) := by
 have hn := Pql ho
 unfold Pep at ho ⊢
 rw [if_neg (by rw [hn]; simp)] at ho ⊢
 have e1 : m.1 = 1 → makes [m] = [m.2.2.2] := fun c => by simp [makes, c]
 split at ho
 ·rename_i c
  rw [if_pos c, e1 c.1]
  refine (h.mono (v := u ++ [m.2.2.2]) fun n hn => by simp [hn]).with hn (by simp) ?_
  rw [Prx (Pbha.1 c.2.2)]
  intro hx
  obtain ⟨y, hy, e⟩ := List.mem_map.1 hx
  exact hm c.1 (e ▸ (h.nm y hy).2)
 ·rename_i c1
  rw [if_neg c1]
  split at ho
  ·rename_i c
   rw [if_pos c]
   have hi := Pbam c.2.2.1
   refine ((h.filter fun y => !decide (y.1 = m.2.1)).mono (v := u ++ makes [m]) fun n hn => by simp [hn]).with c.2.2.2.1 (List.mem_append_left _ (h.nm _ hi).2) ?_
   intro hx
   obtain ⟨y, hy, e⟩ := List.mem_map.1 hx
   have hy := (Pie.1 hy).1
   have := Pbil h.nd (Pie.1 hy).1 hi e
   exact (Pie.1 hy).2 (by rw [this])
  ·rename_i c2
   rw [if_neg c2]
   split at ho
   ·rename_i c
    rw [if_pos c]
    exact (h.filter _).mono fun n hn => by simp [hn]
   ·cases ho
theorem RP.named {d : DiskT} (h : RP d) : ∀ i, i ≤ d.2.2.2.2.length → Named (Pkr d i) (d.2.2.2.1.map (·.2) ++ makes (d.2.2.2.2.take i))
 | 0, _ => by
  unfold Pkr Pfx
  refine ⟨h.srt, fun x hx => ⟨h.dirB x hx, List.mem_append_left _ (List.mem_map.2 ⟨x, hx, rfl⟩)⟩, (List.nodup_append.1 h.used).1⟩
 | i + 1, hi => by
  have ih := h.named i (by omega)
  have hi' : i < d.2.2.2.2.length := by omega
  have ht : d.2.2.2.2.take (i + 1) = d.2.2.2.2.take i ++ [d.2.2.2.2[i]] := by rw [List.take_add_one, Zg hi']; rfl
  have := ih.apply (m := d.2.2.2.2[i]) (h.ok i hi') (fun c hx => by
   have hu := h.used
   unfold useM at hu
   rw [← List.take_append_drop i d.2.2.2.2, List.drop_eq_getElem_cons hi', Pnl, ← List.append_assoc] at hu
   have := (List.nodup_append.1 hu).2.2 _ hx
   refine this d.2.2.2.2[i].2.2.2 ?_ rfl
   unfold makes
   rw [List.filter_cons, if_pos (by simp [c]), List.map_cons]
   exact List.mem_cons_self)
  unfold Pkr at this ⊢
  rw [Ppg hi', ht, Pnl, ← List.append_assoc]
  exact this
theorem RP.named' {d : DiskT} (h : RP d) (i : Nat) : Named (Pkr d i) (useM d) := by
 by_cases c : i ≤ d.2.2.2.2.length
 ·refine (h.named i c).mono fun n hn => ?_
  unfold useM
  rcases List.mem_append.1 hn with hn | hn
  ·exact List.mem_append_left _ hn
  ·refine List.mem_append_right _ ?_
   rw [← List.take_append_drop i d.2.2.2.2, Pnl]
   exact List.mem_append_left _ hn
 ·have := h.named _ (Nat.le_refl _)
  unfold Pkr at this ⊢
  rw [List.take_of_length_le (show d.2.2.2.2.length ≤ i by omega)]
  rwa [List.take_length] at this
theorem RP.file {d : DiskT} (h : RP d) {n : Zb} : fileM d n < 0 ↔ at? (nowM d) n < 0 := by
 unfold fileM
 by_cases c : at? (nowM d) n < 0
 ·rw [Zt c]; simp [c]
 ·rw [Zf c]
  simp only [Zz, c, iff_false]
  intro hx
  have hm := Pbam (show 0 ≤ at? (nowM d) n by omega)
  have hi := h.sub _ ((h.named' d.2.2.2.2.length).nm _ hm).2
  obtain ⟨x, hx1, hx2⟩ := List.mem_map.1 hi
  have := Qlb.1 hx x hx1
  simp only [decide_eq_false_iff_not] at this
  exact this hx2
theorem Puv {d : DiskT} : nowM d = Pfx d.2.2.2.1 d.2.2.2.2 := by unfold nowM Pkr; rw [List.take_length]
theorem Pvf (a b : List Pfp) : amtI (a ++ b) = amtI a + amtI b := by unfold amtI; rw [List.map_append, List.sum_append]
theorem Pbhe {dir : List LinkT} {ms : List MoveT} {m : MoveT} (h : ∀ i (hi : i < ms.length), (Pep (Pfx dir (ms.take i)) ms[i]).2 = true) (hm : (Pep (Pfx dir ms) m).2 = true) :
  ∀ i (hi : i < (ms ++ [m]).length), (Pep (Pfx dir ((ms ++ [m]).take i)) (ms ++ [m])[i]).2 = true := by
 intro i hi
 by_cases c : i < ms.length
 ·rw [List.take_append_of_le_length (by omega), List.getElem_append_left c]
  exact h i c
 ·have e : i = ms.length := by simp only [List.length_append, List.length_singleton] at hi; omega
  subst e
  rw [List.take_append_of_le_length (Nat.le_refl _), List.take_length]
  simpa using hm
theorem RP.made {d : DiskT} (h : RP d) {n : Zb} (hn : nameB n = true) (hf : fileM d n < 0) (hi : d.2.2.1.length < 10) (hm : d.2.2.2.2.length < 20) (hx : d.2.1 < 1000000) :
  RP (d.1, d.2.1 + 1, d.2.2.1 ++ [(d.2.1, ⟨#[]⟩, 0)], d.2.2.2.1, d.2.2.2.2 ++ [(1, n, ⟨#[]⟩, d.2.1)]) := by
 have hm1 : makes [((1, n, ⟨#[]⟩, d.2.1) : MoveT)] = [d.2.1] := by simp [makes]
 have hlt : ∀ n ∈ d.2.2.1.map (·.1), n < d.2.1 := fun n hn => by
  obtain ⟨x, hx1, rfl⟩ := List.mem_map.1 hn
  have := h.inr x hx1
  omega
 have hids : useM (d.1, d.2.1 + 1, d.2.2.1 ++ [(d.2.1, (⟨#[]⟩ : Zb), 0)], d.2.2.2.1, d.2.2.2.2 ++ [(1, n, ⟨#[]⟩, d.2.1)]) = useM d ++ [d.2.1] := by
  unfold useM
  simp only
  rw [Pnl, hm1, List.append_assoc]
 refine ⟨h.room0, h.room1, by have := h.n1; simp only; omega, by simp only; omega, by simp only [List.length_append, List.length_singleton]; omega, by simp only [List.length_append, List.length_singleton]; omega, ?_, ?_, ?_, h.srt, h.dirB, ?_, ?_, ?_, ?_⟩
 ·simp only [Pvf]
  have := h.amt
  have e : amtI [((d.2.1, ⟨#[]⟩, 0) : Pfp)] = 0 := rfl
  omega
 ·simp only [List.map_append, List.map_cons, List.map_nil]
  rw [List.pairwise_append]
  refine ⟨h.asc, by simp, fun a ha b hb => ?_⟩
  simp only [List.mem_singleton] at hb
  subst hb
  exact hlt a ha
 ·intro x hx
  simp only [List.mem_append, List.mem_singleton] at hx
  rcases hx with hx | rfl
  ·obtain ⟨a, b, c, e⟩ := h.inr x hx
   exact ⟨a, by simp only; omega, c, e⟩
  ·have := h.n1
   exact ⟨by simp only; omega, by simp only; omega, by simp, by simp⟩
 ·rw [hids]
  refine List.nodup_append.2 ⟨h.used, by simp, fun a ha b hb => ?_⟩
  simp only [List.mem_singleton] at hb
  have := hlt a (h.sub a ha)
  omega
 ·rw [hids]
  intro a ha
  simp only [List.map_append, List.map_cons, List.map_nil]
  rcases List.mem_append.1 ha with ha | ha
  ·exact List.mem_append_left _ (h.sub a ha)
  ·exact List.mem_append_right _ ha
 ·rw [hids]
  intro a ha
  simp only [List.map_append, List.map_cons, List.map_nil] at ha
  rcases List.mem_append.1 ha with ha | ha
  ·exact List.mem_append_left _ (h.sup a ha)
  ·exact List.mem_append_right _ ha
 ·refine Pbhe h.ok ?_
  change (Pep (Pfx d.2.2.2.1 d.2.2.2.2) _).2 = true
  rw [← Puv]
  unfold Pep
  simp only [hn]
  rw [if_neg (by simp), if_pos ⟨trivial, trivial, h.file.1 hf⟩]
theorem RP.moved {d : DiskT} (h : RP d) {m : MoveT} (hm : d.2.2.2.2.length < 20) (h1 : m.1 ≠ 1) (ho : (Pep (nowM d) m).2 = true) : RP (d.1, d.2.1, d.2.2.1, d.2.2.2.1, d.2.2.2.2 ++ [m]) := by
 have hids : useM (d.1, d.2.1, d.2.2.1, d.2.2.2.1, d.2.2.2.2 ++ [m]) = useM d := by
  unfold useM
  simp only
  rw [Pnl]
  have : makes [m] = [] := by simp [makes, h1]
  rw [this, List.append_nil]
 refine ⟨h.room0, h.room1, h.n1, h.n2, h.ino, by simp only [List.length_append, List.length_singleton]; omega, h.amt, h.asc, h.inr, h.srt, h.dirB, by rw [hids]; exact h.used, by rw [hids]; exact h.sub, by rw [hids]; exact h.sup, ?_⟩
 exact Pbhe h.ok (by change (Pep (Pfx d.2.2.2.1 d.2.2.2.2) _).2 = true; rw [← Puv]; exact ho)
theorem Pbhx {l : List Pfp} {i : Nat} {y : Pfp} (hi : i < l.length) (he : y.1 = l[i].1) : (l.set i y).map (·.1) = l.map (·.1) := by
 rw [List.map_set]
 refine List.ext_getElem (by simp) fun j hj hj' => ?_
 rw [List.getElem_set]
 split
 ·rename_i e; subst e; simpa using he
 ·rfl
theorem RP.set {d : DiskT} (h : RP d) {i : Nat} {y : Pfp} (hi : i < d.2.2.1.length) (he : y.1 = d.2.2.1[i].1) (h0 : 0 ≤ y.2.2) (h1 : y.2.2 ≤ y.2.1.size) (ha : (amtI (d.2.2.1.set i y) : Int) ≤ d.1) :
  RP (d.1, d.2.1, d.2.2.1.set i y, d.2.2.2.1, d.2.2.2.2) := by
 have hs := Pbhx hi he
 refine ⟨h.room0, h.room1, h.n1, h.n2, by simp only [List.length_set]; exact h.ino, h.mov, ha, by simp only [hs]; exact h.asc, fun x hx => ?_, h.srt, h.dirB, h.used, fun n hn => by simp only [hs]; exact h.sub n hn, fun n hn => by simp only [hs] at hn; exact h.sup n hn, h.ok⟩
 simp only at hx
 rcases List.mem_or_eq_of_mem_set hx with hx | rfl
 ·exact h.inr x hx
 ·obtain ⟨a, b, _, _⟩ := h.inr _ (List.getElem_mem hi)
  exact ⟨by rw [he]; exact a, by rw [he]; exact b, h0, h1⟩
theorem Pbag {l : List Pfp} {i : Nat} {y : Pfp} (hi : i < l.length) : amtI (l.set i y) + l[i].2.1.size = amtI l + y.2.1.size := by
 have h1 : l = l.take i ++ l[i] :: l.drop (i + 1) := by rw [← List.drop_eq_getElem_cons hi, List.take_append_drop]
 have h2 : l.set i y = l.take i ++ y :: l.drop (i + 1) := List.set_eq_take_append_cons_drop .. |>.trans (by simp [hi])
 have hc : ∀ (x : Pfp) (r : List Pfp), amtI (x :: r) = x.2.1.size + amtI r := fun x r => by simp only [amtI, List.map_cons, List.sum_cons]
 have e1 : amtI l = amtI (l.take i) + (l[i].2.1.size + amtI (l.drop (i + 1))) := (congrArg amtI h1).trans (by rw [Pvf, hc])
 rw [h2, Pvf, e1, hc]
 omega
theorem RP.settled {d : DiskT} (h : RP d) (k : Nat) {l : List Pfp} (hl : l.map (·.1) = d.2.2.1.map (·.1)) (ha : amtI l ≤ amtI d.2.2.1) (hs : ∀ x ∈ l, 0 ≤ x.2.2 ∧ x.2.2 ≤ x.2.1.size) :
  RP (d.1, d.2.1, Ptu (Pkr d k) l, Pkr d k, []) := by
 have hn := h.named' k
 have hlen : l.length = d.2.2.1.length := by have := congrArg List.length hl; simpa using this
 have hids : useM (d.1, d.2.1, Ptu (Pkr d k) l, Pkr d k, []) = (Pkr d k).map (·.2) := by unfold useM; simp [makes]
 have hamt : ∀ (p : Pfp → Bool) (l : List Pfp), amtI (l.filter p) ≤ amtI l := fun p l => by
  induction l with
  | nil => simp [amtI]
  | cons x l ih =>
   rw [List.filter_cons]
   split <;> simp only [amtI, List.map_cons, List.sum_cons] at ih ⊢ <;> omega
 refine ⟨h.room0, h.room1, h.n1, h.n2, ?_, Nat.zero_le _, ?_, ?_, ?_, hn.srt, fun x hx => (hn.nm x hx).1, by rw [hids]; exact hn.nd, ?_, ?_, fun i hi => absurd hi (Nat.not_lt_zero _)⟩
 ·have := Pvd (Pkr d k) l
  have := h.ino
  simp only; omega
 ·have := hamt (fun x => linkB (Pkr d k) x.1) l
  have := h.amt
  unfold Ptu
  simp only; omega
 ·have := h.asc
  rw [← hl] at this
  unfold Ptu
  exact List.Pairwise.sublist (List.Sublist.map _ List.filter_sublist) this
 ·intro x hx
  have hx := (List.mem_filter.1 hx).1
  have : x.1 ∈ d.2.2.1.map (·.1) := by rw [← hl]; exact List.mem_map.2 ⟨x, hx, rfl⟩
  obtain ⟨y, hy, e⟩ := List.mem_map.1 this
  obtain ⟨a, b, _, _⟩ := h.inr y hy
  obtain ⟨c, g⟩ := hs x hx
  exact ⟨by omega, by simp only; omega, c, g⟩
 ·rw [hids]
  intro n hx
  obtain ⟨y, hy, rfl⟩ := List.mem_map.1 hx
  have := h.sub _ (hn.nm y hy).2
  rw [← hl] at this
  obtain ⟨x, hx1, hx2⟩ := List.mem_map.1 this
  refine List.mem_map.2 ⟨x, List.mem_filter.2 ⟨hx1, ?_⟩, hx2⟩
  rw [← Prb, Zq, hx2]
  exact hx
 ·rw [hids]
  intro n hx
  obtain ⟨x, hx1, rfl⟩ := List.mem_map.1 hx
  have := (List.mem_filter.1 hx1).2
  rw [← Prb, Zq] at this
  exact this
def Keeps (d : DiskT) (r : DiskT × Int) : Prop := Right r.1 ∧ (r.2 ≠ 0 → r.1 = d) ∧ r.1.1 = d.1
theorem Pbby {k} (hk : Zk k) {d : DiskT} (hr : Right d) (n : Zb) (hn : Zh n.size) : ∃ r, Pku.f k d n = some r ∧ Keeps d r := by
 have hs := hr.small
 have hp := hr.rp
 have k0 : ∀ c, Keeps d (d, c) := fun c => ⟨hr, fun _ => rfl, rfl⟩
 unfold Pku.f
 simp only [Prod.eta, Pgu hk d hs, hr.ok, Zo]
 simp only [Zx, Zz, Pks hk hs, Zo, Pef hs, Plu hk n hn, Prod.eta]
 obtain ⟨_, _, p3, p4, p5, p6, p7, _⟩ := hr.parts
 rw [Qrr (by unfold limOf; simp only [Zl, List.length_nil]; omega), Qrr (by unfold limOf; simp only [Zl, List.length_nil]; omega)]
 simp only [Zo]
 cases hb : nameB n with
 | false => exact ⟨_, rfl, k0 _⟩
 | true =>
 by_cases c1 : 0 ≤ fileM d n
 ·rw [Zt c1]; exact ⟨_, rfl, k0 _⟩
 by_cases c2 : 10 ≤ (d.2.2.1.length : Int)
 ·rw [Zt c2, Zf c1]; exact ⟨_, rfl, k0 _⟩
 by_cases c3 : 20 ≤ (d.2.2.2.2.length : Int)
 ·rw [Zt c3, Zf c1, Zf c2]; exact ⟨_, rfl, k0 _⟩
 by_cases c4 : 1000000 ≤ d.2.1
 ·rw [Zt c4, Zf c1, Zf c2, Zf c3]; exact ⟨_, rfl, k0 _⟩
 rw [Zf c4, Zf c1, Zf c2, Zf c3, Zw]
 exact ⟨_, rfl, (hp.made hb (by omega) (by omega) (by omega) (by omega)).right, fun h => absurd rfl h, rfl⟩
theorem Pbcg {k} (hk : Zk k) {d : DiskT} (hr : Right d) (n : Zb) (hn : Zh n.size) : ∃ r, Pkv.f k d n = some r ∧ Keeps d r := by
 have hs := hr.small
 have hp := hr.rp
 have k0 : ∀ c, Keeps d (d, c) := fun c => ⟨hr, fun _ => rfl, rfl⟩
 unfold Pkv.f
 simp only [Prod.eta, Pgu hk d hs, hr.ok, Zo, Pon hk hs n hn]
 simp only [Zx, Zz, Pks hk hs, Zo, Pef hs, Prod.eta]
 cases hb : nameB n with
 | false => exact ⟨_, rfl, k0 _⟩
 | true =>
  by_cases c : fileM d n < 0
  ·simp only [Bool.true_eq_false, if_false, if_pos c]; exact ⟨_, rfl, k0 _⟩
  ·obtain ⟨e1, x, e2, e3⟩ := Pqn c
   have hlt := (List.getElem?_eq_some_iff.1 e2).1
   have hx := (List.getElem?_eq_some_iff.1 e2).2
   simp only [Bool.true_eq_false, if_false, if_neg c, decide_true, Zy, Zo, e1, e2]
   refine ⟨_, rfl, (hp.set hlt (by rw [hx]) (by simp only; omega) (by simp only; omega) ?_).right, fun h => absurd rfl h, rfl⟩
   have := Pbag (l := d.2.2.1) (y := (x.1, x.2.1, (x.2.1.size : Int))) hlt
   rw [hx] at this
   have := hp.amt
   simp only at *
   omega
theorem Pbcr {k} (hk : Zk k) {d : DiskT} (hr : Right d) (n t : Zb) (hn : Zh n.size) (ht : Zh t.size) : ∃ r, Pjc.f k d n t = some r ∧ Keeps d r := by
 have hs := hr.small
 have hp := hr.rp
 have k0 : ∀ c, Keeps d (d, c) := fun c => ⟨hr, fun _ => rfl, rfl⟩
 have ha := hs.amt
 obtain ⟨p1, p2, _⟩ := hr.parts
 have hb' := Poh d.2.2.1
 have z1 : decide ((1 : Int) = 0) = false := rfl
 have z2 : decide ((2 : Int) = 0) = false := rfl
 have z4 : decide ((4 : Int) = 0) = false := rfl
 unfold Pjc.f Pjc.c0
 simp only [Prod.eta, Pgu hk d hs, hr.ok, Zo, Pon hk hs n hn]
 simp only [Zx, Zz, Pks hk hs, Zo, Pef hs, Prod.eta, Pth hk d hs]
 rw [Zw]
 cases hb : nameB n with
 | false =>
  simp only [if_true, z1, Zz, Zo, Pef hs, Prod.eta]
  exact ⟨_, rfl, k0 _⟩
 | true =>
  by_cases c : fileM d n < 0
  ·simp only [Bool.true_eq_false, if_false, if_pos c, z2, Zz, Zo, Pef hs, Prod.eta]; exact ⟨_, rfl, k0 _⟩
  ·obtain ⟨e1, x, e2, e3⟩ := Pqn c
   have hlt := (List.getElem?_eq_some_iff.1 e2).1
   have hx := (List.getElem?_eq_some_iff.1 e2).2
   have hxa := Pvg e3
   simp only [Bool.true_eq_false, if_false, if_neg c, decide_true, Zy, Zo]
   by_cases c3 : d.1 - Pnu d.2.2.1 < (t.size : Int)
   ·rw [Zt c3]
    simp only [Zy, Zo, z4, Zz, Pef hs, Prod.eta]
    exact ⟨_, rfl, k0 _⟩
   ·rw [Zf c3]
    simp only [Zz, Zo, decide_true, Zy, Pef hs, Pks hk hs, e1, e2, Prod.eta]
    rw [Za]
    obtain ⟨_, _, i1, i2⟩ := hp.inr x e3
    refine ⟨_, rfl, (hp.set hlt (by rw [hx]) (by simp only; omega) (by simp only [Zs]; omega) ?_).right, fun h => absurd rfl h, rfl⟩
    have := Pbag (l := d.2.2.1) (y := (x.1, x.2.1 ++ t, x.2.2)) hlt
    rw [hx] at this
    have := hp.amt
    simp only [Zs] at *
    omega
theorem Psz {k : Nat} {d : DiskT} (hr : Right d) (m : MoveT) (code : Int) (h1 : m.1 ≠ 1) (hc : code = 0 → (Pep (nowM d) m).2 = true) : ∃ r, Pds.f k d m code = some r ∧ Keeps d r := by
 have hs := hr.small
 have hp := hr.rp
 have k0 : ∀ c, Keeps d (d, c) := fun c => ⟨hr, fun _ => rfl, rfl⟩
 obtain ⟨_, _, p3, p4, p5, p6, p7, _⟩ := hr.parts
 unfold Pds.f Pds.c0
 by_cases c : code = 0
 ·rw [Zt c]
  simp only [Zy]
  by_cases c2 : 20 ≤ (d.2.2.2.2.length : Int)
  ·have e : decide ((4 : Int) = 0) = false := rfl
   rw [Zt c2]
   simp only [Zy, Zo, Pef hs, Prod.eta, e, Zz]
   exact ⟨_, rfl, k0 _⟩
  ·rw [Zf c2]
   subst c
   simp only [Zz, Zo, Pef hs, Prod.eta, decide_true, Zy]
   rw [Qrr (by unfold limOf; simp only [Zl, List.length_nil]; omega)]
   exact ⟨_, rfl, (hp.moved (by omega) h1 (hc rfl)).right, fun h => absurd rfl h, rfl⟩
 ·rw [Zf c]
  simp only [Zz, Zo, Pef hs, Prod.eta, Zf c]
  exact ⟨_, rfl, k0 _⟩
theorem Pwp {d : DiskT} {n : Zb} (hp : RP d) (h : (if nameB n = false then (1 : Int) else if fileM d n < 0 then 2 else 0) = 0) : nameB n = true ∧ 0 ≤ at? (nowM d) n := by
 cases hb : nameB n with
 | false => rw [hb] at h; simp at h
 | true =>
  refine ⟨rfl, ?_⟩
  by_cases c : fileM d n < 0
  ·rw [hb] at h; simp [c] at h
  ·rw [hp.file] at c; omega
theorem Pbbr {k} (hk : Zk k) {d : DiskT} (hr : Right d) (n : Zb) (hn : Zh n.size) : ∃ r, Pkt.f k d n = some r ∧ Keeps d r := by
 have hs := hr.small
 unfold Pkt.f
 simp only [Prod.eta, Pgu hk d hs, hr.ok, Zo, Pon hk hs n hn, Zx, Zz]
 obtain ⟨r, h1, h2⟩ := Psz (k := k) hr (3, n, ⟨#[]⟩, 0) (if nameB n = false then 1 else if fileM d n < 0 then 2 else 0) (by simp) (fun h => by
  obtain ⟨a, b⟩ := Pwp hr.rp h
  unfold Pep
  simp [a, b])
 rw [h1]
 exact ⟨r, rfl, h2⟩
theorem Pxw {k} (hk : Zk k) {d : DiskT} (hr : Right d) (n t : Zb) (hn : Zh n.size) (ht : Zh t.size) : ∃ r, Pfd.f k d n t = some r ∧ Keeps d r := by
 have hs := hr.small
 unfold Pfd.f Pfd.c0
 simp only [Prod.eta, Pgu hk d hs, hr.ok, Zo, Pon hk hs n hn, Zx, Zz, Plu hk t ht]
 have e : ∀ c1 : Int, (c1 = 0 → nameB t = true ∧ n ≠ t ∧ (if nameB n = false then (1 : Int) else if fileM d n < 0 then 2 else 0) = 0) → ∃ r, (Pds.f k d (2, n, t, 0) c1).bind (fun r1 => some r1) = some r ∧ Keeps d r := fun c1 h => by
  obtain ⟨r, h1, h2⟩ := Psz (k := k) hr (2, n, t, 0) c1 (by simp) (fun hc => by
   obtain ⟨h1, h2, h3⟩ := h hc
   obtain ⟨a, b⟩ := Pwp hr.rp h3
   unfold Pep
   simp [a, b, h1, Ne.symm h2])
  exact ⟨r, by rw [h1]; rfl, h2⟩
 cases hnt : nameB t with
 | false =>
  simp only [Bool.not_false, Zy, Zo]
  exact e 1 (by simp)
 | true =>
  simp only [Zx, Zz]
  by_cases c : n = t
  ·rw [Zt c]
   simp only [Zy, Zo]
   exact e 1 (by simp)
  ·rw [Zf c]
   simp only [Zz, Zo]
   exact e _ (fun h => ⟨hnt, c, h⟩)
theorem Pwd {k} (hk : Zk k) {d : DiskT} (hr : Right d) : ∃ r, Pgd.f k d = some r ∧ Keeps d r := by
 have hs := hr.small
 have hp := hr.rp
 unfold Pgd.f
 have hn := Pse hs
 have hi := hs.ino
 simp only [Prod.eta, Pgu hk d hs, hr.ok, Zo, Zx, Zz, Pzq hk hs, Ptj hk d _ d.2.2.1 hn (by omega)]
 exact ⟨_, rfl, (hp.settled d.2.2.2.2.length rfl (Nat.le_refl _) fun x hx => ⟨(hp.inr x hx).2.2.1, (hp.inr x hx).2.2.2⟩).right, fun h => absurd rfl h, rfl⟩
theorem Pbce {k} (hk : Zk k) {d : DiskT} (hr : Right d) (s : U11) (h1 : Zh s.2.1.size) (h2 : Zh s.2.2.1.size) (h3 : Zh s.2.2.2.size) :
  ∃ r, Pif.f k d s = some r ∧ Keeps d r := by
 have hs := hr.small
 unfold Pif.f
 obtain ⟨r1, a1, b1⟩ := Pbby hk hr s.2.1 h1
 obtain ⟨r2, a2, b2⟩ := Pbcr hk hr s.2.1 s.2.2.2 h1 h3
 obtain ⟨r3, a3, b3⟩ := Pbcg hk hr s.2.1 h1
 obtain ⟨r4, a4, b4⟩ := Pxw hk hr s.2.1 s.2.2.1 h1 h2
 obtain ⟨r5, a5, b5⟩ := Pbbr hk hr s.2.1 h1
 obtain ⟨r6, a6, b6⟩ := Pwd hk hr
 simp only [Prod.eta, Pgu hk d hs, hr.ok, Zo, a1, a2, a3, a4, a5, a6, Zx, Zz, Pef hs]
 by_cases e1 : s.1 = 1
 ·rw [Zt e1]; exact ⟨_, rfl, b1⟩
 rw [Zf e1]
 by_cases e2 : s.1 = 2
 ·rw [Zt e2]; exact ⟨_, rfl, b2⟩
 rw [Zf e2]
 by_cases e3 : s.1 = 3
 ·rw [Zt e3]; exact ⟨_, rfl, b3⟩
 rw [Zf e3]
 by_cases e4 : s.1 = 4
 ·rw [Zt e4]; exact ⟨_, rfl, b4⟩
 rw [Zf e4]
 by_cases e5 : s.1 = 5
 ·rw [Zt e5]; exact ⟨_, rfl, b5⟩
 rw [Zf e5]
 by_cases e6 : s.1 = 6
 ·rw [Zt e6]; exact ⟨_, rfl, b6⟩
 rw [Zf e6]
 exact ⟨_, rfl, hr, fun _ => rfl, rfl⟩
abbrev StepT := Int × Zb × Zb × Zb
def Pyo (s : StepT) : Prop := Zh s.2.1.size ∧ Zh s.2.2.1.size ∧ Zh s.2.2.2.size
theorem Pbcf {k} (hk : Zk k) (l : List StepT) (hl : ∀ s ∈ l, Pyo s) (hlen : l.length ≤ 20) (n : Int) (z z' : DiskT) :
  ∀ (m i : Nat) (d : DiskT), Right d → m = l.length - i → i ≤ l.length → ∀ fuel, m < fuel →
   (∃ e, Right e ∧ iter (Pbp.b0 k) fuel (l, n, 0, 0, (i : Int), d, z) = some (.inl (l, n, 0, 0, e, z)) ∧ iter (Pcv.b0 k) fuel (l, n, 0, 0, (i : Int), z', d) = some (.inl (l, n, 0, 0, z', e))) ∨
   (∃ e j c, Right e ∧ iter (Pbp.b0 k) fuel (l, n, 0, 0, (i : Int), d, z) = some (.inr (e, j, c)) ∧ iter (Pcv.b0 k) fuel (l, n, 0, 0, (i : Int), z', d) = some (.inr (e, j, c))) := by
 intro m
 induction m with
 | zero =>
  intro i d hr hm hi fuel hf
  obtain ⟨fuel, rfl⟩ : ∃ f, fuel = f + 1 := ⟨fuel - 1, by omega⟩
  refine Or.inl ⟨d, hr, ?_, ?_⟩
  ·have e1 : decide ((i : Int) < (l.length : Int)) = false := by simp; omega
   simp only [iter, Pbp.b0, e1, Zz, Zo]
  ·have e1 : decide ((i : Int) < (l.length : Int)) = false := by simp; omega
   simp only [iter, Pcv.b0, e1, Zz]
   cases decide ((i : Int) < n) <;> rfl
 | succ m ih =>
  intro i d hr hm hi fuel hf
  obtain ⟨fuel, rfl⟩ : ∃ f, fuel = f + 1 := ⟨fuel - 1, by omega⟩
  have hlt : i < l.length := by omega
  have e1 := Zp (i := i) (n := l.length)
  have e3 := Zp1 (i := i) (n := l.length)
  by_cases c : (i : Int) < n
  ·obtain ⟨f1, f2, f3⟩ := hl l[i] (List.getElem_mem hlt)
   obtain ⟨r, a1, a2, _⟩ := Pbhy hk hr.small l[i] f1 f2 f3
   obtain ⟨r', b1, b2, _⟩ := Pbce hk hr l[i] f1 f2 f3
   rw [a1] at b1
   obtain rfl := Option.some.inj b1
   by_cases c0 : r.2 = 0
   ·have hw : Zr ((i : Int) + 1) = ((i + 1 : Nat) : Int) := by rw [Zw]; rfl
    have hs : iter (Pbp.b0 k) (fuel + 1) (l, n, 0, 0, (i : Int), d, z) = iter (Pbp.b0 k) fuel (l, n, 0, 0, ((i + 1 : Nat) : Int), r.1, z) := by
     conv => lhs; unfold iter
     simp only [Pbp.b0, e1, Zt c, Zy, e3, Zo, Zg hlt, a1, Zt c0, Zx, Zz, hw]
    have ht : iter (Pcv.b0 k) (fuel + 1) (l, n, 0, 0, (i : Int), z', d) = iter (Pcv.b0 k) fuel (l, n, 0, 0, ((i + 1 : Nat) : Int), z', r.1) := by
     conv => lhs; unfold iter
     simp only [Pcv.b0, e1, Zt c, Zy, e3, Zo, Zg hlt, a2, Zt c0, Zx, Zz, hw]
    rw [hs, ht]
    exact ih (i + 1) r.1 b2 (by omega) (by omega) fuel (by omega)
   ·refine Or.inr ⟨d, (i : Int), r.2, hr, ?_, ?_⟩
    ·simp only [iter, Pbp.b0, e1, Zt c, Zy, e3, Zo, Zg hlt, a1, Zf c0, Bool.not_false]
    ·simp only [iter, Pcv.b0, e1, Zt c, Zy, e3, Zo, Zg hlt, a2, Zf c0, Bool.not_false]
  ·refine Or.inl ⟨d, hr, ?_, ?_⟩
   ·simp only [iter, Pbp.b0, e1, Zf c, Zy, Zz, Zo]
   ·simp only [iter, Pcv.b0, Zf c, Zz, Zo]
theorem Pbgr {k} (hk : Zk k) {d : DiskT} (hs : Small d) (l : List StepT) (hl : ∀ s ∈ l, Pyo s) (n : Int) :
  ∃ r, Pbp.f k d l n = some r ∧ Pcv.f k d l n = some r ∧ Fits r.1 := by
 unfold Pbp.f Pcv.f
 simp only [Prod.eta, Pgu hk d hs, Pnf hk d hs, ← Pgm, Zo]
 cases hd : diskS d with
 | false => exact ⟨_, rfl, rfl, fits0⟩
 | true =>
  have hr : Right d := ⟨hs, hd⟩
  simp only [Zx, Zz, Pef hs, Pmz hs, Zo]
  by_cases c : 20 < (l.length : Int)
  ·rw [Zt c]; exact ⟨_, rfl, rfl, hs.fits⟩
  ·rw [Zf c]
   simp only [Zz]
   rcases Pbcf hk l hl (by omega) n (0, 0, [], [], []) (0, 0, [], [], []) l.length 0 d hr (by omega) (by omega) k (by omega) with ⟨e, he, h1, h2⟩ | ⟨e, j, c', he, h1, h2⟩
   ·rw [Zu] at h1 h2
    refine ⟨(e, (if (if (l.length : Int) < n then (l.length : Int) else n) > 0 then (if (l.length : Int) < n then (l.length : Int) else n) else 0), 0), ?_, ?_, he.small.fits⟩
    ·rw [h1]
     simp only [Zo, Pbp.d0, Pbp.c0, Pbp.c1]
     by_cases c1 : n < 0
     ·have e1 : decide ((l.length : Int) < 0) = false := by simp
      simp only [Zt c1, Zy, Zo, e1, Zz]
      rw [if_neg (by split <;> omega)]
     ·simp only [Zf c1, Zz, Zo]
      by_cases c2 : (l.length : Int) < n
      ·simp only [Zt c2, Zy, Zo, if_pos c2]
       by_cases c3 : (l.length : Int) > 0
       ·rw [if_pos c3]
       ·rw [if_neg c3]
        have : (l.length : Int) = 0 := by omega
        rw [this]
      ·simp only [Zf c2, Zz, Zo, if_neg c2]
       by_cases c3 : n > 0
       ·rw [if_pos c3]
       ·rw [if_neg c3]
        have : n = 0 := by omega
        rw [this]
    ·rw [h2]
     rfl
   ·rw [Zu] at h1 h2
    exact ⟨(e, j, c'), by rw [h1]; rfl, by rw [h2]; rfl, he.small.fits⟩
end
namespace V
theorem Pat (l : List Int) : (strOfNums l).size = l.length := by
 simp [strOfNums, ByteArray.size]
theorem l1 (k : Nat) (a b c : Int) : Pao.f k a b c = some (decide (b ≤ a) && decide (a ≤ c)) := by
 unfold Pao.f
 cases decide (b ≤ a) <;> rfl
theorem Pbgv {n : Int} (h0 : 0 ≤ n) (h1 : n ≤ 562949953421311) (a : Zb) (l : List Int) (k : Nat) : Pax.b0 k (n, a, l) = Pco.b0 k (n, a, l) := by
 unfold Pax.b0 Pco.b0
 dsimp only
 have e1 : decide (128 ≤ n) = decide (127 < n) := by by_cases h : 128 ≤ n <;> simp [h] <;> omega
 have e2 : Zr (128 + n.tmod 128) = bits .or .i64 (bits .and .i64 n 127) 128 := by
  rw [low7 h0 (by omega), Int.tmod_eq_emod_of_nonneg h0]
  exact Zw
 have e3 : Zr (n.tdiv 128) = n.fdiv (2 ^ (min (7 : Int).toNat (IntKind.bits .i64))) := by
  have : (2 ^ (min (7 : Int).toNat (IntKind.bits .i64)) : Int) = 128 := rfl
  rw [this, Int.tdiv_eq_ediv_of_nonneg h0, Int.fdiv_eq_ediv_of_nonneg n (by omega)]
  exact Zw
 rw [e1, e2, e3]
theorem Pnr {n : Int} (h0 : 0 ≤ n) (h1 : n ≤ 562949953421311) (a : Zb) (l : List Int) (k : Nat) :
  Pax.b0 k (n, a, l) = if 128 ≤ n then (app? (limOf 1) l [IntKind.wrap .u8 (Zr (128 + n.tmod 128))]).bind (fun l1 => some (.inl (n / 128, a, l1))) else some (.inr (.inl (n, a, l))) := by
 unfold Pax.b0
 dsimp only
 have e3 : Zr (n.tdiv 128) = n / 128 := by
  rw [Int.tdiv_eq_ediv_of_nonneg h0]
  exact Zw
 rw [e3]
 by_cases h : 128 ≤ n <;> simp [h]
theorem Pbbm (k : Nat) (n : Int) : Pco.f k n = Pax.f k n := by
 unfold Pax.f Pco.f
 have e : Paa.f k n 0 562949953421311 = Pao.f k n 0 562949953421311 := rfl
 rw [e, l1]
 simp only [Zo]
 by_cases h : 0 ≤ n ∧ n ≤ 562949953421311
 ·have : (decide (0 ≤ n) && decide (n ≤ 562949953421311)) = true := by simp [h.1, h.2]
  rw [this]
  simp only [Zx, Zz]
  rw [← Qoq (B := Pax.b0 k) (B' := Pco.b0 k) (fun s => 0 ≤ s.1 ∧ s.1 ≤ 562949953421311) (fun s hs => ?_) k _ h]
  ·rfl
  ·obtain ⟨m, a, l⟩ := s
   refine ⟨Pbgv hs.1 hs.2 a l k, fun s' hs' => ?_⟩
   rw [Pnr hs.1 hs.2] at hs'
   split at hs'
   ·obtain ⟨l1, h1, h2⟩ := Option.bind_eq_some_iff.1 hs'
    simp only [Zj, Sum.inl.injEq] at h2
    subst h2
    dsimp only at hs ⊢
    omega
   ·simp at hs'
 ·have : (decide (0 ≤ n) && decide (n ≤ 562949953421311)) = false := by
   by_cases h1 : 0 ≤ n
   ·have : ¬ n ≤ 562949953421311 := fun h2 => h ⟨h1, h2⟩
    simp [this]
   ·simp [h1]
  rw [this]
  rfl
theorem Plv {k} (hk : Zk k) (n : Int) : ∃ s, Pax.f k n = some s ∧ s.size ≤ 17592186044416 := by
 unfold Pax.f
 rw [l1]
 simp only [Zo]
 by_cases h : 0 ≤ n ∧ n ≤ 562949953421311
 ·have : (decide (0 ≤ n) && decide (n ≤ 562949953421311)) = true := by simp [h.1, h.2]
  rw [this]
  simp only [Zx, Zz]
  obtain ⟨x, hx, hq⟩ := Qor (B := Pax.b0 k) (fun s => 0 ≤ s.1 ∧ s.1 ≤ 562949953421311 ∧ 64 * s.2.2.length + s.1.toNat ≤ 562949953421311) (fun s => s.1.toNat)
   (fun x => ∃ y, x = .inl y ∧ 64 * y.2.2.length ≤ 562949953421311) (fun s hs => by
    obtain ⟨m, a, l⟩ := s
    dsimp only at hs ⊢
    rw [Pnr hs.1 hs.2.1]
    by_cases h : 128 ≤ m
    ·rw [if_pos h]
     rw [Qrr (by simp only [Zl, List.length_nil]; unfold limOf; omega)]
     refine .inl ⟨_, rfl, ?_, ?_⟩
     ·dsimp only
      rw [List.length_append]
      simp only [Zl, List.length_nil]
      omega
     ·dsimp only; omega
    ·rw [if_neg h]
     exact .inr ⟨_, rfl, _, rfl, by dsimp only; omega⟩) k (n, ⟨#[]⟩, []) ⟨h.1, h.2, by simp; omega⟩ (by dsimp only; omega)
  obtain ⟨y, rfl, hy⟩ := hq
  rw [hx]
  simp only [Zo]
  unfold Pax.d0
  rw [Qrr (by simp only [Zl, List.length_nil]; unfold limOf; omega)]
  refine ⟨_, rfl, ?_⟩
  rw [Pat, List.length_append]
  simp only [Zl, List.length_nil]
  omega
 ·have : (decide (0 ≤ n) && decide (n ≤ 562949953421311)) = false := by
   by_cases h1 : 0 ≤ n
   ·have : ¬ n ≤ 562949953421311 := fun h2 => h ⟨h1, h2⟩
    simp [this]
   ·simp [h1]
  rw [this]
  exact ⟨_, rfl, by decide⟩
theorem Pqi : Pco.f = Pax.f := by funext k n; exact Pbbm k n
theorem Pbdg {α : Type} {c : Bool} {x y : Option α} {Q : α → Prop} (h : ∃ b, x = some b ∧ Q b) (h' : ∃ b, y = some b ∧ Q b) : ∃ b, (bif c then x else y) = some b ∧ Q b := by
 cases c
 ·exact h'
 ·exact h
theorem Pmt {α β : Type} {x : Option α} {f : α → Option β} {P : α → Prop} {Q : β → Prop} (h : ∃ a, x = some a ∧ P a) (hf : ∀ a, P a → ∃ b, f a = some b ∧ Q b) : ∃ b, x.bind f = some b ∧ Q b := by
 obtain ⟨a, rfl, ha⟩ := h
 exact hf a ha
theorem Pwx {a b : Zb} {m n : Nat} (h1 : a.size ≤ m) (h2 : b.size ≤ n) (h : m + n ≤ 9223372036854775807) : ∃ s, cat? a b = some s ∧ s.size ≤ m + n :=
 ⟨_, Za, by rw [Zs]; omega⟩
theorem Pwn (k : Nat) (a : Int × Int × Int × Zb × U3) : ∃ b, Peg.f k a = some b ∧ True := by
 unfold Peg.f
 simp only [l1, Zo]
 repeat' (first | exact ⟨_, rfl, trivial⟩ | apply Pbdg)
theorem Pob : Peu.f = Pdk.f := by
 funext k a
 unfold Peu.f Pdk.f
 rw [Pqi]
 rfl
theorem Ptg {k} (hk : Zk k) (a : Int × Int × Int × Zb × U3) (hs : Zh a.2.2.2.1.size) : ∃ s, Pdk.f k a = some s ∧ s.size ≤ 17592186044416 + 17592186044416 + 17592186044416 + 17592186044416 + 17592186044416 + 1048576 := by
 unfold Pdk.f
 refine Pmt (Pwn k _) fun r1 _ => Pbdg ⟨_, rfl, by decide⟩ ?_
 refine Pmt (Plv hk _) fun r2 h2 => Pmt (Plv hk _) fun r3 h3 => Pmt (Pwx h2 h3 (by omega)) fun s4 h4 => Pmt (Plv hk _) fun r5 h5 => Pmt (Pwx h4 h5 (by omega)) fun s6 h6 =>
  Pmt (Plv hk _) fun r7 h7 => Pmt (Pwx h6 h7 (by omega)) fun s8 h8 => Pmt (Plv hk _) fun r9 h9 => Pmt (Pwx h8 h9 (by omega)) fun s10 h10 => Pmt (Pwx h10 hs (by omega)) fun s11 h11 => ⟨_, rfl, h11⟩
theorem l2 (k : Nat) (a b c : Int) : Paa.f k a b c = some (decide (b ≤ a) && decide (a ≤ c)) := l1 k a b c
def rg (a b c : Int) : Bool := decide (b ≤ a) && decide (a ≤ c)
theorem Pko {s : Zb} {i : Nat} (h : i < s.size) : Qmy s i = ((s[i]'h).toNat : Int) := by unfold Qmy; rw [dif_pos h]
theorem Peq (s : Zb) (i : Nat) : 0 ≤ Qmy s i := by unfold Qmy; split <;> omega
theorem Pfb (s : Zb) (i : Nat) : Qmy s i ≤ 255 := by
 unfold Qmy; split
 ·have := (s[i]).toNat_lt; omega
 ·omega
theorem Pbm (s : Zb) {a b : Nat} (h : b ≤ s.size) : (s.extract a b).size = b - a := by
 rw [ByteArray.size_extract]; omega
theorem Pdl (s : Zb) {a b i : Nat} (h : b ≤ s.size) (hi : a + i < b) : Qmy (s.extract a b) i = Qmy s (a + i) := by
 have h1 : i < (s.extract a b).size := by rw [Pbm s h]; omega
 rw [Pko h1, Pko (show a + i < s.size by omega), ByteArray.getElem_extract]
theorem Pod {a b : Zb} (h : a.size = b.size) (h2 : ∀ i, i < a.size → Qmy a i = Qmy b i) : a = b := by
 apply ByteArray.ext_getElem h
 intro i h3 h4
 have := h2 i h3
 rw [Pko h3, Pko h4] at this
 apply UInt8.toNat_inj.1
 omega
theorem Pfu {l : List Int} {i : Nat} (h : i < l.length) (h0 : 0 ≤ l[i]) (h1 : l[i] ≤ 255) : Qmy (strOfNums l) i = l[i] := by
 have hs : i < (strOfNums l).size := by rw [Pat]; exact h
 rw [Pko hs]
 show ((((l.map fun n => UInt8.ofNat n.toNat).toArray[i]'(by simpa using h)).toNat : Int)) = _
 simp
 omega
def pw (i : Nat) : Int := 128 ^ i
theorem pw0 : pw 0 = 1 := rfl
theorem pw1 (i : Nat) : pw (i + 1) = pw i * 128 := by unfold pw; rw [Int.pow_succ]
theorem Pux (i : Nat) : 1 ≤ pw i := by
 induction i with
 | zero => rw [pw0]; omega
 | succ i ih => rw [pw1]; omega
theorem pw7 : pw 7 = 562949953421312 := rfl
def val (s : Zb) : Nat → Int
 | 0 => 0
 | i + 1 => val s i + (Qmy s i % 128) * pw i
theorem Pbbk (s : Zb) : ∀ i, 0 ≤ val s i ∧ val s i < pw i
 | 0 => by simp [val, pw0]
 | i + 1 => by
  have ⟨h1, h2⟩ := Pbbk s i
  have h3 := Peq s i
  have h4 := Pux i
  have h5 : 0 ≤ Qmy s i % 128 := Int.emod_nonneg _ (by omega)
  have h6 : Qmy s i % 128 ≤ 127 := by omega
  have h7 : Qmy s i % 128 * pw i ≤ 127 * pw i := Int.mul_le_mul_of_nonneg_right h6 (by omega)
  have h8 : 0 ≤ Qmy s i % 128 * pw i := Int.mul_nonneg h5 (by omega)
  rw [pw1]
  show 0 ≤ val s i + _ ∧ val s i + _ < _
  omega
theorem Pbej {i j : Nat} (h : i ≤ j) : pw i ≤ pw j := by
 obtain ⟨d, rfl⟩ := Nat.le.dest h
 clear h
 induction d with
 | zero => exact Int.le_refl _
 | succ d ih => have := Pux (i + d); rw [← Nat.add_assoc, pw1]; omega
theorem val7 (s : Zb) {i : Nat} (h : i ≤ 7) : 0 ≤ val s i ∧ val s i ≤ 562949953421311 := by
 have h1 := Pbbk s i
 have h2 := Pbej h
 rw [pw7] at h2
 omega
theorem Pbfn {k} (hk : Zk k) {n : Int} (h0 : 0 ≤ n) (h1 : n ≤ 562949953421311) : ∃ l m, Pax.f k n = some (strOfNums (l ++ [m])) ∧ (∀ x ∈ l, 128 ≤ x ∧ x ≤ 255) ∧ 0 ≤ m ∧ m < 128 := by
 unfold Pax.f
 rw [l1]
 have : (decide (0 ≤ n) && decide (n ≤ 562949953421311)) = true := by simp [h0, h1]
 simp only [Zo, this, Zx, Zz]
 obtain ⟨x, hx, hq⟩ := Qor (B := Pax.b0 k) (fun s => 0 ≤ s.1 ∧ s.1 ≤ 562949953421311 ∧ (64 * s.2.2.length + s.1.toNat ≤ 562949953421311) ∧ ∀ x ∈ s.2.2, 128 ≤ x ∧ x ≤ 255) (fun s => s.1.toNat)
   (fun x => ∃ y, x = .inl y ∧ 64 * y.2.2.length ≤ 562949953421311 ∧ (∀ x ∈ y.2.2, 128 ≤ x ∧ x ≤ 255) ∧ 0 ≤ y.1 ∧ y.1 < 128) (fun s hs => by
    obtain ⟨m, a, l⟩ := s
    dsimp only at hs ⊢
    rw [Pnr hs.1 hs.2.1]
    by_cases h : 128 ≤ m
    ·rw [if_pos h]
     rw [Qrr (by simp only [Zl, List.length_nil]; unfold limOf; omega)]
     refine .inl ⟨_, rfl, ?_, ?_⟩
     ·dsimp only
      rw [List.length_append]
      simp only [Zl, List.length_nil]
      refine ⟨by omega, by omega, by omega, fun x hx => ?_⟩
      rcases List.mem_append.1 hx with hx | hx
      ·exact hs.2.2.2 x hx
      ·rw [List.mem_singleton] at hx
       have e : m.tmod 128 = m % 128 := Int.tmod_eq_emod_of_nonneg hs.1
       rw [hx, e, Zw, Qrq (by omega) (by omega)]
       omega
     ·dsimp only; omega
    ·rw [if_neg h]
     exact .inr ⟨_, rfl, _, rfl, by dsimp only; omega, hs.2.2.2, hs.1, by dsimp only; omega⟩) k (n, ⟨#[]⟩, []) ⟨h0, h1, by simp; omega, by simp⟩ (by dsimp only; omega)
 obtain ⟨y, rfl, hy, hl, h2, h3⟩ := hq
 rw [hx]
 simp only [Zo]
 unfold Pax.d0
 rw [Qrr (by simp only [Zl, List.length_nil]; unfold limOf; omega)]
 refine ⟨y.2.2, y.1, ?_, hl, h2, h3⟩
 rw [Qrq h2 (by omega)]
 rfl
theorem Ptw {k} (hk : Zk k) {n : Int} (h0 : 0 ≤ n) (h1 : n ≤ 562949953421311) : ∃ v, Pax.f k n = some v ∧ 0 < v.size ∧ (∀ i, i + 1 < v.size → 128 ≤ Qmy v i) ∧ Qmy v (v.size - 1) < 128 := by
 obtain ⟨l, m, h, hl, hm, hm2⟩ := Pbfn hk h0 h1
 refine ⟨_, h, ?_, ?_, ?_⟩
 ·rw [Pat]; simp
 ·intro i hi
  rw [Pat] at hi
  simp only [List.length_append, Zl, List.length_nil] at hi
  have hi2 : i < l.length := by omega
  have e : (l ++ [m])[i]'(by simp; omega) = l[i] := List.getElem_append_left hi2
  have := hl l[i] (List.getElem_mem hi2)
  rw [Pfu (l := l ++ [m]) (by simp; omega) (by rw [e]; omega) (by rw [e]; omega), e]
  omega
 ·rw [Pat]
  simp only [List.length_append, Zl, List.length_nil]
  have e : (l ++ [m])[l.length + 1 - 1]'(by simp) = m := by simp
  show Qmy _ (l.length + 1 - 1) < 128
  rw [Pfu (l := l ++ [m]) (by simp) (by rw [e]; omega) (by rw [e]; omega), e]
  omega
theorem Pbc {S X : Type} {B : S → Option (S ⊕ X)} {k : Nat} {s s' : S} (h : B s = some (.inl s')) : iter B (k + 1) s = iter B k s' := by simp [iter, h]
theorem Pbn {S X : Type} {B : S → Option (S ⊕ X)} {k : Nat} {s : S} {x : X} (h : B s = some (.inr x)) : iter B (k + 1) s = some x := by simp [iter, h]
theorem Pbin {a v V : Int} {m : Nat} (h0 : 0 ≤ a) (hv : 0 ≤ v) (h : a * pw m + v = V) : a ≤ V := by
 have h1 := Pux m
 have h2 : a * 1 ≤ a * pw m := Int.mul_le_mul_of_nonneg_left h1 h0
 omega
theorem Puy (k : Nat) (s : Zb) (x y : Int) (j : Int) (V : Int) (hV : V ≤ 562949953421311) : ∀ (i : Nat) (kk : Nat) (n : Int), i < kk → i ≤ 7 → (i ≤ s.size) → 0 ≤ n → n * pw i + val s i = V →
  iter (X := (Zb × Int × Int × U3) ⊕ U3) (Paw.b1 k) kk (s, x, y, j, n, (i : Int) - 1) = some (.inl (s, x, y, j, V))
 | 0, kk, n, hk, _, _, h0, h => by
  obtain ⟨kk, rfl⟩ := Z1 (n := kk)
  have e : n = V := by simp [pw0, val] at h; exact h
  subst e
  exact Pbn (by unfold Paw.b1; simp)
 | i + 1, kk, n, hk, h7, hs, h0, h => by
  obtain ⟨kk, rfl⟩ := Z1 (n := kk)
  have hb0 := Peq s i
  have hb1 := Pfb s i
  have hv := Pbbk s i
  have hp := Pux i
  have e1 : (Qmy s i).tmod 128 = Qmy s i % 128 := Int.tmod_eq_emod_of_nonneg hb0
  have h2 : (n * 128 + Qmy s i % 128) * pw i + val s i = V := by
   rw [← h, pw1, Int.add_mul]
   simp only [val]
   have : n * (pw i * 128) = n * 128 * pw i := by rw [Int.mul_comm (pw i) 128, Int.mul_assoc]
   rw [this]; omega
  have h3 : n * 128 + Qmy s i % 128 ≤ V := Pbin (by omega) hv.1 h2
  have h4 : Paw.b1 k (s, x, y, j, n, ((i + 1 : Nat) : Int) - 1) = some (.inl (s, x, y, j, n * 128 + Qmy s i % 128, (i : Int) - 1)) := by
   unfold Paw.b1
   dsimp only
   have e2 : ((i + 1 : Nat) : Int) - 1 = (i : Int) := by omega
   rw [e2, Zi, Zn, Zo, Zw (n := Qmy s i), e1, Zw (n := n * 128), Zw (n := n * 128 + Qmy s i % 128), Zw (n := (i : Int) - 1)]
   have : decide (0 ≤ (i : Int)) = true := by simp
   rw [this]
   rfl
  rw [Pbc h4]
  exact Puy k s x y j V hV i kk _ (by omega) (by omega) (by omega) (by omega) h2
theorem Pna {k} (hk : Zk k) (s : Zb) (hs : s.size ≤ 4611686018427387904) (j : Nat) (h1 : 1 ≤ j) (h7 : j ≤ 7) (hj : j ≤ s.size) {v : Zb} (hv : Pax.f k (val s j) = some v) :
  Paw.b0 k (s, 0, 0, (j : Int)) = if v = s.extract 0 j then some (.inr (.inr (val s j, (j : Int)))) else some (.inl (s, 0, 0, ((j + 1 : Nat) : Int))) := by
 unfold Paw.b0
 dsimp only
 have e1 : decide ((j : Int) ≤ 7) = true := by simp; omega
 have e2 : decide ((j : Int) ≤ (s.size : Int)) = true := by simp; omega
 rw [e1, e2, Zw (n := (j : Int) - 1), Puy k s 0 0 j (val s j) (val7 s h7).2 j k 0 (by omega) h7 hj (by omega) (by simp)]
 simp only [Zy, Zo]
 unfold Paw.d0
 dsimp only
 rw [hv, Zc, Zw]
 simp only [Zo, Zn]
 show (bif decide (v = s.extract (0 : Int).toNat j) then _ else _) = _
 by_cases h : v = s.extract 0 j
 ·rw [if_pos h]; simp [h]
 ·rw [if_neg h]; simp [h]
theorem Ptd (k : Nat) (s : Zb) (j : Nat) (h : 7 < j ∨ s.size < j) : Paw.b0 k (s, 0, 0, (j : Int)) = some (.inr (.inl (0, 0))) := by
 unfold Paw.b0
 dsimp only
 by_cases h7 : 7 < j
 ·have : decide ((j : Int) ≤ 7) = false := by simp; omega
  rw [this]; rfl
 ·have h1 : decide ((j : Int) ≤ (s.size : Int)) = false := by simp; omega
  rw [h1]
  cases decide ((j : Int) ≤ 7) <;> rfl
theorem Pqa {k} (hk : Zk k) (s : Zb) (hs : s.size ≤ 4611686018427387904) : ∀ (d kk j : Nat), j + d = 8 → d < kk → 1 ≤ j → (∃ i, i + 1 < j ∧ Qmy s i < 128) →
  iter (X := U3 ⊕ U3) (Paw.b0 k) kk (s, 0, 0, (j : Int)) = some (.inl (0, 0))
 | d, kk, j, hd, hkk, h1, ⟨i, hi, hb⟩ => by
  obtain ⟨kk, rfl⟩ := Z1 (n := kk)
  by_cases h : 7 < j ∨ s.size < j
  ·exact Pbn (Ptd k s j h)
  ·obtain ⟨v, hv, hv0, hv1, hv2⟩ := Ptw hk (val7 s (show j ≤ 7 by omega)).1 (val7 s (show j ≤ 7 by omega)).2
   have hne : v ≠ s.extract 0 j := by
    intro e
    have hz : v.size = j := by rw [e, Pbm s (by omega)]; omega
    have := hv1 i (by omega)
    rw [e, Pdl s (by omega) (by omega), Nat.zero_add] at this
    omega
   have := Pna hk s hs j h1 (by omega) (by omega) hv
   rw [if_neg hne] at this
   rw [Pbc this]
   exact Pqa hk s hs (d - 1) kk (j + 1) (by omega) (by omega) (by omega) ⟨i, by omega, hb⟩
termination_by d => d
decreasing_by omega
theorem Pbig {b : Int} (h0 : 0 ≤ b) (h1 : b ≤ 255) : Zr (bits .and .u8 b 127) = b % 128 := by
 unfold bits
 simp only
 have e : (BitVec.ofInt 8 b &&& BitVec.ofInt 8 127).toNat = b.toNat % 128 := by
  rw [BitVec.toNat_and]
  have e1 : (BitVec.ofInt 8 b).toNat = b.toNat := by
   rw [BitVec.toNat_ofInt]
   have : b % (2 ^ 8 : Nat) = b := Int.emod_eq_of_lt h0 (by omega)
   rw [this]
  rw [e1]
  exact Nat.and_two_pow_sub_one_eq_mod b.toNat 7
 show Zr (IntKind.wrap .u8 ((BitVec.ofInt 8 b &&& BitVec.ofInt 8 127).toNat : Int)) = _
 rw [e, Qrq (by omega) (by omega), Zw]
 omega
theorem Pbhf {n m : Int} {i : Nat} (h0 : 0 ≤ n) (h1 : n < 2 ^ i) (h2 : 0 ≤ m) (h3 : m * 2 ^ i ≤ 9223372036854775807) (hi : i < 63) : bits .or .i64 n (m * 2 ^ i) = n + m * 2 ^ i := by
 have hp : (0 : Int) < 2 ^ i := Int.pow_pos (by omega)
 have hp1 : (2 : Int) ^ i ≤ 2 ^ 63 := by exact_mod_cast Nat.pow_le_pow_right (by omega) (show i ≤ 63 by omega)
 have hm : 0 ≤ m * 2 ^ i := Int.mul_nonneg h2 (by omega)
 rw [Qpy h0 (by omega) hm h3]
 obtain ⟨a, rfl⟩ := Int.eq_ofNat_of_zero_le h0
 obtain ⟨c, rfl⟩ := Int.eq_ofNat_of_zero_le h2
 have e : ((c : Int) * 2 ^ i) = ((2 ^ i * c : Nat) : Int) := by push_cast; rw [Int.mul_comm]
 rw [e, Zn, Zn, Nat.or_comm, ← Nat.two_pow_add_eq_or_of_lt (by exact_mod_cast h1)]
 push_cast
 omega
theorem Pbgh {n m : Int} {i : Nat} (hi : i < 7) (h0 : 0 ≤ n) (h1 : n < pw i) (h2 : 0 ≤ m) (h3 : m < 128) :
  bits .or .i64 n (Zr (m * 2 ^ (min (Zr (7 * (i : Int))).toNat (IntKind.bits .i64)))) = n + m * pw i := by
 have e0 : Zr (7 * (i : Int)) = 7 * (i : Int) := Zw
 have e1 : min (7 * (i : Int)).toNat (IntKind.bits .i64) = 7 * i := by show min _ 64 = _; omega
 have e2 : pw i = 2 ^ (7 * i) := by
  unfold pw
  rw [Int.pow_mul]
  rfl
 have hp := Pbej (show i ≤ 6 by omega)
 have h6 : pw 6 = 4398046511104 := rfl
 have hp0 := Pux i
 have h4 : m * pw i ≤ 127 * pw i := Int.mul_le_mul_of_nonneg_right (by omega) (by omega)
 have h5 : 0 ≤ m * pw i := Int.mul_nonneg h2 (by omega)
 rw [e0, e1, ← e2, Zw, e2, Pbhf h0 (by rw [← e2]; exact h1) h2 (by rw [← e2]; omega) (by omega)]
theorem Pbdq {k} (hk : Zk k) (s : Zb) (hs : s.size ≤ 4611686018427387904) (i : Nat) (h7 : i < 7) (hi : i < s.size) {v : Zb} (hv : Pax.f k (val s (i + 1)) = some v) :
  Pdr.b0 k (s, 0, 0, val s i, (i : Int)) = if Qmy s i < 128 then (if v = s.extract 0 (i + 1) then some (.inr (.inr (val s (i + 1), ((i + 1 : Nat) : Int)))) else some (.inr (.inr (0, 0)))) else some (.inl (s, 0, 0, val s (i + 1), ((i + 1 : Nat) : Int))) := by
 unfold Pdr.b0
 dsimp only
 have e1 : decide ((i : Int) < (s.size : Int)) = true := by simp; omega
 have e2 : decide ((i : Int) < 7) = true := by simp; omega
 have hb0 := Peq s i
 have hb1 := Pfb s i
 have hl := Pbbk s i
 have e3 : bits .or .i64 (val s i) (Zr (Zr (bits .and .u8 (Qmy s i) 127) * 2 ^ (min (Zr (7 * (i : Int))).toNat (IntKind.bits .i64)))) = val s (i + 1) := by
  rw [Pbig hb0 hb1, Pbgh h7 hl.1 hl.2 (by omega) (by omega)]
  rfl
 have e4 : ¬ (Zr (7 * (i : Int)) < 0) := by rw [Zw]; omega
 have e5 : Zr ((i : Int) + 1) = ((i + 1 : Nat) : Int) := by rw [Zw]; omega
 rw [e1, e2, Zi, Zn]
 simp only [Zo, Zy]
 rw [if_neg e4, e3, Pbbm, hv, e5, Zc]
 simp only [Zo, Zn]
 by_cases hb : Qmy s i < 128
 ·rw [if_pos hb]
  by_cases h : v = s.extract 0 (i + 1)
  ·rw [if_pos h]; simp [h, hb]
  ·rw [if_neg h]; simp [h, hb]
 ·rw [if_neg hb]; simp [hb]
theorem Pbfy (k : Nat) (s : Zb) (i : Nat) (n : Int) (h : ¬ i < 7 ∨ ¬ i < s.size) : Pdr.b0 k (s, 0, 0, n, (i : Int)) = some (.inr (.inl (0, 0))) := by
 unfold Pdr.b0
 dsimp only
 by_cases h7 : i < s.size
 ·have h1 : decide ((i : Int) < 7) = false := by simp; omega
  rw [h1]
  cases decide ((i : Int) < (s.size : Int)) <;> rfl
 ·have : decide ((i : Int) < (s.size : Int)) = false := by simp; omega
  rw [this]; rfl
def rvOk (k : Nat) (s : Zb) (r : U3) : Prop := r = (0, 0) ∨ (0 ≤ r.1 ∧ r.1 ≤ 562949953421311 ∧ 1 ≤ r.2 ∧ r.2 ≤ 7 ∧ r.2 ≤ s.size ∧ Pax.f k r.1 = some (s.extract 0 r.2.toNat))
def rvEnd : U3 ⊕ U3 → Int × Int
 | .inl _ => (0, 0) | .inr o => o
theorem Prs {k} (hk : Zk k) (s : Zb) (hs : s.size ≤ 4611686018427387904) : ∀ (d kk kk' i : Nat), i + d = 7 → d < kk → d < kk' → (∀ m, m < i → 128 ≤ Qmy s m) →
  ∃ x y, iter (X := U3 ⊕ U3) (Paw.b0 k) kk (s, 0, 0, ((i + 1 : Nat) : Int)) = some x ∧ iter (X := U3 ⊕ U3) (Pdr.b0 k) kk' (s, 0, 0, val s i, (i : Int)) = some y ∧ rvEnd x = rvEnd y ∧ rvOk k s (rvEnd x)
 | d, kk, kk', i, hd, hkk, hkk', hb => by
  obtain ⟨kk, rfl⟩ := Z1 (n := kk)
  obtain ⟨kk', rfl⟩ : ∃ m, kk' = m + 1 := ⟨kk' - 1, by omega⟩
  by_cases h : i < 7 ∧ i < s.size
  ·obtain ⟨v, hv, hv0, hv1, hv2⟩ := Ptw hk (val7 s (show i + 1 ≤ 7 by omega)).1 (val7 s (show i + 1 ≤ 7 by omega)).2
   have ha := Pna hk s hs (i + 1) (by omega) (by omega) (by omega) hv
   have hc := Pbdq hk s hs i h.1 h.2 hv
   have hl7 := val7 s (show i + 1 ≤ 7 by omega)
   by_cases h8 : Qmy s i < 128
   ·rw [if_pos h8] at hc
    by_cases he : v = s.extract 0 (i + 1)
    ·rw [if_pos he] at ha hc
     refine ⟨_, _, Pbn ha, Pbn hc, rfl, .inr ⟨hl7.1, hl7.2, by show (1 : Int) ≤ ((i + 1 : Nat) : Int); omega, by show ((i + 1 : Nat) : Int) ≤ 7; omega, by show ((i + 1 : Nat) : Int) ≤ _; omega, ?_⟩⟩
     show Pax.f k (val s (i + 1)) = some (s.extract 0 (((i + 1 : Nat) : Int)).toNat)
     rw [Zn, ← he]; exact hv
    ·rw [if_neg he] at ha hc
     refine ⟨.inl (0, 0), _, ?_, Pbn hc, rfl, .inl rfl⟩
     rw [Pbc ha]
     exact Pqa hk s hs (d - 1) kk (i + 1 + 1) (by omega) (by omega) (by omega) ⟨i, by omega, h8⟩
   ·rw [if_neg h8] at hc
    have he : v ≠ s.extract 0 (i + 1) := by
     intro e
     have hz : v.size = i + 1 := by rw [e, Pbm s (by omega)]; omega
     rw [hz, e, Pdl s (by omega) (by omega)] at hv2
     have : 0 + (i + 1 - 1) = i := by omega
     rw [this] at hv2
     exact h8 hv2
    rw [if_neg he] at ha
    rw [Pbc ha, Pbc hc]
    exact Prs hk s hs (d - 1) kk kk' (i + 1) (by omega) (by omega) (by omega) (fun m hm => by
     by_cases e : m = i
     ·subst e; omega
     ·exact hb m (by omega))
  ·exact ⟨_, _, Pbn (Ptd k s (i + 1) (by omega)), Pbn (Pbfy k s i (val s i) (by omega)), rfl, .inl rfl⟩
termination_by d => d
decreasing_by omega
theorem Pxt {k} (hk : Zk k) (s : Zb) (hs : s.size ≤ 4611686018427387904) : ∃ r, Paw.f k s = some r ∧ Pdr.f k s = some r ∧ rvOk k s r := by
 obtain ⟨x, y, h1, h2, h3, h4⟩ := Prs hk s hs 7 k k 0 rfl (by omega) (by omega) (fun m hm => by omega)
 refine ⟨rvEnd x, ?_, ?_, h4⟩
 ·unfold Paw.f
  have : ((0 + 1 : Nat) : Int) = 1 := rfl
  rw [this] at h1
  rw [h1]
  cases x <;> rfl
 ·unfold Pdr.f
  have e : val s 0 = 0 := rfl
  have : ((0 : Nat) : Int) = 0 := rfl
  rw [e, this] at h2
  rw [h2, h3]
  cases y <;> rfl
def rdv (k : Nat) (s : Zb) : Int × Int := (Paw.f k s).getD (0, 0)
theorem Pjb {k} (hk : Zk k) (s : Zb) (hs : s.size ≤ 4611686018427387904) : Paw.f k s = some (rdv k s) ∧ Pdr.f k s = some (rdv k s) ∧ rvOk k s (rdv k s) := by
 obtain ⟨r, h1, h2, h3⟩ := Pxt hk s hs
 have : rdv k s = r := by unfold rdv; rw [h1]; rfl
 rw [this]
 exact ⟨h1, h2, h3⟩
def numP (k : Nat) (s : Zb) (bad : Bool) : Int × Zb × Bool :=
 if bad = true ∨ (rdv k s).2 = 0 then (0, s, true) else ((rdv k s).1, s.extract (rdv k s).2.toNat s.size, false)
theorem Pnz {k} (hk : Zk k) (s : Zb) (bad : Bool) (hs : s.size ≤ 4611686018427387904) : Paz.f k (s, bad) = some (numP k s bad) := by
 obtain ⟨_, h2, h3⟩ := Pjb hk s hs
 unfold Paz.f numP
 dsimp only
 rw [h2]
 simp only [Zo]
 cases bad
 ·by_cases h : (rdv k s).2 = 0
  ·simp [h]
  ·have h4 : 0 ≤ (rdv k s).2 ∧ (rdv k s).2 ≤ s.size := by
    rcases h3 with h3 | h3
    ·rw [h3] at h; exact absurd rfl h
    ·omega
   rw [Qqw h4.1 h4.2 (by omega)]
   simp [h]
 ·rfl
theorem Pmw (k : Nat) (s : Zb) (bad : Bool) : (numP k s bad).2.1.size ≤ s.size := by
 unfold numP
 split
 ·exact Nat.le_refl _
 ·show (s.extract _ _).size ≤ _
  rw [ByteArray.size_extract]; omega
def numN (k : Nat) : Nat → Zb → Option (List Int × Zb)
 | 0, t => some ([], t)
 | d + 1, t => if (rdv k t).2 = 0 then none else (numN k d (t.extract (rdv k t).2.toNat t.size)).map fun p => ((rdv k t).1 :: p.1, p.2)
theorem Pms (s : Zb) (a : Nat) (h : a ≤ s.size) (c : Nat) (hc : a + c ≤ s.size) : (s.extract a s.size).extract c (s.extract a s.size).size = s.extract (a + c) s.size := by
 rw [Pbm s (Nat.le_refl _)]
 apply Pod
 ·rw [Pbm, Pbm]
  ·omega
  ·omega
  ·rw [Pbm] <;> omega
 ·intro i hi
  rw [Pbm] at hi
  ·rw [Pdl, Pdl, Pdl]
   ·congr 1; omega
   all_goals first | omega | (rw [Pbm] <;> omega)
  ·rw [Pbm] <;> omega
theorem Pyl {k} (hk : Zk k) (s : Zb) (hs : s.size ≤ 4611686018427387904) (n : Nat) (hn : n ≤ 1000) (z1 : List Int) (z2 : Int) : ∀ (d kk i a : Nat) (l : List Int), i + d = n → d < kk → a ≤ s.size → l.length = i →
  match numN k d (s.extract a s.size) with
  | none => ∃ l', iter (X := (Int × List Int × Int × List Int) ⊕ (List Int × Int)) (Pbq.b0 k) kk (s, (a : Int), (n : Int), z1, z2, l, (i : Int)) = some (.inr (l', -1))
  | some (xs, u) => xs.length = d ∧ ∃ a' : Nat, a ≤ a' ∧ a' ≤ s.size ∧ u = s.extract a' s.size ∧ iter (X := (Int × List Int × Int × List Int) ⊕ (List Int × Int)) (Pbq.b0 k) kk (s, (a : Int), (n : Int), z1, z2, l, (i : Int)) = some (.inl ((a' : Int), z1, z2, l ++ xs))
 | 0, kk, i, a, l, hi, hkk, ha, hl => by
  obtain ⟨kk, rfl⟩ := Z1 (n := kk)
  refine ⟨rfl, a, Nat.le_refl _, ha, rfl, Pbn ?_⟩
  unfold Pbq.b0
  have : decide ((i : Int) < (n : Int)) = false := by simp; omega
  dsimp only
  rw [this]
  simp
 | d + 1, kk, i, a, l, hi, hkk, ha, hl => by
  obtain ⟨kk, rfl⟩ := Z1 (n := kk)
  have hz : (s.extract a s.size).size = s.size - a := Pbm s (Nat.le_refl _)
  obtain ⟨h1, _, h3⟩ := Pjb hk (s.extract a s.size) (by omega)
  have e1 : decide ((i : Int) < (n : Int)) = true := by simp; omega
  have e2 : decide ((s.size : Int) < (a : Int)) = false := by simp; omega
  have hb : Pbq.b0 k (s, (a : Int), (n : Int), z1, z2, l, (i : Int)) = if (rdv k (s.extract a s.size)).2 = 0 then some (.inr (.inr (l, -1))) else some (.inl (s, (a : Int) + (rdv k (s.extract a s.size)).2, (n : Int), z1, z2, l ++ [(rdv k (s.extract a s.size)).1], ((i + 1 : Nat) : Int))) := by
   unfold Pbq.b0
   dsimp only
   rw [e1, e2, Zc]
   simp only [Zy, Zz, Zo, Zn, h1]
   by_cases h : (rdv k (s.extract a s.size)).2 = 0
   ·rw [if_pos h]; simp [h]
   ·rw [if_neg h, Qrr (by simp only [Zl, List.length_nil]; unfold limOf; omega)]
    have h4 : 0 ≤ (rdv k (s.extract a s.size)).2 ∧ (rdv k (s.extract a s.size)).2 ≤ ((s.extract a s.size).size : Int) := by
     rcases h3 with h3 | h3
     ·rw [h3] at h; exact absurd rfl h
     ·omega
    rw [Zw, Zw]
    simp [h]
  unfold numN
  by_cases h : (rdv k (s.extract a s.size)).2 = 0
  ·rw [if_pos h] at hb ⊢
   exact ⟨l, Pbn hb⟩
  ·rw [if_neg h] at hb ⊢
   rw [Pbc hb]
   have h4 : 1 ≤ (rdv k (s.extract a s.size)).2 ∧ (rdv k (s.extract a s.size)).2 ≤ ((s.extract a s.size).size : Int) := by
    rcases h3 with h3 | h3
    ·rw [h3] at h; exact absurd rfl h
    ·omega
   obtain ⟨c, hc⟩ := Int.eq_ofNat_of_zero_le (show 0 ≤ (rdv k (s.extract a s.size)).2 by omega)
   rw [hc] at h4 ⊢
   rw [Zn, Pms s a ha c (by omega)]
   have e3 : (a : Int) + (c : Int) = ((a + c : Nat) : Int) := by omega
   rw [e3]
   have ih := Pyl hk s hs n hn z1 z2 d kk (i + 1) (a + c) (l ++ [(rdv k (s.extract a s.size)).1]) (by omega) (by omega) (by omega) (by simp; omega)
   cases hm : numN k d (s.extract (a + c) s.size) with
   | none => rw [hm] at ih; exact ih
   | some p =>
    rw [hm] at ih
    obtain ⟨h5, a', h6, h7, h8, h9⟩ := ih
    refine ⟨by simp [h5], a', by omega, h7, h8, ?_⟩
    rw [h9]
    simp
theorem Pwk {k} (hk : Zk k) (s : Zb) (hs : s.size ≤ 4611686018427387904) (n : Nat) (hn : n ≤ 1000) (a : Nat) (ha : a ≤ s.size) :
  match numN k n (s.extract a s.size) with
  | none => ∃ l', Pbq.f k s (a : Int) (n : Int) = some (l', -1)
  | some (xs, u) => xs.length = n ∧ ∃ a' : Nat, a ≤ a' ∧ a' ≤ s.size ∧ u = s.extract a' s.size ∧ Pbq.f k s (a : Int) (n : Int) = some (xs, (a' : Int)) := by
 have h := Pyl hk s hs n hn [] 0 n k 0 a [] (by omega) (by omega) ha rfl
 cases hm : numN k n (s.extract a s.size) with
 | none =>
  rw [hm] at h
  obtain ⟨l', h⟩ := h
  refine ⟨l', ?_⟩
  unfold Pbq.f
  have : ((0 : Nat) : Int) = 0 := rfl
  rw [this] at h
  rw [h]; rfl
 | some p =>
  rw [hm] at h
  obtain ⟨h1, a', h2, h3, h4, h5⟩ := h
  refine ⟨h1, a', h2, h3, h4, ?_⟩
  unfold Pbq.f
  have : ((0 : Nat) : Int) = 0 := rfl
  rw [this] at h5
  rw [h5]; rfl
theorem Pbav (k : Nat) (s : Zb) : numP k s true = (0, s, true) := by unfold numP; simp
theorem Ppx {k : Nat} {s : Zb} (h : (rdv k s).2 = 0) : numP k s false = (0, s, true) := by unfold numP; simp [h]
theorem Ppy {k : Nat} {s : Zb} (h : ¬ (rdv k s).2 = 0) : numP k s false = ((rdv k s).1, s.extract (rdv k s).2.toNat s.size, false) := by unfold numP; simp [h]
theorem Pvn (s : Zb) : s.extract 0 s.size = s := by
 apply Pod
 ·rw [Pbm s (Nat.le_refl _)]; omega
 ·intro i hi
  rw [Pbm s (Nat.le_refl _)] at hi
  rw [Pdl s (Nat.le_refl _) (by omega), Nat.zero_add]
theorem Pxs {k} (hk : Zk k) : (rdv k ⟨#[]⟩).2 = 0 := by
 obtain ⟨_, _, h⟩ := Pjb hk (⟨#[]⟩ : Zb) (by decide)
 rcases h with h | h
 ·rw [h]
 ·have : ((⟨#[]⟩ : Zb).size : Int) = 0 := rfl
  omega
theorem Pvu {k} (hk : Zk k) (r : Int × U10) (hs : Zh r.2.1.size) : ∃ q, Paz.f k (r.2.1, r.2.2) = some q ∧ q = numP k r.2.1 r.2.2 ∧ Zh q.2.1.size :=
 ⟨_, Pnz hk _ _ (by omega), rfl, Nat.le_trans (Pmw k _ _) hs⟩
def runN (k : Nat) : Nat → Zb → Bool → List Int × Zb × Bool
 | 0, t, b => ([], t, b)
 | d + 1, t, b => ((numP k t b).1 :: (runN k d (numP k t b).2.1 (numP k t b).2.2).1, (runN k d (numP k t b).2.1 (numP k t b).2.2).2)
theorem Pbba (k : Nat) : ∀ (d : Nat) (t : Zb), (runN k d t true).2 = (t, true)
 | 0, _ => rfl
 | d + 1, t => by
  show (runN k d (numP k t true).2.1 (numP k t true).2.2).2 = _
  rw [Pbav]
  exact Pbba k d t
theorem Pxx (k : Nat) : ∀ (d : Nat) (t : Zb), match numN k d t with | none => (runN k d t false).2.2 = true | some p => runN k d t false = (p.1, p.2, false)
 | 0, _ => rfl
 | d + 1, t => by
  unfold numN
  by_cases h : (rdv k t).2 = 0
  ·rw [if_pos h]
   show (runN k d (numP k t false).2.1 (numP k t false).2.2).2.2 = _
   rw [Ppx h, Pbba]
  ·rw [if_neg h]
   have ih := Pxx k d (t.extract (rdv k t).2.toNat t.size)
   have e : runN k (d + 1) t false = ((rdv k t).1 :: (runN k d (t.extract (rdv k t).2.toNat t.size) false).1, (runN k d (t.extract (rdv k t).2.toNat t.size) false).2) := by
    show ((numP k t false).1 :: _, _) = _
    rw [Ppy h]
   cases hm : numN k d (t.extract (rdv k t).2.toNat t.size) with
   | none => rw [hm] at ih; show (runN k (d + 1) t false).2.2 = true; rw [e]; exact ih
   | some p => rw [hm] at ih; show runN k (d + 1) t false = _; rw [e, ih]
theorem len5 {l : List Int} (h : l.length = 5) : ∃ a b c d e, l = [a, b, c, d, e] := by
 match l, h with
 | [a, b, c, d, e], _ => exact ⟨a, b, c, d, e, rfl⟩
theorem len2 {l : List Int} (h : l.length = 2) : ∃ a b, l = [a, b] := by
 match l, h with
 | [a, b], _ => exact ⟨a, b, rfl⟩
theorem Poa {k} (hk : Zk k) (s : Zb) (hs : Zh s.size) : ∃ r, Pew.f k s = some r ∧ Pes.f k s = some r := by
 have hv := Pwk hk s (by omega) 5 (by omega) 0 (by omega)
 rw [Pvn] at hv
 have hr := Pxx k 5 s
 unfold Pes.f Pew.f
 have e5 : ((5 : Nat) : Int) = 5 := rfl
 rw [e5, Zu] at hv
 have hq1 : Paz.f k (s, false) = some (numP k s false) := Pnz hk s false (by omega)
 have hz1 : (numP k s false).2.1.size ≤ 1048576 := Nat.le_trans (Pmw k _ _) hs
 have hR : runN k 5 s false = runN k 5 s false := rfl
 unfold runN at hR
 obtain ⟨r1, h1⟩ : ∃ r, numP k s false = r := ⟨_, rfl⟩
 rw [h1] at hq1 hz1
 obtain ⟨r2, hq2, h2, hz2⟩ := Pvu hk r1 hz1
 obtain ⟨r3, hq3, h3, hz3⟩ := Pvu hk r2 hz2
 obtain ⟨r4, hq4, h4, hz4⟩ := Pvu hk r3 hz3
 obtain ⟨r5, hq5, h5, hz5⟩ := Pvu hk r4 hz4
 have hrun : runN k 5 s false = ([r1.1, r2.1, r3.1, r4.1, r5.1], r5.2.1, r5.2.2) := by
  simp only [runN, h1, ← h2, ← h3, ← h4, ← h5]
 rw [hrun] at hr
 rw [hq1]
 simp only [Zo, hq2, hq3, hq4, hq5]
 cases hm : numN k 5 s with
 | none =>
  rw [hm] at hr hv
  obtain ⟨l', hv⟩ := hv
  have hr : r5.2.2 = true := hr
  rw [hv, hr]
  exact ⟨_, rfl, rfl⟩
 | some p =>
  rw [hm] at hr hv
  obtain ⟨hl, a', _, ha, hu, hv⟩ := hv
  have hr : ([r1.1, r2.1, r3.1, r4.1, r5.1], r5.2.1, r5.2.2) = (p.1, p.2, false) := hr
  simp only [Prod.mk.injEq] at hr
  obtain ⟨hp, hp2, hb⟩ := hr
  have hne : ¬ s = (⟨#[]⟩ : Zb) := by
   intro e
   subst e
   unfold numN at hm
   rw [if_pos (Pxs hk)] at hm
   simp at hm
  rw [hv, hb]
  have en : decide ((a' : Int) < 0) = false := by simp
  simp only [Zo, en, Zz, ← hp]
  rw [Qqx (by omega) (by simp), Qqx (by omega) (by simp), Qqx (by omega) (by simp), Qqx (by omega) (by simp), Qqx (by omega) (by simp), Zc]
  simp only [Zo]
  have g0 : [r1.1, r2.1, r3.1, r4.1, r5.1][(0 : Int).toNat]? = some r1.1 := rfl
  have g1 : [r1.1, r2.1, r3.1, r4.1, r5.1][(1 : Int).toNat]? = some r2.1 := rfl
  have g2 : [r1.1, r2.1, r3.1, r4.1, r5.1][(2 : Int).toNat]? = some r3.1 := rfl
  have g3 : [r1.1, r2.1, r3.1, r4.1, r5.1][(3 : Int).toNat]? = some r4.1 := rfl
  have g4 : [r1.1, r2.1, r3.1, r4.1, r5.1][(4 : Int).toNat]? = some r5.1 := rfl
  simp only [g0, g1, g2, g3, g4, Zo, Zn]
  rw [← hu, ← hp2]
  have hd : decide (s = (⟨#[]⟩ : Zb)) = false := by simp [hne]
  obtain ⟨w, hw, _⟩ := Ptg hk (r1.1, r2.1, r3.1, r5.2.1, r4.1, r5.1) hz5
  rw [Pob, hw, hd]
  simp only [Zo, Zz]
  cases decide (w = s)
  ·exact ⟨_, rfl, rfl⟩
  ·exact ⟨_, rfl, rfl⟩
theorem Pbcx {k : Nat} (s : Zb) (bad : Bool) (hs : Zh s.size) : Pdy.f k (s, bad) = some (if bad = true ∨ s.size = 0 then (0, s, true) else (Qmy s 0, s.extract 1 s.size, false)) := by
 unfold Pdy.f Pee.f
 have hw : ∀ x : Int, Paa.f k 1 0 x = some (decide (1 ≤ x)) := by intro x; unfold Paa.f; simp
 dsimp only
 cases bad
 ·rw [hw]
  by_cases h : s.size = 0
  ·have : decide ((1 : Int) ≤ (s.size : Int)) = false := by simp; omega
   rw [this, if_pos (.inr h)]; rfl
  ·have : decide ((1 : Int) ≤ (s.size : Int)) = true := by simp; omega
   rw [this, if_neg (by simp [h]), Zc, Zc]
   simp only [Zz, Zy, Zx, Zo, Zn]
   have e1 : s.extract (Int.toNat 0) (Int.toNat 1) ≠ (⟨#[]⟩ : Zb) := by
    intro e
    have := congrArg ByteArray.size e
    rw [Pbm s (by show 1 ≤ _; omega)] at this
    exact absurd this (by decide)
   rw [Zf e1, Qqx (by omega) (by rw [Pbm s (by show 1 ≤ _; omega)]; decide)]
   simp only [Zz, Zo]
   rw [Pdl s (by show 1 ≤ _; omega) (by decide), Zv]
   ·rfl
   ·have := Peq s (Int.toNat 0 + Int.toNat 0); omega
   ·have := Pfb s (Int.toNat 0 + Int.toNat 0); omega
 ·rfl
end V
namespace W
theorem Pmg {S X : Type} {B : S → Option (S ⊕ X)} (n : Nat) (st : Nat → S) (p : Nat → Bool) (xt xf : X) (h : ∀ i, i < n → B (st i) = if p i then some (.inl (st (i + 1))) else some (.inr xf)) (hx : B (st n) = some (.inr xt)) :
  ∀ k, n < k → iter B k (st 0) = some (if (List.range n).all p then xt else xf) := by
 have key : ∀ d i k, i + d = n → d < k → iter B k (st i) = some (if (List.range' i d).all p then xt else xf) := by
  intro d
  induction d with
  | zero =>
   intro i k hi hk
   obtain ⟨k, rfl⟩ := Z1 (n := k)
   have : i = n := by omega
   subst this
   simp [iter, hx]
  | succ d ih =>
   intro i k hi hk
   obtain ⟨k, rfl⟩ := Z1 (n := k)
   have h1 := h i (by omega)
   rw [List.range'_succ, List.all_cons]
   cases hp : p i with
   | true =>
    rw [hp] at h1
    simp only [iter, h1, if_true, Zo, Bool.true_and]
    exact ih (i + 1) k (by omega) (by omega)
   | false =>
    rw [hp] at h1
    simp [iter, h1]
 intro k hk
 have := key n 0 k (by omega) hk
 rw [← List.range_eq_range'] at this
 exact this
theorem Pcf {n : Nat} {p : Nat → Bool} : (List.range n).all p = true ↔ ∀ i, i < n → p i = true := by
 simp [List.all_eq_true]
theorem Pve {n : Nat} {p q : Nat → Bool} (h : ∀ i, i < n → (∀ j, j < i → p j = true) → p i = q i) : (List.range n).all p = (List.range n).all q := by
 have h1 : (List.range n).all p = true → (List.range n).all q = true := fun hp => by
  rw [Pcf] at hp ⊢
  intro i hi
  rw [← h i hi fun j hj => hp j (by omega)]
  exact hp i hi
 have h2 : (List.range n).all q = true → (List.range n).all p = true := fun hq => by
  rw [Pcf] at hq ⊢
  intro i
  induction i using Nat.strongRecOn with
  | _ i ih =>
   intro hi
   rw [h i hi fun j hj => ih j hj (by omega)]
   exact hq i hi
 cases hp : (List.range n).all p with
 | true => exact (h1 hp).symm
 | false =>
  cases hq : (List.range n).all q with
  | true => rw [h2 hq] at hp; cases hp
  | false => rfl
theorem l1 (k : Nat) (a b c : Int) : Pao.f k a b c = some (decide (b ≤ a) && decide (a ≤ c)) := by
 unfold Pao.f
 cases decide (b ≤ a) <;> rfl
theorem Pdx (k : Nat) (a b c : Int) : Paa.f k a b c = some (decide (b ≤ a) && decide (a ≤ c)) := l1 k a b c
def Pic (l : List U2) (d : Int) : Nat → Int
 | 0 => d
 | i + 1 => ((l[i]?).map (·.1)).getD d
theorem Pid (l : List U2) (d : Int) {i : Nat} (h : i < l.length) : Pic l d (i + 1) = l[i].1 := by
 simp [Pic, h]
theorem Pog (k : Nat) (a b : Int) : Pgf.f k a b = some (decide ((a = 0 ∧ b = 0) ∨ (1 ≤ a ∧ a ≤ 100000 ∧ 1 ≤ b ∧ b ≤ 100000))) := by
 unfold Pgf.f
 simp only [l1, Zo]
 by_cases h : a = 0
 ·subst h
  simp
 ·rw [Zf h, Zz]
  cases h1 : (decide (1 ≤ a) && decide (a ≤ 100000)) <;> simp only [Zy, Zz, Zj] <;> rw [Bool.eq_iff_iff] <;> simp at h1 ⊢ <;> omega
theorem Pxg (k : Nat) (a b : Int) : Phf.f k a b = Pgf.f k a b := by
 rw [Pog]
 unfold Phf.f
 simp only [Pdx, Zo]
 by_cases h : a = 0
 ·subst h
  by_cases h2 : b = 0
  ·subst h2; rfl
  ·simp [h2]
 ·rw [Zf h, Zz]
  cases h1 : (decide (1 ≤ a) && decide (a ≤ 100000)) <;> simp only [Zy, Zz, Zj] <;> rw [Bool.eq_iff_iff] <;> simp at h1 ⊢ <;> omega
def entP (term d : Int) (l : List U2) (i : Nat) : Bool := match l[i]? with
 | some y => decide (1 ≤ y.1) && decide (Pic l d i ≤ y.1) && decide (y.1 ≤ term) && decide (y.2.size ≤ 900)
 | none => true
def walB (w : Int × Int × Int × Int × List U2) : Bool :=
 (decide (0 ≤ w.1) && decide (w.1 ≤ 100000)) && (decide (-1 ≤ w.2.1) && decide (w.2.1 ≤ 4)) && decide ((w.2.2.1 = 0 ∧ w.2.2.2.1 = 0) ∨ (1 ≤ w.2.2.1 ∧ w.2.2.1 ≤ 100000 ∧ 1 ≤ w.2.2.2.1 ∧ w.2.2.2.1 ≤ 100000)) &&
  decide (w.2.2.2.1 ≤ w.1) && decide (w.2.2.2.2.length ≤ 60) && decide (w.2.2.1 + w.2.2.2.2.length ≤ 100000) && (List.range w.2.2.2.2.length).all (entP w.1 w.2.2.2.1 w.2.2.2.2)
theorem Ptk {k} (hk : Zk k) (w : Int × Int × Int × Int × List U2) (hl : Zh w.2.2.2.2.length) : Peb.f k w = some (walB w) := by
 obtain ⟨term, vote, base, bterm, l⟩ := w
 dsimp only at hl
 unfold Peb.f walB
 simp only [l1, Pog, Zo]
 cases h1 : (decide (0 ≤ term) && decide (term ≤ 100000))
 ·rfl
 cases h2 : (decide (-1 ≤ vote) && decide (vote ≤ 4))
 ·rfl
 cases h3 : decide ((base = 0 ∧ bterm = 0) ∨ (1 ≤ base ∧ base ≤ 100000 ∧ 1 ≤ bterm ∧ bterm ≤ 100000))
 ·rfl
 simp only [Zd, Zq] at h1 h2 h3
 simp only [Zx, Zz, Bool.true_and]
 by_cases h4 : bterm ≤ term
 rotate_left
 ·rw [Zt (show term < bterm by omega), Zf h4]; rfl
 rw [Zf (show ¬ term < bterm by omega), Zt h4, Zz, Bool.true_and]
 by_cases h5 : l.length ≤ 60
 rotate_left
 ·rw [Zt (show (60 : Int) < (l.length : Int) by omega), Zf h5]; rfl
 rw [Zf (show ¬ (60 : Int) < (l.length : Int) by omega), Zt h5, Zz, Bool.true_and, Zw]
 by_cases h6 : base + l.length ≤ 100000
 rotate_left
 ·rw [Zt (show (100000 : Int) < base + (l.length : Int) by omega), Zf h6]; rfl
 rw [Zf (show ¬ (100000 : Int) < base + (l.length : Int) by omega), Zt h6, Zz, Bool.true_and]
 have key := Pmg (B := Peb.b0 k) l.length (fun i => (false, Pic l bterm i, (i : Int), term, vote, base, bterm, l)) (entP term bterm l) (.inl false) (.inr false) (fun i hi => by
  have e1 := Zp (i := i) (n := l.length)
  have e2 := Zp1 (i := i) (n := l.length)
  unfold Peb.b0 entP
  dsimp only
  rw [Pid l bterm hi]
  simp (disch := omega) only [e1, Zy, e2, Zo, Zg hi, Zv]
  by_cases a1 : l[i].1 < 1
  ·rw [Zt a1, Zf (show ¬ 1 ≤ l[i].1 by omega)]; rfl
  rw [Zf a1, Zt (show 1 ≤ l[i].1 by omega)]
  by_cases a2 : l[i].1 < Pic l bterm i
  ·rw [Zt a2, Zf (show ¬ Pic l bterm i ≤ l[i].1 by omega)]; rfl
  rw [Zf a2, Zt (show Pic l bterm i ≤ l[i].1 by omega)]
  by_cases a3 : term < l[i].1
  ·rw [Zt a3, Zf (show ¬ l[i].1 ≤ term by omega)]; rfl
  rw [Zf a3, Zt (show l[i].1 ≤ term by omega)]
  by_cases a4 : (900 : Int) < (l[i].2.size : Int)
  ·rw [Zt a4, Zf (show ¬ l[i].2.size ≤ 900 by omega)]; rfl
  rw [Zf a4, Zt (show l[i].2.size ≤ 900 by omega)]
  rfl) (by
  have e1 := Zo1 (n := l.length)
  unfold Peb.b0
  dsimp only
  rw [e1]; rfl) k (by omega)
 simp only [Zu, Pic] at key
 rw [key]
 cases (List.range l.length).all (entP term bterm l) <;> rfl
theorem Pzb {k} (hk : Zk k) (w : Int × Int × Int × Int × List U2) (hl : Zh w.2.2.2.2.length) : Pek.f k w = some (walB w) := by
 obtain ⟨term, vote, base, bterm, l⟩ := w
 dsimp only at hl
 unfold Pek.f walB Phy.f Phz.f Pgc.f
 simp only [Pdx, Pxg, Pog, Zo]
 cases h1 : (decide (0 ≤ term) && decide (term ≤ 100000))
 ·rfl
 cases h2 : (decide (-1 ≤ vote) && decide (vote ≤ 4))
 ·rfl
 cases h3 : decide ((base = 0 ∧ bterm = 0) ∨ (1 ≤ base ∧ base ≤ 100000 ∧ 1 ≤ bterm ∧ bterm ≤ 100000))
 ·rfl
 simp only [Zd, Zq] at h1 h2 h3
 simp only [Zx, Zz, Bool.true_and]
 by_cases h4 : bterm ≤ term
 rotate_left
 ·rw [Zt (show term < bterm by omega), Zf h4]; rfl
 rw [Zf (show ¬ term < bterm by omega), Zt h4, Zz, Bool.true_and]
 by_cases h5 : l.length ≤ 60
 rotate_left
 ·rw [Zt (show (60 : Int) < (l.length : Int) by omega), Zf h5]; rfl
 rw [Zf (show ¬ (60 : Int) < (l.length : Int) by omega), Zt h5, Zz, Bool.true_and, Zw]
 by_cases h6 : base + l.length ≤ 100000
 rotate_left
 ·rw [Zt (show (100000 : Int) < base + (l.length : Int) by omega), Zf h6]; rfl
 rw [Zf (show ¬ (100000 : Int) < base + (l.length : Int) by omega), Zt h6, Zz, Bool.true_and]
 obtain ⟨d, hd⟩ : ∃ d, (if bterm > 1 then bterm else 1) = d := ⟨_, rfl⟩
 rw [hd]
 have key := Pmg (B := Pek.b0 k) l.length (fun i => (false, Pic l d i, l, (l.length : Int), (i : Int), term, vote, base, bterm, l)) (fun i => match l[i]? with
  | some y => decide (y.2.size ≤ 900) && (decide (Pic l d i ≤ y.1) && decide (y.1 ≤ term))
  | none => true) (.inl false) (.inr false) (fun i hi => by
  have e1 := Zp (i := i) (n := l.length)
  have e2 := Zp1 (i := i) (n := l.length)
  unfold Pek.b0
  dsimp only
  rw [Pid l d hi]
  simp (disch := omega) only [e1, Zy, e2, Zo, Zg hi, Zv, Pdx]
  by_cases a4 : (900 : Int) < (l[i].2.size : Int)
  ·rw [Zt a4, Zf (show ¬ l[i].2.size ≤ 900 by omega)]; rfl
  rw [Zf a4, Zt (show l[i].2.size ≤ 900 by omega)]
  cases (decide (Pic l d i ≤ l[i].1) && decide (l[i].1 ≤ term)) <;> rfl) (by
  have e1 := Zo1 (n := l.length)
  unfold Pek.b0
  dsimp only
  rw [e1]; rfl) k (by omega)
 have same : (List.range l.length).all (entP term bterm l) = (List.range l.length).all (fun i => match l[i]? with
  | some y => decide (y.2.size ≤ 900) && (decide (Pic l d i ≤ y.1) && decide (y.1 ≤ term))
  | none => true) := Pve fun i hi hp => by
  unfold entP
  rw [Zg hi]
  dsimp only
  rw [Bool.eq_iff_iff]
  simp only [Zd, Zq]
  cases i with
  | zero => simp only [Pic]; rw [← hd]; split <;> omega
  | succ j =>
   have := hp j (by omega)
   unfold entP at this
   rw [Zg (show j < l.length by omega)] at this
   simp only [Zd, Zq] at this
   rw [Pid l bterm (show j < l.length by omega), Pid l d (show j < l.length by omega)]
   omega
 rw [← same] at key
 have e00 : Pic l d 0 = d := rfl
 simp only [Zu, e00] at key
 rw [key]
 cases (List.range l.length).all (entP term bterm l) <;> rfl
end W
namespace V
def vl : List Int → Int
 | [] => 0
 | x :: l => x % 128 + 128 * vl l
theorem Pbbn (m : Int) : ∀ l : List Int, vl (l ++ [m]) = vl l + m % 128 * pw l.length
 | [] => by simp [vl, pw0]
 | x :: l => by
  rw [List.cons_append, vl, Pbbn m l, vl, Zl, pw1, Int.mul_add, ← Int.mul_assoc, Int.mul_comm 128 (m % 128), Int.mul_assoc, Int.mul_comm 128 (pw l.length), Int.add_assoc]
theorem Pbbl {l : List Int} (hl : ∀ x ∈ l, 0 ≤ x ∧ x ≤ 255) : ∀ i, i ≤ l.length → val (strOfNums l) i = vl (l.take i)
 | 0, _ => rfl
 | i + 1, h => by
  have hi : i < l.length := by omega
  obtain ⟨h0, h1⟩ := hl l[i] (List.getElem_mem hi)
  rw [val, Pbbl hl i (by omega), Pfu hi h0 h1, List.take_add_one, Zg hi, Option.toList_some, Pbbn, List.length_take, Nat.min_eq_left (by omega)]
theorem Pbgu {k} (hk : Zk k) {n : Int} (h0 : 0 ≤ n) (h1 : n ≤ 562949953421311) : ∃ v, Pax.f k n = some v ∧ 0 < v.size ∧ v.size ≤ 7 ∧ (∀ i, i + 1 < v.size → 128 ≤ Qmy v i) ∧ Qmy v (v.size - 1) < 128 ∧ val v v.size = n := by
 have shape : ∃ l m, Pax.f k n = some (strOfNums (l ++ [m])) ∧ (∀ x ∈ l, 128 ≤ x ∧ x ≤ 255) ∧ 0 ≤ m ∧ m < 128 ∧ l.length ≤ 6 ∧ vl l + m * pw l.length = n := by
  unfold Pax.f
  rw [l1]
  have : (decide (0 ≤ n) && decide (n ≤ 562949953421311)) = true := by simp [h0, h1]
  simp only [Zo, this, Zx, Zz]
  obtain ⟨x, hx, hq⟩ := Qor (B := Pax.b0 k) (fun s => 0 ≤ s.1 ∧ s.1 ≤ 562949953421311 ∧ s.2.2.length ≤ 6 ∧ (∀ x ∈ s.2.2, 128 ≤ x ∧ x ≤ 255) ∧ vl s.2.2 + s.1 * pw s.2.2.length = n ∧ 0 ≤ vl s.2.2) (fun s => s.1.toNat)
    (fun x => ∃ y, x = .inl y ∧ y.2.2.length ≤ 6 ∧ (∀ x ∈ y.2.2, 128 ≤ x ∧ x ≤ 255) ∧ 0 ≤ y.1 ∧ y.1 < 128 ∧ vl y.2.2 + y.1 * pw y.2.2.length = n) (fun s hs => by
     obtain ⟨m, a, l⟩ := s
     dsimp only at hs ⊢
     obtain ⟨i0, i1, i2, i3, i4, i5⟩ := hs
     rw [Pnr i0 i1]
     by_cases h : 128 ≤ m
     ·rw [if_pos h]
      rw [Qrr (by simp only [Zl, List.length_nil]; unfold limOf; omega)]
      have hpw := Pux l.length
      have hlen : l.length + 1 ≤ 6 := by
       apply Classical.byContradiction
       intro hc
       have e : l.length = 6 := by omega
       have e2 : pw 6 = 4398046511104 := rfl
       have : 128 * pw l.length ≤ m * pw l.length := Int.mul_le_mul_of_nonneg_right h (by omega)
       rw [e, e2] at this
       rw [e, e2] at i4
       omega
      refine .inl ⟨_, rfl, ?_, ?_⟩
      ·dsimp only
       have e : m.tmod 128 = m % 128 := Int.tmod_eq_emod_of_nonneg i0
       have e' : m.tdiv 128 = m / 128 := Int.tdiv_eq_ediv_of_nonneg i0
       rw [List.length_append]
       simp only [Zl, List.length_nil]
       have hb : IntKind.wrap .u8 (Zr (128 + m.tmod 128)) = 128 + m % 128 := by
        rw [e, Zw, Qrq (by omega) (by omega)]
       have hd : Zr (m.tdiv 128) = m / 128 := by rw [e', Zw]
       try rw [hb]
       try rw [hd]
       try rw [e']
       try rw [e]
       have hv : vl (l ++ [128 + m % 128]) = vl l + m % 128 * pw l.length := by
        rw [Pbbn]
        congr 2
        omega
       refine ⟨by omega, by omega, by omega, fun x hx => ?_, ?_, ?_⟩
       ·rcases List.mem_append.1 hx with hx | hx
        ·exact i3 x hx
        ·rw [List.mem_singleton] at hx
         omega
       ·rw [hv, pw1]
        have hm : m = m % 128 + m / 128 * 128 := by omega
        have : m * pw l.length = m % 128 * pw l.length + m / 128 * (pw l.length * 128) := by
         conv => lhs; rw [hm]
         rw [Int.add_mul, Int.mul_assoc, Int.mul_comm 128]
        omega
       ·rw [hv]
        have : 0 ≤ m % 128 * pw l.length := Int.mul_nonneg (by omega) (by omega)
        omega
      ·dsimp only; omega
     ·rw [if_neg h]
      exact .inr ⟨_, rfl, _, rfl, i2, i3, i0, by dsimp only; omega, i4⟩) k (n, ⟨#[]⟩, []) ⟨h0, h1, by simp, by simp, by simp [vl, pw0], by simp [vl]⟩ (by dsimp only; omega)
  obtain ⟨y, rfl, hy, hl, h2, h3, h4⟩ := hq
  rw [hx]
  simp only [Zo]
  unfold Pax.d0
  rw [Qrr (by simp only [Zl, List.length_nil]; unfold limOf; omega)]
  refine ⟨y.2.2, y.1, ?_, hl, h2, h3, hy, h4⟩
  rw [Qrq h2 (by omega)]
  rfl
 obtain ⟨l, m, h, hl, hm, hm2, h6, hv⟩ := shape
 have hz : (strOfNums (l ++ [m])).size = l.length + 1 := by rw [Pat]; simp
 have hall : ∀ x ∈ l ++ [m], 0 ≤ x ∧ x ≤ 255 := fun x hx => by
  rcases List.mem_append.1 hx with hx | hx
  ·have := hl x hx; omega
  ·rw [List.mem_singleton] at hx; omega
 refine ⟨_, h, by omega, by omega, ?_, ?_, ?_⟩
 ·intro i hi
  rw [hz] at hi
  have hi2 : i < l.length := by omega
  have e : (l ++ [m])[i]'(by simp; omega) = l[i] := List.getElem_append_left hi2
  have := hl l[i] (List.getElem_mem hi2)
  rw [Pfu (l := l ++ [m]) (by simp; omega) (by rw [e]; omega) (by rw [e]; omega), e]
  omega
 ·have e : (l ++ [m])[l.length + 1 - 1]'(by simp) = m := by simp
  rw [hz, Pfu (l := l ++ [m]) (by simp) (by rw [e]; omega) (by rw [e]; omega), e]
  omega
 ·rw [hz, Pbbl hall (l.length + 1) (by simp), List.take_of_length_le (by simp), Pbbn, ← hv]
  congr 2
  omega
end V
namespace Y
theorem and1 {c : Int} (h0 : 0 ≤ c) (h1 : c ≤ 9223372036854775807) : bits .and .i64 c 1 = c % 2 := by
 rw [Qpg h0 h1 (by omega) (by omega)]
 have e : c.toNat &&& (1 : Int).toNat = c.toNat % 2 := Nat.and_two_pow_sub_one_eq_mod c.toNat 1
 rw [e]; omega
theorem Pbgz {c : Int} (h0 : 0 ≤ c) (h1 : c ≤ 9223372036854775807) : bits .and .i64 c 255 = c % 256 := by
 rw [Qpg h0 h1 (by omega) (by omega)]
 have e : c.toNat &&& (255 : Int).toNat = c.toNat % 256 := Nat.and_two_pow_sub_one_eq_mod c.toNat 8
 rw [e]; omega
theorem Pty {a b : Int} (h0 : 0 ≤ a) (h1 : a < 4294967296) (h2 : 0 ≤ b) (h3 : b < 4294967296) : 0 ≤ bits .xor .i64 a b ∧ bits .xor .i64 a b < 4294967296 := by
 rw [Qrf h0 (by omega) h2 (by omega)]
 have : a.toNat ^^^ b.toNat < 2 ^ 32 := Nat.xor_lt_two_pow (by omega) (by omega)
 omega
def crcN (c : Int) : Int := if c % 2 = 1 then bits .xor .i64 (c / 2) 2197175160 else c / 2
theorem Pvi {c : Int} (h0 : 0 ≤ c) (h1 : c < 4294967296) : 0 ≤ crcN c ∧ crcN c < 4294967296 := by
 unfold crcN
 split
 ·exact Pty (by omega) (by omega) (by omega) (by omega)
 ·omega
theorem Ppm (k : Nat) (s : Zb) (z c i : Int) (j : Nat) (h0 : 0 ≤ c) (h1 : c < 4294967296) : Pdg.b1 k (s, z, c, i, (j : Int)) = if j < 8 then some (.inl (s, z, crcN c, i, ((j + 1 : Nat) : Int))) else some (.inr (.inl (s, z, c, i))) := by
 unfold Pdg.b1 crcN
 dsimp only
 have e1 : Int.tmod c 2 = c % 2 := Int.tmod_eq_emod_of_nonneg h0
 have e2 : Zr (Int.tdiv c 2) = c / 2 := by rw [Int.tdiv_eq_ediv_of_nonneg h0]; exact Zw
 rw [e1, e2]
 by_cases h : j < 8
 ·rw [Zt (show (j : Int) < 8 by omega), if_pos h, Zw]
  by_cases hc : c % 2 = 1
  ·rw [Zt hc, if_pos hc]; rfl
  ·rw [Zf hc, if_neg hc]; rfl
 ·rw [Zf (show ¬ (j : Int) < 8 by omega), if_neg h]; rfl
theorem Ppl (k : Nat) (s : Zb) (z c i : Int) (j : Nat) (h0 : 0 ≤ c) (h1 : c < 4294967296) : Pdd.b1 k (s, z, c, i, (j : Int)) = if j < 8 then some (.inl (s, z, crcN c, i, ((j + 1 : Nat) : Int))) else some (.inr (.inl (s, z, c, i))) := by
 unfold Pdd.b1 crcN
 dsimp only
 have e2 : Int.fdiv c (2 ^ (min (1 : Int).toNat (IntKind.bits .i64))) = c / 2 := by
  have : (2 ^ (min (1 : Int).toNat (IntKind.bits .i64)) : Int) = 2 := rfl
  rw [this, Int.fdiv_eq_ediv_of_nonneg c (by omega)]
 rw [and1 h0 (by omega), e2]
 by_cases h : j < 8
 ·rw [Zt (show (j : Int) < 8 by omega), if_pos h, Zw]
  by_cases hc : c % 2 = 1
  ·rw [Zt hc, if_pos hc]; rfl
  ·rw [Zf hc, if_neg hc]; rfl
 ·rw [Zf (show ¬ (j : Int) < 8 by omega), if_neg h]; rfl
theorem Pwq (k : Nat) (s : Zb) (z i : Int) : ∀ (d j kk : Nat) (c : Int), j + d = 8 → d < kk → 0 ≤ c → c < 4294967296 →
  ∃ c', iter (X := U15 ⊕ Int) (Pdg.b1 k) kk (s, z, c, i, (j : Int)) = some (.inl (s, z, c', i)) ∧ iter (X := U15 ⊕ Int) (Pdd.b1 k) kk (s, z, c, i, (j : Int)) = some (.inl (s, z, c', i)) ∧ 0 ≤ c' ∧ c' < 4294967296
 | 0, j, kk, c, hj, hk, h0, h1 => by
  obtain ⟨kk, rfl⟩ := Z1 (n := kk)
  have a := Ppm k s z c i j h0 h1
  have b := Ppl k s z c i j h0 h1
  rw [if_neg (by omega)] at a b
  exact ⟨c, V.Pbn a, V.Pbn b, h0, h1⟩
 | d + 1, j, kk, c, hj, hk, h0, h1 => by
  obtain ⟨kk, rfl⟩ := Z1 (n := kk)
  have a := Ppm k s z c i j h0 h1
  have b := Ppl k s z c i j h0 h1
  rw [if_pos (by omega)] at a b
  rw [V.Pbc a, V.Pbc b]
  obtain ⟨h2, h3⟩ := Pvi h0 h1
  exact Pwq k s z i d (j + 1) kk (crcN c) (by omega) (by omega) h2 h3
theorem Pwr {k} (hk : Zk k) (s : Zb) (hs : s.size ≤ 4611686018427387904) (z : Int) : ∀ (d i kk : Nat) (c : Int), i + d = s.size → d < kk → 0 ≤ c → c < 4294967296 →
  ∃ c', iter (X := U3 ⊕ Int) (Pdg.b0 k) kk (s, z, c, (i : Int)) = some (.inl (z, c')) ∧ iter (X := U3 ⊕ Int) (Pdd.b0 k) kk (s, z, c, (i : Int)) = some (.inl (z, c')) ∧ 0 ≤ c' ∧ c' < 4294967296
 | 0, i, kk, c, hi, hkk, h0, h1 => by
  obtain ⟨kk, rfl⟩ := Z1 (n := kk)
  have e : decide ((i : Int) < (s.size : Int)) = false := by simp; omega
  refine ⟨c, V.Pbn ?_, V.Pbn ?_, h0, h1⟩
  ·unfold Pdg.b0; dsimp only; rw [e]; rfl
  ·unfold Pdd.b0; dsimp only; rw [e]; rfl
 | d + 1, i, kk, c, hi, hkk, h0, h1 => by
  obtain ⟨kk, rfl⟩ := Z1 (n := kk)
  have e : decide ((i : Int) < (s.size : Int)) = true := by simp; omega
  have hb0 := V.Peq s i
  have hb1 := V.Pfb s i
  obtain ⟨x0, x1⟩ := Pty (b := Qmy s i) h0 h1 (by omega) (by omega)
  obtain ⟨c', p, q, c0, c1⟩ := Pwq k s z (i : Int) 8 0 k (bits .xor .i64 c (Qmy s i)) rfl (by omega) x0 x1
  rw [Zu] at p q
  have a : Pdg.b0 k (s, z, c, (i : Int)) = some (.inl (s, z, c', ((i + 1 : Nat) : Int))) := by
   unfold Pdg.b0
   dsimp only
   rw [e, Zi, Zn]
   simp only [Zy, Zo]
   rw [Zw (n := Qmy s i), p]
   simp only [Zo]
   unfold Pdg.d0
   dsimp only
   rw [Zw]; rfl
  have b : Pdd.b0 k (s, z, c, (i : Int)) = some (.inl (s, z, c', ((i + 1 : Nat) : Int))) := by
   unfold Pdd.b0
   dsimp only
   rw [e, Zi, Zn]
   simp only [Zy, Zo]
   rw [Zw (n := Qmy s i), q]
   simp only [Zo]
   unfold Pdd.d0
   dsimp only
   rw [Zw]; rfl
  rw [V.Pbc a, V.Pbc b]
  exact Pwr hk s hs z d (i + 1) kk c' (by omega) (by omega) c0 c1
theorem Pbaj {k} (hk : Zk k) (s : Zb) (hs : s.size ≤ 4611686018427387904) : ∃ c, Pdg.f k s = some c ∧ Pdd.f k s = some c ∧ 0 ≤ c ∧ c < 4294967296 := by
 obtain ⟨c, p, q, c0, c1⟩ := Pwr hk s hs 0 s.size 0 k 4294967295 (by omega) (by omega) (by omega) (by omega)
 rw [Zu] at p q
 refine ⟨4294967295 - c, ?_, ?_, by omega, by omega⟩
 ·unfold Pdg.f
  rw [p]
  simp only [Zo]
  unfold Pdg.d1
  dsimp only
  rw [Zw]
 ·unfold Pdd.f
  rw [q]
  simp only [Zo]
  unfold Pdd.d1
  dsimp only
  rw [Zw]
theorem Pxp (a : Int) (l : List Int) : strOfNums [a] ++ strOfNums l = strOfNums (a :: l) := by
 unfold strOfNums
 apply ByteArray.ext
 simp [ByteArray.data_append]
theorem Pqd (k : Nat) (n w : Int) (z : Zb) (l : List Int) (i : Int) (h0 : 0 ≤ n) (h1 : n < 4294967296) (hw : i < w) (hi0 : 0 ≤ i) (hi : i ≤ 8) (hl : l.length ≤ 8) :
  Pbu.b0 k (n, w, z, strOfNums l, i) = some (.inl (n / 256, w, z, strOfNums (n % 256 :: l), i + 1)) := by
 unfold Pbu.b0
 dsimp only
 have e1 : Int.tmod n 256 = n % 256 := Int.tmod_eq_emod_of_nonneg h0
 have e2 : Zr (Int.tdiv n 256) = n / 256 := by rw [Int.tdiv_eq_ediv_of_nonneg h0]; exact Zw
 have hz : (strOfNums [IntKind.wrap .u8 (n % 256)]).size = 1 := rfl
 rw [Zt hw, e1, e2, Qrq (by omega) (by omega), Qqv (by rw [V.Pat, V.Pat]; simp; omega), Zw (n := i + 1), Pxp]
 rfl
theorem Plz {k} (hk : Zk k) (n : Int) (h0 : 0 ≤ n) (h1 : n < 4294967296) : Pbu.f k n 4 = some (strOfNums [n / 256 / 256 / 256 % 256, n / 256 / 256 % 256, n / 256 % 256, n % 256]) := by
 unfold Pbu.f
 rw [V.l1]
 have e : (⟨#[]⟩ : Zb) = strOfNums [] := rfl
 obtain ⟨k, rfl⟩ : ∃ m, k = m + 5 := ⟨k - 5, by omega⟩
 have key : iter (X := (Int × U5) ⊕ Zb) (Pbu.b0 (k + 5)) (k + 5) (n, 4, (⟨#[]⟩ : Zb), (⟨#[]⟩ : Zb), 0) = some (.inl (n / 256 / 256 / 256 / 256, ⟨#[]⟩, strOfNums [n / 256 / 256 / 256 % 256, n / 256 / 256 % 256, n / 256 % 256, n % 256])) := by
  conv => lhs; rw [show ((⟨#[]⟩ : Zb), (⟨#[]⟩ : Zb), (0 : Int)) = ((⟨#[]⟩ : Zb), strOfNums [], (0 : Int)) from rfl]
  rw [V.Pbc (Pqd (k + 5) n 4 ⟨#[]⟩ [] 0 h0 h1 (by omega) (by omega) (by omega) (by simp)),
   V.Pbc (Pqd (k + 5) (n / 256) 4 ⟨#[]⟩ _ (0 + 1) (by omega) (by omega) (by omega) (by omega) (by omega) (by simp)),
   V.Pbc (Pqd (k + 5) (n / 256 / 256) 4 ⟨#[]⟩ _ (0 + 1 + 1) (by omega) (by omega) (by omega) (by omega) (by omega) (by simp)),
   V.Pbc (Pqd (k + 5) (n / 256 / 256 / 256) 4 ⟨#[]⟩ _ (0 + 1 + 1 + 1) (by omega) (by omega) (by omega) (by omega) (by omega) (by simp))]
  refine V.Pbn ?_
  unfold Pbu.b0
  dsimp only
  rw [Zf (by omega)]; rfl
 rw [key, Zf (show ¬ n < 0 by omega)]
 simp only [Zo]
 unfold Pbu.d0
 dsimp only
 rw [Zf (show ¬ (0 < n / 256 / 256 / 256 / 256) by omega)]
 rfl
theorem Pji {k} (hk : Zk k) (n : Int) (h0 : 0 ≤ n) (h1 : n < 4294967296) : Pca.f k n 4 = some (strOfNums [n / 256 / 256 / 256 % 256, n / 256 / 256 % 256, n / 256 % 256, n % 256]) := by
 unfold Pca.f
 rw [W.Pdx]
 have e1 : Zr (8 * 4) = 32 := rfl
 have e2 : Zr (1 * 2 ^ (min (Zr (8 * 4)).toNat (IntKind.bits .i64))) = 4294967296 := rfl
 have step : ∀ (m : Int) (z : Zb) (l : List Int) (i : Nat) (y : Int), 0 ≤ m → m < 4294967296 → l.length = 4 → i < 4 → l[i]? = some y → Pca.b0 k (m, z, l, (i : Int)) = some (.inl (m / 256, z, l.set i (m % 256), (i : Int) - 1)) := by
  intro m z l i y m0 m1 hl hi hy
  unfold Pca.b0
  dsimp only
  have e3 : Int.fdiv m (2 ^ (min (8 : Int).toNat (IntKind.bits .i64))) = m / 256 := by
   have : (2 ^ (min (8 : Int).toNat (IntKind.bits .i64)) : Int) = 256 := rfl
   rw [this, Int.fdiv_eq_ediv_of_nonneg m (by omega)]
  rw [Zt (show (0 : Int) ≤ (i : Int) by omega), Zi, Zn, e3, Pbgz m0 (by omega), Qrq (by omega) (by omega), Zw (n := (i : Int) - 1)]
  simp only [Zy, Zo, hy]
 obtain ⟨kk, hkk⟩ : ∃ m, k = m + 5 := ⟨k - 5, by omega⟩
 have key : iter (X := U9 ⊕ Zb) (Pca.b0 k) k (n, (⟨#[]⟩ : Zb), [0, 0, 0, 0], 3) = some (.inl (⟨#[]⟩, [n / 256 / 256 / 256 % 256, n / 256 / 256 % 256, n / 256 % 256, n % 256])) := by
  have a1 := step n ⟨#[]⟩ [0, 0, 0, 0] 3 0 h0 h1 rfl (by omega) rfl
  have a2 := step (n / 256) ⟨#[]⟩ [0, 0, 0, n % 256] 2 0 (by omega) (by omega) rfl (by omega) rfl
  have a3 := step (n / 256 / 256) ⟨#[]⟩ [0, 0, n / 256 % 256, n % 256] 1 0 (by omega) (by omega) rfl (by omega) rfl
  have a4 := step (n / 256 / 256 / 256) ⟨#[]⟩ [0, n / 256 / 256 % 256, n / 256 % 256, n % 256] 0 0 (by omega) (by omega) rfl (by omega) rfl
  have b : Pca.b0 k (n / 256 / 256 / 256 / 256, (⟨#[]⟩ : Zb), [n / 256 / 256 / 256 % 256, n / 256 / 256 % 256, n / 256 % 256, n % 256], (-1 : Int)) = some (.inr (.inl (⟨#[]⟩, [n / 256 / 256 / 256 % 256, n / 256 / 256 % 256, n / 256 % 256, n % 256]))) := rfl
  conv => lhs; arg 2; rw [hkk]
  exact (V.Pbc a1).trans ((V.Pbc a2).trans ((V.Pbc a3).trans ((V.Pbc a4).trans (V.Pbn b))))
 have e5 : mk? (limOf 1) 4 (0 : Int) = some [0, 0, 0, 0] := rfl
 have e6 : Zr (4 - 1) = 3 := rfl
 rw [e2, e5, e6, Zf (show ¬ n < 0 by omega), Zf (show ¬ (4294967296 : Int) ≤ n by omega)]
 simp only [Zo]
 rw [key]
 rfl
def crcI : Nat → Int → Int
 | 0, c => c
 | d + 1, c => crcI d (crcN c)
theorem Pbda : ∀ (d : Nat) {c : Int}, 0 ≤ c → c < 4294967296 → 0 ≤ crcI d c ∧ crcI d c < 4294967296
 | 0, c, h0, h1 => ⟨h0, h1⟩
 | d + 1, c, h0, h1 => Pbda d (Pvi h0 h1).1 (Pvi h0 h1).2
def Pqm (s : Zb) : Nat → Nat → Int → Int
 | 0, _, c => c
 | d + 1, i, c => Pqm s d (i + 1) (crcI 8 (bits .xor .i64 c (Qmy s i)))
def crcV (s : Zb) : Int := 4294967295 - Pqm s s.size 0 4294967295
theorem Puh (k : Nat) (s : Zb) (z i : Int) : ∀ (d j kk : Nat) (c : Int), j + d = 8 → d < kk → 0 ≤ c → c < 4294967296 →
  iter (X := U15 ⊕ Int) (Pdg.b1 k) kk (s, z, c, i, (j : Int)) = some (.inl (s, z, crcI d c, i)) ∧ iter (X := U15 ⊕ Int) (Pdd.b1 k) kk (s, z, c, i, (j : Int)) = some (.inl (s, z, crcI d c, i))
 | 0, j, kk, c, hj, hk, h0, h1 => by
  obtain ⟨kk, rfl⟩ := Z1 (n := kk)
  have a := Ppm k s z c i j h0 h1
  have b := Ppl k s z c i j h0 h1
  rw [if_neg (by omega)] at a b
  exact ⟨V.Pbn a, V.Pbn b⟩
 | d + 1, j, kk, c, hj, hk, h0, h1 => by
  obtain ⟨kk, rfl⟩ := Z1 (n := kk)
  have a := Ppm k s z c i j h0 h1
  have b := Ppl k s z c i j h0 h1
  rw [if_pos (by omega)] at a b
  rw [V.Pbc a, V.Pbc b]
  obtain ⟨h2, h3⟩ := Pvi h0 h1
  exact Puh k s z i d (j + 1) kk (crcN c) (by omega) (by omega) h2 h3
theorem Pui {k} (hk : Zk k) (s : Zb) (hs : s.size ≤ 4611686018427387904) (z : Int) : ∀ (d i kk : Nat) (c : Int), i + d = s.size → d < kk → 0 ≤ c → c < 4294967296 →
  iter (X := U3 ⊕ Int) (Pdg.b0 k) kk (s, z, c, (i : Int)) = some (.inl (z, Pqm s d i c)) ∧ iter (X := U3 ⊕ Int) (Pdd.b0 k) kk (s, z, c, (i : Int)) = some (.inl (z, Pqm s d i c)) ∧ 0 ≤ Pqm s d i c ∧ Pqm s d i c < 4294967296
 | 0, i, kk, c, hi, hkk, h0, h1 => by
  obtain ⟨kk, rfl⟩ := Z1 (n := kk)
  have e : decide ((i : Int) < (s.size : Int)) = false := by simp; omega
  refine ⟨V.Pbn ?_, V.Pbn ?_, h0, h1⟩
  ·unfold Pdg.b0; dsimp only; rw [e]; rfl
  ·unfold Pdd.b0; dsimp only; rw [e]; rfl
 | d + 1, i, kk, c, hi, hkk, h0, h1 => by
  obtain ⟨kk, rfl⟩ := Z1 (n := kk)
  have e : decide ((i : Int) < (s.size : Int)) = true := by simp; omega
  have hb0 := V.Peq s i
  have hb1 := V.Pfb s i
  obtain ⟨x0, x1⟩ := Pty (b := Qmy s i) h0 h1 (by omega) (by omega)
  obtain ⟨p, q⟩ := Puh k s z (i : Int) 8 0 k (bits .xor .i64 c (Qmy s i)) rfl (by omega) x0 x1
  obtain ⟨c0, c1⟩ := Pbda 8 x0 x1
  rw [Zu] at p q
  have a : Pdg.b0 k (s, z, c, (i : Int)) = some (.inl (s, z, crcI 8 (bits .xor .i64 c (Qmy s i)), ((i + 1 : Nat) : Int))) := by
   unfold Pdg.b0
   dsimp only
   rw [e, Zi, Zn]
   simp only [Zy, Zo]
   rw [Zw (n := Qmy s i), p]
   simp only [Zo]
   unfold Pdg.d0
   dsimp only
   rw [Zw]; rfl
  have b : Pdd.b0 k (s, z, c, (i : Int)) = some (.inl (s, z, crcI 8 (bits .xor .i64 c (Qmy s i)), ((i + 1 : Nat) : Int))) := by
   unfold Pdd.b0
   dsimp only
   rw [e, Zi, Zn]
   simp only [Zy, Zo]
   rw [Zw (n := Qmy s i), q]
   simp only [Zo]
   unfold Pdd.d0
   dsimp only
   rw [Zw]; rfl
  rw [V.Pbc a, V.Pbc b]
  exact Pui hk s hs z d (i + 1) kk _ (by omega) (by omega) c0 c1
theorem Pbhp {k} (hk : Zk k) (s : Zb) (hs : s.size ≤ 4611686018427387904) : Pdg.f k s = some (crcV s) ∧ Pdd.f k s = some (crcV s) ∧ 0 ≤ crcV s ∧ crcV s < 4294967296 := by
 obtain ⟨p, q, c0, c1⟩ := Pui hk s hs 0 s.size 0 k 4294967295 (by omega) (by omega) (by omega) (by omega)
 rw [Zu] at p q
 unfold crcV
 refine ⟨?_, ?_, by omega, by omega⟩
 ·unfold Pdg.f
  rw [p]
  simp only [Zo]
  unfold Pdg.d1
  dsimp only
  rw [Zw]
 ·unfold Pdd.f
  rw [q]
  simp only [Zo]
  unfold Pdd.d1
  dsimp only
  rw [Zw]
end Y
namespace W2
open W
theorem Pbdh {S X : Type} {B : S → Option (S ⊕ X)} (n : Nat) (st : Nat → S) (p : Nat → Bool) (xt : X) (xf : Nat → X) (h : ∀ i, i < n → B (st i) = if p i then some (.inl (st (i + 1))) else some (.inr (xf i))) (hx : B (st n) = some (.inr xt)) :
  ∀ k, n < k → ((∀ i, i < n → p i = true) ∧ iter B k (st 0) = some xt) ∨ ∃ j, j < n ∧ p j = false ∧ (∀ i, i < j → p i = true) ∧ iter B k (st 0) = some (xf j) := by
 have key : ∀ d i k, i + d = n → d < k → (∀ m, m < i → p m = true) → ((∀ i, i < n → p i = true) ∧ iter B k (st i) = some xt) ∨ ∃ j, j < n ∧ p j = false ∧ (∀ i, i < j → p i = true) ∧ iter B k (st i) = some (xf j) := by
  intro d
  induction d with
  | zero =>
   intro i k hi hk hm
   obtain ⟨k, rfl⟩ := Z1 (n := k)
   have : i = n := by omega
   subst this
   exact .inl ⟨hm, by simp [iter, hx]⟩
  | succ d ih =>
   intro i k hi hk hm
   obtain ⟨k, rfl⟩ := Z1 (n := k)
   have h1 := h i (by omega)
   cases hp : p i with
   | true =>
    rw [hp] at h1
    simp only [iter, h1, if_true, Zo]
    refine ih (i + 1) k (by omega) (by omega) fun m hm' => ?_
    by_cases e : m = i
    ·rw [e]; exact hp
    ·exact hm m (by omega)
   | false =>
    rw [hp] at h1
    exact .inr ⟨i, by omega, hp, hm, by simp [iter, h1]⟩
 intro k hk
 exact key n 0 k (by omega) hk fun m hm => by omega
abbrev CoreT := Int × Int × Int × Int × Int × Int × Int × Int × List U2 × Int × List Int × List Int × List Int
theorem Pbcv {α : Type} {lim : Nat} {a : List α} (h : a.length ≤ lim) : app? lim ([] : List α) a = some a := by unfold app?; simp [h]
theorem Pbim {k} (hk : Zk k) (l : List Int) (x : Int) (hl : Zh l.length) : Pft.f k l x = some (decide (x ∈ l)) := by
 unfold Pft.f
 have key := Pmg (B := Pft.b0 k) l.length (fun i => (l, x, false, (i : Int))) (fun i => !decide (l[i]? = some x)) (.inl false) (.inr true) (fun i hi => by
  have e1 := Zp (i := i) (n := l.length)
  have e2 := Zp1 (i := i) (n := l.length)
  unfold Pft.b0
  dsimp only
  simp (disch := omega) only [e1, Zy, e2, Zo, Zg hi, Zv]
  by_cases h : l[i] = x
  ·simp [h]
  ·simp [h]) (by
  have e1 := Zo1 (n := l.length)
  unfold Pft.b0
  dsimp only
  rw [e1]; rfl) k (by omega)
 simp only [Zu] at key
 rw [key]
 by_cases h : x ∈ l
 ·obtain ⟨i, hi, he⟩ := List.getElem_of_mem h
  have : (List.range l.length).all (fun i => !decide (l[i]? = some x)) = false := by
   cases hb : (List.range l.length).all (fun i => !decide (l[i]? = some x)) with
   | false => rfl
   | true =>
    rw [Pcf] at hb
    have := hb i hi
    rw [Zg hi, he] at this
    simp at this
  rw [this, Zt h]; rfl
 ·have : (List.range l.length).all (fun i => !decide (l[i]? = some x)) = true := by
   rw [Pcf]
   intro i hi
   rw [Zg hi]
   simp only [Zj, Bool.not_eq_true', decide_eq_false_iff_not]
   intro e
   exact h (e ▸ List.getElem_mem hi)
  rw [this, Zf h]; rfl
theorem Pbii {k} (hk : Zk k) (l : List Int) (x : Int) (hl : Zh l.length) : Pdj.f k l x = some (decide (x ∈ l)) := by
 unfold Pdj.f Pdh.f
 have key := Pbdh (B := Pdh.b0 k) l.length (fun i => (l, x, (0 : Int), (l.length : Int), (i : Int))) (fun i => !decide (l[i]? = some x)) (.inl 0) (fun i => .inr (i : Int)) (fun i hi => by
  have e1 := Zp (i := i) (n := l.length)
  have e2 := Zp1 (i := i) (n := l.length)
  unfold Pdh.b0
  dsimp only
  simp (disch := omega) only [e1, Zy, e2, Zo, Zg hi, Zv]
  by_cases h : l[i] = x
  ·simp [h]
  ·have : ¬ x = l[i] := fun e => h e.symm
   simp [h, this]) (by
  have e1 := Zo1 (n := l.length)
  unfold Pdh.b0
  dsimp only
  rw [e1]; rfl) k (by omega)
 simp only [Zu] at key
 rcases key with ⟨h1, h2⟩ | ⟨j, hj, h1, _, h2⟩
 ·rw [h2]
  have hn : ¬ x ∈ l := fun h => by
   obtain ⟨i, hi, he⟩ := List.getElem_of_mem h
   have := h1 i hi
   rw [Zg hi, he] at this
   simp at this
  rw [Zf hn]
  rfl
 ·rw [h2]
  have hn : x ∈ l := by
   rw [Zg hj] at h1
   simp at h1
   rw [← h1]
   exact List.getElem_mem hj
  rw [Zt hn]
  simp only [Zo]
  have : decide ((0 : Int) ≤ (j : Int)) = true := by simp
  simp [this]
theorem Pym {w : Int × Int × Int × Int × List U2} (h : walB w = true) : 0 ≤ w.1 ∧ w.1 ≤ 100000 ∧ -1 ≤ w.2.1 ∧ w.2.1 ≤ 4 ∧ 0 ≤ w.2.2.1 ∧ w.2.2.2.2.length ≤ 60 ∧ w.2.2.1 + w.2.2.2.2.length ≤ 100000 ∧ 0 ≤ w.2.2.2.1 ∧ w.2.2.2.1 ≤ w.1 := by
 unfold walB at h
 simp only [Zd, Zq] at h
 omega
def yesP (peers : Int) (l : List Int) (i : Nat) : Bool := match l[i]? with
 | some y => (decide (0 ≤ y) && decide (y ≤ peers - 1)) && (decide (i = 0) || (match l[i - 1]? with | some z => decide (z < y) | none => true))
 | none => true
def leadP (last : Int) (nx mt : List Int) (i : Nat) : Bool := match mt[i]?, nx[i]? with
 | some m, some n => decide (0 ≤ m) && decide (m < n) && decide (n ≤ last + 1)
 | _, _ => true
def coreB (c : CoreT) : Bool :=
 (decide (1 ≤ c.2.1) && decide (c.2.1 ≤ 5)) && ((decide (0 ≤ c.1) && decide (c.1 ≤ c.2.1 - 1)) && (walB (c.2.2.1, c.2.2.2.1, c.2.2.2.2.2.2.1, c.2.2.2.2.2.2.2.1, c.2.2.2.2.2.2.2.2.1) && (decide (c.2.2.2.1 < c.2.1) &&
  ((decide (c.2.2.2.2.2.2.1 ≤ c.2.2.2.2.2.2.2.2.2.1) && decide (c.2.2.2.2.2.2.2.2.2.1 ≤ c.2.2.2.2.2.2.1 + c.2.2.2.2.2.2.2.2.1.length)) &&
  (if c.2.2.2.2.1 = 1 then decide (-1 ≤ c.2.2.2.2.2.1 ∧ c.2.2.2.2.2.1 ≤ c.2.1 - 1 ∧ c.2.2.2.2.2.1 ≠ c.1 ∧ c.2.2.2.2.2.2.2.2.2.2.1.length = 0 ∧ c.2.2.2.2.2.2.2.2.2.2.2.1.length = 0 ∧ c.2.2.2.2.2.2.2.2.2.2.2.2.length = 0)
  else if c.2.2.2.2.1 = 2 then decide (1 ≤ c.2.2.1 ∧ c.2.2.2.1 = c.1 ∧ c.2.2.2.2.2.1 = -1) && (List.range c.2.2.2.2.2.2.2.2.2.2.1.length).all (yesP c.2.1 c.2.2.2.2.2.2.2.2.2.2.1) && decide (c.1 ∈ c.2.2.2.2.2.2.2.2.2.2.1) && decide ((2 * c.2.2.2.2.2.2.2.2.2.2.1.length : Int) ≤ c.2.1) && decide (c.2.2.2.2.2.2.2.2.2.2.2.1.length = 0 ∧ c.2.2.2.2.2.2.2.2.2.2.2.2.length = 0)
  else if c.2.2.2.2.1 = 3 then decide (1 ≤ c.2.2.1 ∧ c.2.2.2.1 = c.1 ∧ c.2.2.2.2.2.1 = c.1 ∧ c.2.2.2.2.2.2.2.2.2.2.1.length = 0 ∧ (c.2.2.2.2.2.2.2.2.2.2.2.1.length : Int) = c.2.1 ∧ (c.2.2.2.2.2.2.2.2.2.2.2.2.length : Int) = c.2.1) && decide (c.2.2.2.2.2.2.2.2.2.2.2.2[c.1.toNat]? = some (c.2.2.2.2.2.2.1 + c.2.2.2.2.2.2.2.2.1.length)) && (List.range c.2.1.toNat).all (leadP (c.2.2.2.2.2.2.1 + c.2.2.2.2.2.2.2.2.1.length) c.2.2.2.2.2.2.2.2.2.2.2.1 c.2.2.2.2.2.2.2.2.2.2.2.2)
  else false)))))
def coreS (c : CoreT) : Prop := Zh c.2.2.2.2.2.2.2.2.1.length ∧ Zh c.2.2.2.2.2.2.2.2.2.2.1.length ∧ Zh c.2.2.2.2.2.2.2.2.2.2.2.1.length ∧ Zh c.2.2.2.2.2.2.2.2.2.2.2.2.length
theorem Pnd {b : Bool} {x : Option Bool} {y : Bool} (h : b = true → x = some y) : (bif !b then some false else x) = some (b && y) := by
 cases b
 ·rfl
 ·simpa using h rfl
theorem Pbih {b : Bool} {x : Option Bool} {y : Bool} (h : b = true → x = some y) : (bif b then x else some false) = some (b && y) := by
 cases b
 ·rfl
 ·simpa using h rfl
theorem Pbbb {k} (hk : Zk k) (c : CoreT) (hs : coreS c) : Pcm.f k c = some (coreB c) := by
 obtain ⟨id, peers, term, vote, role, lead, base, bterm, log, commit, yes, nx, mt⟩ := c
 obtain ⟨s1, s2, s3, s4⟩ := hs
 dsimp only at s1 s2 s3 s4
 unfold Pcm.f coreB Phi.f Phb.f
 simp only [l1, Zo]
 refine Pnd fun h1 => ?_
 simp only [Zd, Zq] at h1
 rw [Zv (show -9223372036854775808 ≤ peers - 1 by omega) (by omega)]
 refine Pnd fun h2 => ?_
 simp only [Zd, Zq] at h2
 rw [Pbcv (show log.length ≤ limOf 24 by unfold limOf; omega)]
 simp only [Zo]
 rw [Ptk hk (term, vote, base, bterm, log) s1]
 simp only [Zo]
 refine Pnd fun h3 => ?_
 have h3' := Pym h3
 dsimp only at h3'
 by_cases h4 : peers ≤ vote
 ·rw [Zt h4, Zf (show ¬ vote < peers by omega)]; rfl
 rw [Zf h4, Zt (show vote < peers by omega), Zz, Bool.true_and, Zv (show -9223372036854775808 ≤ base + (log.length : Int) by omega) (by omega)]
 refine Pnd fun h5 => ?_
 by_cases r1 : role = 1
 ·rw [Zt r1, Zy, if_pos r1]
  cases a1 : (decide (-1 ≤ lead) && decide (lead ≤ peers - 1))
  ·simp only [Zz, Zj]
   rw [Bool.eq_iff_iff]
   simp only [Bool.and_eq_false_iff, decide_eq_false_iff_not] at a1
   simp only [Bool.false_eq_true, Zq, false_iff]
   omega
  ·simp only [Zd, Zq] at a1
   simp only [Zy]
   by_cases a2 : lead = id
   ·subst a2; simp
   ·rw [Zf a2]
    by_cases a3 : (yes.length : Int) = 0
    ·by_cases a4 : (nx.length : Int) = 0
     ·rw [Zt a3, Zt a4]
      simp only [Bool.not_false, Zy, Zj]
      rw [Bool.eq_iff_iff]
      simp only [Zq]
      omega
     ·rw [Zt a3, Zf a4]
      simp only [Bool.not_false, Zy, Zz, Zj]
      rw [Bool.eq_iff_iff]
      simp only [Zq, Bool.false_eq_true, false_iff]
      omega
    ·rw [Zf a3]
     simp only [Bool.not_false, Zy, Zz, Zj]
     rw [Bool.eq_iff_iff]
     simp only [Zq, Bool.false_eq_true, false_iff]
     omega
 rw [Zf r1, Zz, if_neg r1]
 by_cases r2 : role = 2
 ·rw [Zt r2, Zy, if_pos r2]
  have key := Pmg (B := Pcm.b0 k) yes.length (fun i => (false, (i : Int), id, peers, term, vote, role, lead, base, bterm, log, commit, yes, nx, mt)) (yesP peers yes) (.inl (false, id, peers, term, vote, role, lead, base, bterm, log, commit, yes, nx, mt)) (.inr false) (fun i hi => by
   have e1 := Zp (i := i) (n := yes.length)
   have e2 := Zp1 (i := i) (n := yes.length)
   unfold Pcm.b0 yesP
   dsimp only
   simp (disch := omega) only [e1, Zy, e2, Zo, Zg hi, Zv, l1]
   cases (decide (0 ≤ yes[i]) && decide (yes[i] ≤ peers - 1))
   ·rfl
   simp only [Zx, Zz, Bool.true_and]
   by_cases hi0 : i = 0
   ·subst hi0; rfl
   ·have hlt : i - 1 < yes.length := by omega
    have e3 : decide ((0 : Int) < (i : Int)) = true := by simp; omega
    have e4 : inb? yes.length ((i : Int) - 1) = some (i - 1) := by rw [Zi]; congr 1; omega
    rw [e3, Zy, e4]
    simp only [Zo, Zg hlt, Zf hi0, Bool.false_or]
    by_cases a : yes[i] ≤ yes[i - 1]
    ·rw [Zt a, Zf (show ¬ yes[i - 1] < yes[i] by omega)]; rfl
    ·rw [Zf a, Zt (show yes[i - 1] < yes[i] by omega)]; rfl) (by
   have e1 := Zo1 (n := yes.length)
   unfold Pcm.b0
   dsimp only
   rw [e1]; rfl) k (by omega)
  simp only [Zu] at key
  rw [key]
  cases hy : (List.range yes.length).all (yesP peers yes)
  ·simp
  simp only [if_true, Zo, Bool.and_true]
  unfold Pcm.d0
  dsimp only
  rw [Pbim hk yes id s2, Zw]
  simp only [Zo]
  by_cases a1 : 1 ≤ term <;> by_cases a2 : vote = id <;> by_cases a3 : lead = -1 <;> by_cases a4 : id ∈ yes <;> by_cases a5 : 2 * (yes.length : Int) ≤ peers <;> by_cases a6 : nx.length = 0 <;> simp [a1, a2, a3, a4, a5, a6]
 rw [Zf r2, Zz, if_neg r2]
 by_cases r3 : role = 3
 ·rw [Zt r3, Zy, if_pos r3]
  by_cases a1 : term < 1
  ·rw [Zt a1]; simp; omega
  by_cases a2 : vote = id
  rotate_left
  ·rw [Zf a1, Zf a2]; simp; omega
  by_cases a3 : lead = id
  rotate_left
  ·rw [Zf a1, Zt a2, Zf a3]; simp; omega
  by_cases a4 : (0 : Int) < (yes.length : Int)
  ·rw [Zf a1, Zt a2, Zt a3, Zt a4, Zf (show ¬ (1 ≤ term ∧ vote = id ∧ lead = id ∧ yes.length = 0 ∧ (nx.length : Int) = peers ∧ (mt.length : Int) = peers) by omega)]; rfl
  by_cases a5 : (nx.length : Int) = peers
  rotate_left
  ·rw [Zf a1, Zt a2, Zt a3, Zf a4, Zf a5]; simp; omega
  by_cases a6 : (mt.length : Int) = peers
  rotate_left
  ·rw [Zf a1, Zt a2, Zt a3, Zf a4, Zt a5, Zf a6]; simp; omega
  have a7 : (1 ≤ term ∧ vote = id ∧ lead = id ∧ yes.length = 0 ∧ (nx.length : Int) = peers ∧ (mt.length : Int) = peers) := by omega
  rw [Zf a1, Zt a2, Zt a3, Zf a4, Zt a5, Zt a6, Zt a7]
  simp only [Zx, Zz, Bool.true_and]
  have hidl : id.toNat < mt.length := by omega
  rw [Zi]
  simp only [Zo, Zg hidl]
  by_cases a8 : mt[id.toNat] = base + log.length
  rotate_left
  ·rw [Zf a8, Zf (fun e => a8 (by injection e))]; rfl
  rw [Zt a8, Zt (by rw [a8])]
  simp only [Zx, Zz, Bool.true_and]
  have key := Pmg (B := Pcm.b1 k) peers.toNat (fun i => (false, (i : Int), id, peers, term, vote, role, lead, base, bterm, log, commit, yes, nx, mt)) (leadP (base + log.length) nx mt) (.inl false) (.inr false) (fun i hi => by
   have hm : i < mt.length := by omega
   have hn : i < nx.length := by omega
   have e1 : decide ((i : Int) < peers) = true := by simp; omega
   have e2 := Zp1 (i := i) (n := mt.length)
   have e3 := Zp1 (i := i) (n := nx.length)
   unfold Pcm.b1 leadP Phb.f
   dsimp only
   simp (disch := omega) only [e1, Zy, e2, e3, Zo, Zg hm, Zg hn, Zv]
   by_cases b1 : mt[i] < 0
   ·rw [Zt b1, Zf (show ¬ 0 ≤ mt[i] by omega)]; rfl
   rw [Zf b1, Zt (show 0 ≤ mt[i] by omega)]
   by_cases b2 : nx[i] ≤ mt[i]
   ·rw [Zt b2, Zf (show ¬ mt[i] < nx[i] by omega)]; rfl
   rw [Zf b2, Zt (show mt[i] < nx[i] by omega)]
   by_cases b3 : base + (log.length : Int) + 1 < nx[i]
   ·rw [Zt b3, Zf (show ¬ nx[i] ≤ base + (log.length : Int) + 1 by omega)]; rfl
   rw [Zf b3, Zt (show nx[i] ≤ base + (log.length : Int) + 1 by omega)]; rfl) (by
   have e1 : decide (((peers.toNat : Nat) : Int) < peers) = false := by simp; omega
   unfold Pcm.b1
   dsimp only
   rw [e1]; rfl) k (by omega)
  simp only [Zu] at key
  rw [key]
  cases (List.range peers.toNat).all (leadP (base + log.length) nx mt) <;> rfl
 rw [Zf r3, Zz, if_neg r3]
theorem Pbgy {k} (hk : Zk k) (id peers term vote role lead base bterm : Int) (log : List U2) (commit : Int) (yes nx mt : List Int) (hy : Zh yes.length) (hp : 1 ≤ peers) (hp5 : peers ≤ 5) :
  Pcp.f k (id, peers, term, vote, role, lead, base, bterm, log, commit, yes, nx, mt) = some ((List.range yes.length).all (yesP peers yes) && (decide (id ∈ yes) && decide ((2 * yes.length : Int) ≤ peers))) := by
 unfold Pcp.f
 dsimp only
 have key := Pmg (B := Pcp.b0 k) yes.length (fun i => (false, yes, (yes.length : Int), (i : Int), id, peers, term, vote, role, lead, base, bterm, log, commit, yes, nx, mt)) (yesP peers yes) (.inl (false, id, peers, term, vote, role, lead, base, bterm, log, commit, yes, nx, mt)) (.inr false) (fun i hi => by
  have e1 := Zp (i := i) (n := yes.length)
  have e2 := Zp1 (i := i) (n := yes.length)
  unfold Pcp.b0 yesP
  dsimp only
  simp (disch := omega) only [e1, Zy, e2, Zo, Zg hi, Zv, Pdx]
  cases (decide (0 ≤ yes[i]) && decide (yes[i] ≤ peers - 1))
  ·rfl
  simp only [Zx, Zz, Bool.true_and]
  by_cases hi0 : i = 0
  ·subst hi0; rfl
  ·have hlt : i - 1 < yes.length := by omega
   have e3 : decide ((0 : Int) < (i : Int)) = true := by simp; omega
   have e4 : inb? yes.length ((i : Int) - 1) = some (i - 1) := by rw [Zi]; congr 1; omega
   rw [e3, Zy, e4]
   simp only [Zo, Zg hlt, Zf hi0, Bool.false_or]
   by_cases a : yes[i] ≤ yes[i - 1]
   ·rw [Zt a, Zf (show ¬ yes[i - 1] < yes[i] by omega)]; rfl
   ·rw [Zf a, Zt (show yes[i - 1] < yes[i] by omega)]; rfl) (by
  have e1 := Zo1 (n := yes.length)
  unfold Pcp.b0
  dsimp only
  rw [e1]; rfl) k (by omega)
 simp only [Zu] at key
 rw [key]
 cases (List.range yes.length).all (yesP peers yes)
 ·rfl
 simp only [if_true, Zo, Bool.true_and]
 unfold Pcp.d0 Pjh.f
 dsimp only
 rw [Pbii hk yes id hy, Zw]
 simp only [Zo]
 refine Pbih fun _ => ?_
 congr 1
 rw [Bool.eq_iff_iff]
 simp only [Bool.not_eq_true', decide_eq_false_iff_not, Zq]
 omega
theorem Pbdz {k} (hk : Zk k) (id peers term vote role lead base bterm : Int) (log : List U2) (commit : Int) (yes nx mt : List Int) (hm : Zh mt.length) (hid : 0 ≤ id) (hid2 : id ≤ peers - 1) (hb : 0 ≤ base) (hb2 : base + log.length ≤ 100000) :
  Pcl.f k (id, peers, term, vote, role, lead, base, bterm, log, commit, yes, nx, mt) = some (decide (yes.length = 0 ∧ (nx.length : Int) = peers ∧ (mt.length : Int) = peers) && (decide (mt[id.toNat]? = some (base + log.length)) && (List.range peers.toNat).all (leadP (base + log.length) nx mt))) := by
 unfold Pcl.f
 dsimp only
 by_cases a4 : (0 : Int) < (yes.length : Int)
 ·rw [Zt a4, Zf (show ¬ (yes.length = 0 ∧ (nx.length : Int) = peers ∧ (mt.length : Int) = peers) by omega)]; rfl
 by_cases a5 : (nx.length : Int) = peers
 rotate_left
 ·rw [Zf a4, Zf a5, Zf (show ¬ (yes.length = 0 ∧ (nx.length : Int) = peers ∧ (mt.length : Int) = peers) by omega)]; rfl
 by_cases a6 : (mt.length : Int) = peers
 rotate_left
 ·rw [Zf a4, Zt a5, Zf a6, Zf (show ¬ (yes.length = 0 ∧ (nx.length : Int) = peers ∧ (mt.length : Int) = peers) by omega)]; rfl
 rw [Zf a4, Zt a5, Zt a6, Zt (show (yes.length = 0 ∧ (nx.length : Int) = peers ∧ (mt.length : Int) = peers) by omega)]
 simp only [Zx, Zz, Bool.true_and]
 have hpm : peers.toNat = mt.length := by omega
 rw [hpm]
 have key := Pmg (B := Pcl.b0 k) mt.length (fun i => (false, mt, (mt.length : Int), (i : Int), id, peers, term, vote, role, lead, base, bterm, log, commit, yes, nx, mt)) (leadP (base + log.length) nx mt) (.inl (false, id, peers, term, vote, role, lead, base, bterm, log, commit, yes, nx, mt)) (.inr false) (fun i hm => by
  have hn : i < nx.length := by omega
  have e1 := Zp (i := i) (n := mt.length)
  have e2 := Zp1 (i := i) (n := mt.length)
  have e3 := Zp1 (i := i) (n := nx.length)
  unfold Pcl.b0 leadP Peo.f
  dsimp only
  simp (disch := omega) only [e1, Zy, e2, e3, Zo, Zg hm, Zg hn, Zv]
  by_cases b1 : mt[i] < 0
  ·rw [Zt b1, Zf (show ¬ 0 ≤ mt[i] by omega)]; rfl
  rw [Zf b1, Zt (show 0 ≤ mt[i] by omega)]
  by_cases b2 : nx[i] ≤ mt[i]
  ·rw [Zt b2, Zf (show ¬ mt[i] < nx[i] by omega)]; rfl
  rw [Zf b2, Zt (show mt[i] < nx[i] by omega)]
  by_cases b3 : base + (log.length : Int) + 1 < nx[i]
  ·rw [Zt b3, Zf (show ¬ nx[i] ≤ base + (log.length : Int) + 1 by omega)]; rfl
  rw [Zf b3, Zt (show nx[i] ≤ base + (log.length : Int) + 1 by omega)]; rfl) (by
  have e1 := Zo1 (n := mt.length)
  unfold Pcl.b0
  dsimp only
  rw [e1]; rfl) k (by omega)
 simp only [Zu] at key
 rw [key]
 cases hall : (List.range mt.length).all (leadP (base + log.length) nx mt)
 ·simp
 have hidl : id.toNat < mt.length := by omega
 simp only [if_true, Zo, Bool.and_true]
 unfold Pcl.d0 Peo.f
 dsimp only
 rw [Zi]
 simp (disch := omega) only [Zo, Zg hidl, Zv, Zj]
theorem Pban {k} (hk : Zk k) (c : CoreT) (hs : coreS c) : Phs.f k c = some (coreB c) := by
 obtain ⟨id, peers, term, vote, role, lead, base, bterm, log, commit, yes, nx, mt⟩ := c
 obtain ⟨s1, s2, s3, s4⟩ := hs
 dsimp only at s1 s2 s3 s4
 unfold Phs.f coreB Per.f Peo.f Pbd.f
 simp only [Pdx, Zo]
 refine Pnd fun h1 => ?_
 simp only [Zd, Zq] at h1
 rw [Zv (show -9223372036854775808 ≤ peers - 1 by omega) (by omega)]
 refine Pnd fun h2 => ?_
 simp only [Zd, Zq] at h2
 rw [Pbcv (show log.length ≤ limOf 24 by unfold limOf; omega)]
 simp only [Zo]
 rw [Pzb hk (term, vote, base, bterm, log) s1]
 simp only [Zo]
 refine Pnd fun h3 => ?_
 have h3' := Pym h3
 dsimp only at h3'
 by_cases h4 : peers ≤ vote
 ·rw [Zt h4, Zf (show ¬ vote < peers by omega)]; rfl
 rw [Zf h4, Zt (show vote < peers by omega), Zz, Bool.true_and, Zv (show -9223372036854775808 ≤ base + (log.length : Int) by omega) (by omega)]
 refine Pnd fun h5 => ?_
 by_cases r1 : role = 1
 ·rw [Zt r1, Zy, if_pos r1, Zv (show -9223372036854775808 ≤ (yes.length : Int) + (nx.length : Int) by omega) (by omega), Zw]
  cases a1 : (decide (-1 ≤ lead) && decide (lead ≤ peers - 1))
  ·simp only [Zz, Zj]
   rw [Bool.eq_iff_iff]
   simp only [Bool.and_eq_false_iff, decide_eq_false_iff_not] at a1
   simp only [Bool.false_eq_true, Zq, false_iff]
   omega
  ·simp only [Zd, Zq] at a1
   simp only [Zy]
   by_cases a2 : lead = id
   ·subst a2; simp
   ·rw [Zf a2]
    simp only [Bool.not_false, Zy, Zj]
    rw [Bool.eq_iff_iff]
    simp only [Zq]
    omega
 rw [Zf r1, Zz, if_neg r1]
 by_cases r2 : role = 2
 ·rw [Zt r2, Zy, if_pos r2, Pbgy hk id peers term vote role lead base bterm log commit yes nx mt s2 h1.1 h1.2, Zw]
  simp only [Zo]
  have hlen : decide ((nx.length : Int) + (mt.length : Int) = 0) = decide (nx.length = 0 ∧ mt.length = 0) := by
   rw [Bool.eq_iff_iff]; simp only [Zq]; omega
  rw [hlen]
  by_cases a1 : 1 ≤ term <;> by_cases a2 : vote = id <;> by_cases a3 : lead = -1 <;> cases (List.range yes.length).all (yesP peers yes) <;> by_cases a4 : id ∈ yes <;> by_cases a5 : 2 * (yes.length : Int) ≤ peers <;> simp [a1, a2, a3, a4, a5]
 rw [Zf r2, Zz, if_neg r2]
 by_cases r3 : role = 3
 ·rw [Zt r3, Zy, if_pos r3, Pbdz hk id peers term vote role lead base bterm log commit yes nx mt s4 h2.1 h2.2 h3'.2.2.2.2.1 h3'.2.2.2.2.2.2.1]
  simp only [Zo]
  have hc : decide (1 ≤ term ∧ vote = id ∧ lead = id ∧ yes.length = 0 ∧ (nx.length : Int) = peers ∧ (mt.length : Int) = peers) = (decide (1 ≤ term) && (decide (vote = id) && (decide (lead = id) && decide (yes.length = 0 ∧ (nx.length : Int) = peers ∧ (mt.length : Int) = peers)))) := by
   rw [Bool.eq_iff_iff]; simp only [Zd, Zq]
  rw [hc]
  by_cases a1 : 1 ≤ term <;> by_cases a2 : vote = id <;> by_cases a3 : lead = id <;> simp [a1, a2, a3, Bool.and_assoc]
 rw [Zf r3, Zz, if_neg r3]
end W2
namespace T
open V Y
def fx (n : Int) : Zb := strOfNums [n / 256 / 256 / 256 % 256, n / 256 / 256 % 256, n / 256 % 256, n % 256]
theorem Pqo (n : Int) : (fx n).size = 4 := rfl
def rv (s : Zb) : Int := ((Qmy s 0 * 256 + Qmy s 1) * 256 + Qmy s 2) * 256 + Qmy s 3
theorem rv_nn (s : Zb) : 0 ≤ rv s ∧ rv s < 4294967296 := by
 have a0 := Peq s 0
 have a1 := Peq s 1
 have a2 := Peq s 2
 have a3 := Peq s 3
 have b0 := Pfb s 0
 have b1 := Pfb s 1
 have b2 := Pfb s 2
 have b3 := Pfb s 3
 unfold rv
 omega
theorem read4 {k} (hk : Zk k) (s : Zb) : Pce.f k s 4 = some (if s.size < 4 then (0, false) else (rv s, true)) := by
 unfold Pce.f
 rw [W.Pdx]
 simp only [Zo]
 rw [show (decide ((1 : Int) ≤ 4) && decide ((4 : Int) ≤ 7)) = true from rfl]
 simp only [Zx, Zz]
 by_cases h : s.size < 4
 ·rw [Zt (show ((s.size : Int) < 4) by omega), if_pos h]; rfl
 ·rw [Zf (show ¬ ((s.size : Int) < 4) by omega), if_neg h]
  simp only [Zz]
  have step : ∀ (z : Int) (g : Bool) (a : Int) (i : Nat), i < 4 → 0 ≤ a → a < 16777216 → Pce.b0 k (s, 4, z, g, a, (i : Int)) = some (.inl (s, 4, z, g, a * 256 + Qmy s i, ((i + 1 : Nat) : Int))) := by
   intro z g a i hi a0 a1
   unfold Pce.b0
   dsimp only
   have b0 := Peq s i
   have b1 := Pfb s i
   rw [Zt (show (i : Int) < 4 by omega), Zi]
   simp only [Zy, Zo, Zn]
   rw [show (2 : Int) ^ (min (8 : Int).toNat (IntKind.bits .i64)) = 2 ^ 8 from rfl]
   have p8 : (2 : Int) ^ 8 = 256 := rfl
   rw [Zv (n := a * 2 ^ 8) (by rw [p8]; omega) (by rw [p8]; omega), Zw (n := Qmy s i), Zw]
   have hc : bits .or .i64 (a * 2 ^ 8) (Qmy s i) = a * 256 + Qmy s i := by
    have e := Pbhf (n := Qmy s i) (m := a) (i := 8) b0 (by rw [p8]; omega) a0 (by rw [p8]; omega) (by omega)
    have h1 : (0 : Int) ≤ a * 2 ^ 8 := by rw [p8]; omega
    have h2 : a * 2 ^ 8 ≤ 9223372036854775807 := by rw [p8]; omega
    rw [Qpy b0 (by omega) h1 h2, Nat.or_comm, ← Qpy h1 h2 b0 (by omega)] at e
    rw [e, p8]; omega
   rw [hc]
   have e1 : (i : Int) + 1 = ((i + 1 : Nat) : Int) := by omega
   rw [e1]
  obtain ⟨k, rfl⟩ : ∃ m, k = m + 5 := ⟨k - 5, by omega⟩
  have b0 := Peq s 0
  have b1 := Pfb s 0
  have c0 := Peq s 1
  have c1 := Pfb s 1
  have d0 := Peq s 2
  have d1 := Pfb s 2
  have e0 : (0 : Int) = ((0 : Nat) : Int) := rfl
  have key : iter (X := (Int × Bool × Int) ⊕ (Int × Bool)) (Pce.b0 (k + 5)) (k + 5) (s, 4, 0, false, 0, ((0 : Nat) : Int)) = some (.inl (0, false, rv s)) := by
   rw [Pbc (step 0 false 0 0 (by omega) (by omega) (by omega)), Pbc (step 0 false _ 1 (by omega) (by omega) (by omega)), Pbc (step 0 false _ 2 (by omega) (by omega) (by omega)), Pbc (step 0 false _ 3 (by omega) (by omega) (by omega))]
   refine Pbn ?_
   unfold Pce.b0
   dsimp only
   rw [Zf (by omega)]
   simp only [Zz]
   unfold rv
   rw [show (0 : Int) * 256 + Qmy s 0 = Qmy s 0 by omega]
  rw [show (s, (4 : Int), (0 : Int), false, (0 : Int), (0 : Int)) = (s, (4 : Int), (0 : Int), false, (0 : Int), ((0 : Nat) : Int)) from rfl, key]
  rfl
def Psq (p : Zb) : Zb := if 1 ≤ p.size ∧ p.size ≤ 2000 then fx p.size ++ fx (crcV (fx p.size ++ p)) ++ p else ⟨#[]⟩
theorem Pun {k} (hk : Zk k) (p : Zb) : Pfk.f k p = some (Psq p) := by
 unfold Pfk.f
 rw [W.Pdx]
 simp only [Zo]
 by_cases h : 1 ≤ p.size ∧ p.size ≤ 2000
 ·have e : (decide ((1 : Int) ≤ (p.size : Int)) && decide ((p.size : Int) ≤ 2000)) = true := by simp; omega
  rw [e]
  simp only [Zx, Zz]
  rw [Pji hk _ (by omega) (by omega)]
  show ((cat? (fx p.size) p).bind _) = _
  rw [Qqv (by rw [Pqo]; omega)]
  simp only [Zo]
  obtain ⟨_, c1, c2, c3⟩ := Pbhp hk (fx p.size ++ p) (by rw [Zs, Pqo]; omega)
  rw [c1]
  simp only [Zo]
  rw [Pji hk _ c2 c3]
  simp only [Zo]
  show ((cat? (fx p.size) (fx (crcV (fx p.size ++ p)))).bind _) = _
  rw [Qqv (by rw [Pqo, Pqo]; omega)]
  simp only [Zo]
  rw [Qqv (by rw [Zs, Pqo, Pqo]; omega)]
  unfold Psq
  rw [if_pos h]
  rfl
 ·have e : (decide ((1 : Int) ≤ (p.size : Int)) && decide ((p.size : Int) ≤ 2000)) = false := by
   rw [Bool.and_eq_false_iff]; simp; omega
  rw [e]
  unfold Psq
  rw [if_neg h]
  rfl
def unF (s : Zb) : Zb × Int × Int :=
 if s.size < 4 then (⟨#[]⟩, 0, 1) else if ¬ (1 ≤ rv s ∧ rv s ≤ 2000) then (⟨#[]⟩, 0, 2) else if (s.size : Int) < 8 + rv s then (⟨#[]⟩, 0, 1) else
 if Psq (s.extract 8 (8 + (rv s).toNat)) ≠ s.extract 0 (8 + (rv s).toNat) then (⟨#[]⟩, 0, 2) else (s.extract 8 (8 + (rv s).toNat), 8 + rv s, 0)
theorem Pro {k} (hk : Zk k) (s : Zb) : Pgy.f k s = some (unF s) := by
 unfold Pgy.f unF
 rw [read4 hk]
 simp only [Zo]
 by_cases h : s.size < 4
 ·rw [if_pos h, if_pos h]; rfl
 rw [if_neg h, if_neg h]
 simp only [Zx, Zz]
 rw [W.Pdx]
 simp only [Zo]
 by_cases h1 : 1 ≤ rv s ∧ rv s ≤ 2000
 ·rw [Zt h1.1, Zt h1.2, if_neg (by simpa using h1)]
  simp only [Bool.and_self, Zx, Zz]
  rw [Zw]
  by_cases h2 : (s.size : Int) < 8 + rv s
  ·rw [Zt h2, if_pos h2]; rfl
  ·rw [Zf h2, if_neg h2]
   simp only [Zz]
   rw [Zc]
   simp only [Zo]
   rw [show (8 + rv s).toNat = 8 + (rv s).toNat by omega, show (8 : Int).toNat = 8 from rfl, Pun hk]
   simp only [Zo]
   rw [Zc]
   simp only [Zo]
   rw [show (8 + rv s).toNat = 8 + (rv s).toNat by omega, show (0 : Int).toNat = 0 from rfl]
   by_cases h3 : Psq (s.extract 8 (8 + (rv s).toNat)) = s.extract 0 (8 + (rv s).toNat)
   ·rw [Zt h3, if_neg (by simp [h3])]; rfl
   ·rw [Zf h3, if_pos h3]; rfl
 ·rw [if_pos h1]
  have e : (decide (1 ≤ rv s) && decide (rv s ≤ 2000)) = false := by
   rw [Bool.and_eq_false_iff]; simp; omega
  rw [e]; rfl
end T
end Go.Proofs.YtbkcbfkehncocaaGreatDoor.Rx
