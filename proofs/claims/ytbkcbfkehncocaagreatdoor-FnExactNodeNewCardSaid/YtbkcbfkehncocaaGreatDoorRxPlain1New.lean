/- The plain side of the law: part 1. No condition beside those that each theorem states. -/
import Derived.Test.YtbkcbfkehncocaaGreatDoorRxFnsBNew
set_option linter.unusedVariables false
set_option linter.unusedSimpArgs false
namespace Go.Proofs.YtbkcbfkehncocaaGreatDoor.Rx
section
abbrev U0 := Int × Int
abbrev U1 := Zb × Int
abbrev U2 := Int × Zb
abbrev U3 := Int × Int × Int × Int × Int × Zb × U0
abbrev U4 := Zb × Zb
abbrev U5 := List Int × List Int × List Int
abbrev U6 := Zb × U1
abbrev U7 := Zb × List Int
abbrev U8 := Zb × Bool
abbrev U9 := Int × Zb × U4
abbrev U10 := Int × Int × Int × Int × Int × Int × Int × Int × List (U2) × Int × U5
abbrev U11 := List Zb × Int
abbrev U12 := List Zb × Bool × List Zb × Int × Zb × List (U0)
abbrev LinkT := Zb × Int
abbrev Pfl := Int × Zb × Int
abbrev MoveT := Int × Zb × Zb × Int
abbrev DiskT := Int × Int × List Pfl × List LinkT × List MoveT
theorem Ptq (k : Nat) (a b c : Int) : Pan.f k a b c = some (decide (b ≤ a) && decide (a ≤ c)) := by
 unfold Pan.f
 cases decide (b ≤ a) <;> rfl
theorem Pdv (k : Nat) (a b c : Int) : Paa.f k a b c = some (decide (b ≤ a) && decide (a ≤ c)) := Ptq k a b c
def chB (b : Int) : Bool := (decide (97 ≤ b) && decide (b ≤ 122)) || (decide (48 ≤ b) && decide (b ≤ 57)) || decide (b = 46)
def nameB (s : Zb) : Bool := decide (1 ≤ (s.size : Int)) && decide ((s.size : Int) ≤ 12) && (List.range s.size).all fun i => chB (Qmy s i)
theorem Pvl {S X : Type} (b : Int) (x : Option (S ⊕ X ⊕ Bool)) :
  (bif decide (97 ≤ b) then (bif decide (b ≤ 122) then x else (bif decide (48 ≤ b) then (bif decide (b ≤ 57) then x else (bif !(decide (b = 46)) then some (.inr (.inr false)) else x)) else (bif !(decide (b = 46)) then some (.inr (.inr false)) else x)))
   else (bif decide (48 ≤ b) then (bif decide (b ≤ 57) then x else (bif !(decide (b = 46)) then some (.inr (.inr false)) else x)) else (bif !(decide (b = 46)) then some (.inr (.inr false)) else x))) = if chB b then x else some (.inr (.inr false)) := by
 unfold chB
 cases decide (97 ≤ b) <;> cases decide (b ≤ 122) <;> cases decide (48 ≤ b) <;> cases decide (b ≤ 57) <;> cases decide (b = 46) <;> rfl
theorem Pkb {k} (hk : Zk k) (s : Zb) (hs : s.size ≤ 1048576) : Pbz.f k s = some (nameB s) := by
 unfold Pbz.f nameB
 rw [Ptq]
 simp only [Zo]
 cases h : (decide (1 ≤ (s.size : Int)) && decide ((s.size : Int) ≤ 12)) with
 | false => rfl
 | true =>
  simp only [Zx, Zz, Bool.true_and]
  have key := Qqt (B := Pbz.b0 k) s.size (fun i => (s, false, (i : Int))) (fun i => chB (Qmy s i)) (.inl false) (.inr false) (fun i hi _ => by
   have e1 : decide ((i : Int) < (s.size : Int)) = true := by simp; omega
   have e2 : inb? s.size (i : Int) = some i := by rw [Zi, Zn]
   unfold Pbz.b0
   dsimp only
   simp only [e1, Zy, e2, Zo, Pvl]
   rw [Zw]
   rfl) (fun _ => by
   have e1 : decide ((s.size : Int) < (s.size : Int)) = false := by simp
   unfold Pbz.b0
   dsimp only
   rw [e1]; rfl) k (by omega)
  have e0 : ((0 : Nat) : Int) = 0 := rfl
  simp only [e0] at key
  rw [key]
  cases (List.range s.size).all fun i => chB (Qmy s i) <;> rfl
theorem Pkq {k} (hk : Zk k) (s : Zb) (hs : s.size ≤ 1048576) : Pbk.f k s = some (nameB s) := by
 unfold Pbk.f nameB
 have key := Qqt (B := Pbk.b0 k) s.size (fun i => (s, false, (i : Int))) (fun i => chB (Qmy s i)) (.inl (s, false)) (.inr false) (fun i hi _ => by
  have e1 : decide ((i : Int) < (s.size : Int)) = true := by simp; omega
  have e2 : inb? s.size (i : Int) = some i := by rw [Zi, Zn]
  unfold Pbk.b0
  dsimp only
  simp only [e1, Zy, e2, Zo, Pvl]
  rw [Zw]
  rfl) (fun _ => by
  have e1 : decide ((s.size : Int) < (s.size : Int)) = false := by simp
  unfold Pbk.b0
  dsimp only
  rw [e1]; rfl) k (by omega)
 have e0 : ((0 : Nat) : Int) = 0 := rfl
 simp only [e0] at key
 rw [key]
 cases (List.range s.size).all fun i => chB (Qmy s i) with
 | false => simp
 | true =>
  simp only [if_true, Zo, Bool.and_true]
  unfold Pbk.d0
  rw [Pdv]; rfl
theorem Pbds {k} (hk : Zk k) (l : List LinkT) (n : Zb) (hl : l.length ≤ 4194304) : Pft.f k l n = some (idxOf (fun x => decide (x.1 = n)) l) := by
 unfold Pft.f idxOf
 have key := Qqy (B := Pft.b0 k) l (fun i => (l, n, 0, (i : Int))) (fun x => decide (x.1 = n)) (fun i => .inr (i : Int)) (.inl 0) (fun i hi => by
  have e1 : decide ((i : Int) < (l.length : Int)) = true := by simp; omega
  have e2 : inb? l.length (i : Int) = some i := by rw [Zi, Zn]
  unfold Pft.b0
  dsimp only
  simp only [e1, Zy, e2, Zo, Zg hi]
  rw [Zw]
  rfl) (by
  have e1 : decide ((l.length : Int) < (l.length : Int)) = false := by simp
  unfold Pft.b0
  dsimp only
  rw [e1]; rfl) k (by omega)
 have e0 : ((0 : Nat) : Int) = 0 := rfl
 simp only [e0] at key
 rw [key]
 cases l.findIdx? (fun x => decide (x.1 = n)) <;> rfl
theorem Pmu {k} (hk : Zk k) (l : List LinkT) (n : Int) (hl : l.length ≤ 4194304) : Pby.f k l n = some (l.any fun x => decide (x.2 = n)) := by
 rw [Qrm]
 unfold Pby.f idxOf
 have key := Qqy (B := Pby.b0 k) l (fun i => (l, n, false, (i : Int))) (fun x => decide (x.2 = n)) (fun i => .inr true) (.inl false) (fun i hi => by
  have e1 : decide ((i : Int) < (l.length : Int)) = true := by simp; omega
  have e2 : inb? l.length (i : Int) = some i := by rw [Zi, Zn]
  unfold Pby.b0
  dsimp only
  simp only [e1, Zy, e2, Zo, Zg hi]
  rw [Zw]
  rfl) (by
  have e1 : decide ((l.length : Int) < (l.length : Int)) = false := by simp
  unfold Pby.b0
  dsimp only
  rw [e1]; rfl) k (by omega)
 have e0 : ((0 : Nat) : Int) = 0 := rfl
 simp only [e0] at key
 rw [key]
 cases l.findIdx? (fun x => decide (x.2 = n)) with
 | none => rfl
 | some i => simp
theorem Pyl {k} (hk : Zk k) (l : List MoveT) (n : Int) (hl : l.length ≤ 4194304) : Peh.f k l n = some (l.any fun x => decide (x.1 = 1) && decide (x.2.2.2 = n)) := by
 rw [Qrm]
 unfold Peh.f idxOf
 have key := Qqy (B := Peh.b0 k) l (fun i => (l, n, false, (i : Int))) (fun x => decide (x.1 = 1) && decide (x.2.2.2 = n)) (fun i => .inr true) (.inl false) (fun i hi => by
  have e1 : decide ((i : Int) < (l.length : Int)) = true := by simp; omega
  have e2 : inb? l.length (i : Int) = some i := by rw [Zi, Zn]
  unfold Peh.b0
  dsimp only
  simp only [e1, Zy, e2, Zo, Zg hi]
  rw [Zw]
  cases decide (l[i].1 = 1) <;> cases decide (l[i].2.2.2 = n) <;> rfl) (by
  have e1 : decide ((l.length : Int) < (l.length : Int)) = false := by simp
  unfold Peh.b0
  dsimp only
  rw [e1]; rfl) k (by omega)
 have e0 : ((0 : Nat) : Int) = 0 := rfl
 simp only [e0] at key
 rw [key]
 cases l.findIdx? (fun x => decide (x.1 = 1) && decide (x.2.2.2 = n)) with
 | none => rfl
 | some i => simp
theorem Prj {k} (hk : Zk k) (d : DiskT) (n : Int) (hl : d.2.2.1.length ≤ 1048576) : Pdf.f k d n = some (idxOf (fun x => decide (x.1 = n)) d.2.2.1) := by
 unfold Pdf.f idxOf
 have key := Qqy (B := Pdf.b0 k) d.2.2.1 (fun i => (n, 0, (i : Int), d)) (fun x => decide (x.1 = n)) (fun i => .inr (i : Int)) (.inl 0) (fun i hi => by
  have e1 : decide ((i : Int) < (d.2.2.1.length : Int)) = true := by simp; omega
  have e2 : inb? d.2.2.1.length (i : Int) = some i := by rw [Zi, Zn]
  unfold Pdf.b0
  dsimp only
  simp only [e1, Zy, e2, Zo, Zg hi]
  rw [Zw]
  rfl) (by
  have e1 : decide ((d.2.2.1.length : Int) < (d.2.2.1.length : Int)) = false := by simp
  unfold Pdf.b0
  dsimp only
  rw [e1]; rfl) k (by omega)
 have e0 : ((0 : Nat) : Int) = 0 := rfl
 simp only [e0] at key
 try simp only [Prod.eta]
 rw [key]
 cases d.2.2.1.findIdx? (fun x => decide (x.1 = n)) <;> rfl
theorem Pbdm {k} (hk : Zk k) (l : List LinkT) (n : Zb) (hl : l.length ≤ 4194304) : Phd.f k l n = some (idxOf (fun x => decide (x.1 = n)) l) := by
 unfold Phd.f Pal.f idxOf
 have key := Qqy (B := Pal.b0 k) l (fun i => (l, 0, (l.length : Int), (i : Int), n)) (fun x => decide (x.1 = n)) (fun i => .inr (i : Int)) (.inl 0) (fun i hi => by
  have e1 : decide ((i : Int) < (l.length : Int)) = true := by simp; omega
  have e2 : inb? l.length (i : Int) = some i := by rw [Zi, Zn]
  unfold Pal.b0 Pif.f
  dsimp only
  simp only [e1, Zy, e2, Zo, Zg hi]
  rw [Zw]
  rfl) (by
  have e1 : decide ((l.length : Int) < (l.length : Int)) = false := by simp
  unfold Pal.b0
  dsimp only
  rw [e1]; rfl) k (by omega)
 have e0 : ((0 : Nat) : Int) = 0 := rfl
 simp only [e0] at key
 rw [key]
 cases l.findIdx? (fun x => decide (x.1 = n)) <;> rfl
theorem Pqs {k} (hk : Zk k) (d : DiskT) (n : Int) (hl : d.2.2.1.length ≤ 1048576) : Pfm.f k d n = some (idxOf (fun x => decide (x.1 = n)) d.2.2.1) := by
 unfold Pfm.f Pah.f idxOf
 have key := Qqy (B := Pah.b0 k) d.2.2.1 (fun i => (d.2.2.1, 0, (d.2.2.1.length : Int), (i : Int), n)) (fun x => decide (x.1 = n)) (fun i => .inr (i : Int)) (.inl 0) (fun i hi => by
  have e1 : decide ((i : Int) < (d.2.2.1.length : Int)) = true := by simp; omega
  have e2 : inb? d.2.2.1.length (i : Int) = some i := by rw [Zi, Zn]
  unfold Pah.b0 Pgw.f
  dsimp only
  simp only [e1, Zy, e2, Zo, Zg hi]
  rw [Zw]
  rfl) (by
  have e1 : decide ((d.2.2.1.length : Int) < (d.2.2.1.length : Int)) = false := by simp
  unfold Pah.b0
  dsimp only
  rw [e1]; rfl) k (by omega)
 have e0 : ((0 : Nat) : Int) = 0 := rfl
 simp only [e0] at key
 rw [key]
 cases d.2.2.1.findIdx? (fun x => decide (x.1 = n)) <;> rfl
theorem Ppl {k} (hk : Zk k) (l : List Int) (n : Int) (hl : l.length ≤ 4194304) : Pdg.f k l n = some (decide (n ∈ l)) := by
 unfold Pdg.f Pde.f
 have key := Qqy (B := Pde.b0 k) l (fun i => (l, n, 0, (l.length : Int), (i : Int))) (fun x => decide (n = x)) (fun i => .inr (i : Int)) (.inl 0) (fun i hi => by
  have e1 : decide ((i : Int) < (l.length : Int)) = true := by simp; omega
  have e2 : inb? l.length (i : Int) = some i := by rw [Zi, Zn]
  unfold Pde.b0
  dsimp only
  simp only [e1, Zy, e2, Zo, Zg hi]
  rw [Zw]
  rfl) (by
  have e1 : decide ((l.length : Int) < (l.length : Int)) = false := by simp
  unfold Pde.b0
  dsimp only
  rw [e1]; rfl) k (by omega)
 have e0 : ((0 : Nat) : Int) = 0 := rfl
 simp only [e0] at key
 rw [key]
 cases h : l.findIdx? (fun x => decide (n = x)) with
 | none =>
  have := List.findIdx?_eq_none_iff.1 h
  have : n ∉ l := fun hm => by simpa using this n hm
  simp [this, Pde.d0]
 | some i =>
  obtain ⟨h1, h2, _⟩ := List.findIdx?_eq_some_iff_getElem.1 h
  have : n ∈ l := by
   have h2 : n = l[i] := of_decide_eq_true h2
   rw [h2]; exact List.getElem_mem h1
  simp [this]
def Pev (l : List LinkT) (n : Zb) : List LinkT := l.filter fun x => !decide (x.1 = n)
def insM (p : LinkT → Bool) (x : LinkT) (l : List LinkT) : List LinkT := l.takeWhile (fun y => !p y) ++ x :: l.dropWhile (fun y => !p y)
def withS (l : List LinkT) (x : LinkT) : List LinkT := insM (fun y => strLt x.1 y.1) x (Pev l x.1)
def linkI (l : List LinkT) (x : LinkT) : List LinkT := insM (fun y => !strLt y.1 x.1) x l
theorem Pkm (l : List LinkT) (n : Zb) : (Pev l n).length ≤ l.length := List.length_filter_le _ _
theorem Pqe (p : LinkT → Bool) (x : LinkT) (l : List LinkT) : (insM p x l).length = l.length + 1 := by
 unfold insM
 have := congrArg List.length (List.takeWhile_append_dropWhile (p := fun y => !p y) (l := l))
 simp only [List.length_append, Zl] at this ⊢
 omega
theorem Pkd {α : Type} (p : α → Bool) : ∀ (l a : List α), l.foldl (fun a x => bif p x then a ++ [x] else a) a = a ++ l.filter p
 | [], a => by simp
 | x :: l, a => by
  rw [List.foldl_cons, Pkd p l]
  cases h : p x <;> simp [h]
theorem Prm {k} (hk : Zk k) (l : List LinkT) (n : Zb) (hl : l.length ≤ 4194304) : Pau.f k l n = some (Pev l n) := by
 unfold Pau.f
 have key := Qqp (B := Pau.b0 k) l (fun i a => (l, n, [], a, (i : Int))) (fun a x => bif !decide (x.1 = n) then a ++ [x] else a) (fun a => .inl ([], a)) [] (fun i hi => by
  have e1 : decide ((i : Int) < (l.length : Int)) = true := by simp; omega
  have e2 : inb? l.length (i : Int) = some i := by rw [Zi, Zn]
  rw [Pkd]
  have hlen := List.length_filter_le (fun x => !decide (x.1 = n)) (l.take i)
  rw [List.length_take] at hlen
  unfold Pau.b0
  dsimp only
  simp only [e1, Zy, e2, Zo, Zg hi]
  rw [Zw, Qrr (by unfold limOf; simp only [List.length_append, List.length_nil, Zl]; omega)]
  cases !decide (l[i].1 = n) <;> rfl) (by
  have e1 : decide ((l.length : Int) < (l.length : Int)) = false := by simp
  unfold Pau.b0
  dsimp only
  rw [e1]; rfl) k (by omega)
 have e0 : ((0 : Nat) : Int) = 0 := rfl
 simp only [e0] at key
 rw [key, Pkd]
 rfl
def putG (x : LinkT) (a : List LinkT × Bool) (y : LinkT) : List LinkT × Bool := bif !a.2 && strLt x.1 y.1 then (a.1 ++ [x, y], true) else (a.1 ++ [y], a.2)
def putE (x : LinkT) (a : List LinkT × Bool) : List LinkT := bif !a.2 then a.1 ++ [x] else a.1
theorem Pvo (x : LinkT) : ∀ (l a : List LinkT), l.foldl (putG x) (a, true) = (a ++ l, true)
 | [], a => by simp
 | y :: l, a => by
  rw [List.foldl_cons]
  have : putG x (a, true) y = (a ++ [y], true) := rfl
  rw [this, Pvo x l]; simp
theorem Pbbc (x : LinkT) : ∀ (l a : List LinkT), putE x (l.foldl (putG x) (a, false)) = a ++ insM (fun y => strLt x.1 y.1) x l
 | [], a => by simp [putE, insM]
 | y :: l, a => by
  rw [List.foldl_cons]
  cases h : strLt x.1 y.1 with
  | true =>
   have : putG x (a, false) y = (a ++ [x, y], true) := by simp [putG, h]
   rw [this, Pvo]
   simp [putE, insM, List.takeWhile, List.dropWhile, h]
  | false =>
   have : putG x (a, false) y = (a ++ [y], false) := by simp [putG, h]
   rw [this, Pbbc x l]
   simp [insM, List.takeWhile, List.dropWhile, h]
theorem Pty (x : LinkT) : ∀ (l : List LinkT) (a : List LinkT × Bool), (l.foldl (putG x) a).1.length ≤ a.1.length + 2 * l.length
 | [], a => by simp
 | y :: l, a => by
  rw [List.foldl_cons]
  have := Pty x l (putG x a y)
  have h2 : (putG x a y).1.length ≤ a.1.length + 2 := by
   unfold putG
   cases !a.2 && strLt x.1 y.1 <;> simp
  simp only [Zl]
  omega
theorem Pym {k} (hk : Zk k) (l : List LinkT) (x : LinkT) (hl : l.length ≤ 4194304) : Pcz.f k l x = some (withS l x) := by
 unfold Pcz.f
 rw [Prm hk l x.1 hl]
 simp only [Zo]
 have hwl := Pkm l x.1
 obtain ⟨w, hw⟩ : ∃ w, Pev l x.1 = w := ⟨_, rfl⟩
 unfold withS
 rw [hw] at hwl ⊢
 have key := Qqp (B := Pcz.b0 k) w (fun i a => (w, [], a.1, a.2, (i : Int), x.1, x.2)) (putG x) (fun a => .inl ([], a.1, a.2, x.1, x.2)) ([], false) (fun i hi => by
  have e1 : decide ((i : Int) < (w.length : Int)) = true := by simp; omega
  have e2 : inb? w.length (i : Int) = some i := by rw [Zi, Zn]
  have hlen := Pty x (w.take i) ([], false)
  rw [List.length_take] at hlen
  simp only [List.length_nil] at hlen
  obtain ⟨a, ha⟩ : ∃ a, (w.take i).foldl (putG x) ([], false) = a := ⟨_, rfl⟩
  rw [ha] at hlen ⊢
  unfold Pcz.b0 Pcz.c0
  dsimp only
  simp only [e1, Zy, e2, Zo, Zg hi]
  unfold putG
  cases hb : a.2 with
  | true =>
   simp only [Zx, Zz, Bool.false_and, Zo, e2, Zg hi]
   rw [Qrr (by unfold limOf; simp only [List.length_append, List.length_nil, Zl]; omega)]
   simp only [e2, Zo, Zg hi]
   rw [Zw]
   rfl
  | false =>
   simp only [Bool.not_false, Zy, Bool.true_and, Zo]
   cases strLt x.1 w[i].1 with
   | true =>
    simp only [Zy]
    rw [Qrr (by unfold limOf; simp only [List.length_append, List.length_nil, Zl]; omega)]
    simp only [e2, Zo, Zg hi]
    rw [Qrr (by unfold limOf; simp only [List.length_append, List.length_nil, Zl]; omega)]
    simp only [Zo]
    rw [Zw]
    simp
   | false =>
    simp only [Zz, e2, Zo, Zg hi]
    rw [Qrr (by unfold limOf; simp only [List.length_append, List.length_nil, Zl]; omega)]
    simp only [Zo]
    rw [Zw]
    rfl) (by
  have e1 : decide ((w.length : Int) < (w.length : Int)) = false := by simp
  unfold Pcz.b0
  dsimp only
  rw [e1]; rfl) k (by omega)
 have e0 : ((0 : Nat) : Int) = 0 := rfl
 simp only [e0] at key
 rw [key]
 simp only [Zo]
 have := Pbbc x w []
 have hlen := Pty x w ([], false)
 simp only [List.length_nil, List.nil_append] at this hlen
 unfold Pcz.d0
 rw [← this]
 unfold putE
 cases hb : (w.foldl (putG x) ([], false)).2 with
 | true => simp
 | false =>
  simp only [Bool.not_false, Zy]
  rw [Qrr (by unfold limOf; simp only [List.length_append, List.length_nil, Zl]; omega)]
  rfl
theorem Pug {α : Type} (p : α → Bool) (l : List α) : l.takeWhile (fun y => !p y) = l.take (match l.findIdx? p with | some i => i | none => l.length) ∧ l.dropWhile (fun y => !p y) = l.drop (match l.findIdx? p with | some i => i | none => l.length) := by
 induction l with
 | nil => simp
 | cons x l ih =>
  rw [List.findIdx?_cons]
  cases h : p x with
  | true => simp [List.takeWhile, List.dropWhile, h]
  | false =>
   simp only [List.takeWhile, List.dropWhile, h, Bool.not_false]
   rw [ih.1, ih.2]
   cases l.findIdx? p <;> simp
theorem Psm {k} (hk : Zk k) (l : List LinkT) (x : LinkT) (hl : l.length ≤ 4194304) : Pdr.f k l x = some (linkI l x) := by
 unfold Pdr.f
 have key := Qqy (B := Pdr.b0 k) l (fun i => (l, [], (i : Int), x.1, x.2)) (fun y => !strLt y.1 x.1) (fun i => .inl (l, [], (i : Int), x.1, x.2)) (.inl (l, [], (l.length : Int), x.1, x.2)) (fun i hi => by
  have e1 : decide ((i : Int) < (l.length : Int)) = true := by simp; omega
  have e2 : inb? l.length (i : Int) = some i := by rw [Zi, Zn]
  unfold Pdr.b0
  dsimp only
  simp only [e1, Zy, e2, Zo, Zg hi]
  rw [Zw]
  cases strLt l[i].1 x.1 <;> rfl) (by
  have e1 : decide ((l.length : Int) < (l.length : Int)) = false := by simp
  unfold Pdr.b0
  dsimp only
  rw [e1]; rfl) k (by omega)
 have e0 : ((0 : Nat) : Int) = 0 := rfl
 simp only [e0] at key
 rw [key]
 unfold linkI insM
 obtain ⟨t1, t2⟩ := Pug (fun y : LinkT => !strLt y.1 x.1) l
 rw [t1, t2]
 have fin : ∀ i : Nat, i ≤ l.length → Pdr.d0 k (l, [], (i : Int), x.1, x.2) = some (l.take i ++ x :: l.drop i) := fun i hi => by
  unfold Pdr.d0 Pcq.f insF
  rw [if_pos ⟨rfl, by simp, by simp; omega, by simp only; omega⟩]
  simp
 cases h : l.findIdx? (fun y : LinkT => !strLt y.1 x.1) with
 | none => simp only [Zo]; exact fin l.length (Nat.le_refl _)
 | some i =>
  obtain ⟨h1, _⟩ := List.findIdx?_eq_some_iff_getElem.1 h
  simp only [Zo]; exact fin i (by omega)
theorem Pzz {α : Type} {p : α → Option Bool} {q : α → Bool} {l : List α} (hp : ∀ x ∈ l, p x = some (q x)) (hl : l.length ≤ 9223372036854775806) : delG (some (idxOf q l)) p l = some (l.filter fun x => !q x) := by
 unfold delG idxOf
 simp only [Zo]
 cases h : l.findIdx? q with
 | none =>
  have := List.findIdx?_eq_none_iff.1 h
  rw [if_pos rfl, List.filter_eq_self.2 fun x hx => by simp [this x hx]]
 | some i =>
  obtain ⟨h1, h2, h3⟩ := List.findIdx?_eq_some_iff_getElem.1 h
  simp only
  rw [if_neg (by omega), if_pos ⟨by omega, by omega, hl⟩, Zn, Qqa (q := q) fun x hx => hp x (List.mem_of_mem_drop hx)]
  simp only [Option.map_some]
  congr 1
  conv => rhs; rw [← List.take_append_drop i l, List.filter_append, List.drop_eq_getElem_cons h1]
  rw [List.filter_cons, h2]
  simp only [Zx, Bool.false_eq_true, if_false]
  have : (l.take i).filter (fun x => !q x) = l.take i := by
   refine List.filter_eq_self.2 fun x hx => ?_
   obtain ⟨j, hj, rfl⟩ := List.getElem_of_mem hx
   rw [List.length_take] at hj
   simp only [List.getElem_take]
   have := h3 j (by omega)
   simpa using this
  rw [this]
theorem Pbed {k} (hk : Zk k) (l : List LinkT) (m : MoveT) (hl : l.length ≤ 4194304) : Pad.f k l m = some (l.filter fun x => !(decide (x.1 = m.2.1) || decide (x.1 = m.2.2.1))) := by
 have hp : ∀ x : LinkT, Pdx.f k x m = some (decide (x.1 = m.2.1) || decide (x.1 = m.2.2.1)) := fun x => by
  unfold Pdx.f
  cases decide (x.1 = m.2.1) <;> rfl
 have hi : Pac.f k l m = some (idxOf (fun x => decide (x.1 = m.2.1) || decide (x.1 = m.2.2.1)) l) := by
  unfold Pac.f idxOf
  have key := Qqy (B := Pac.b0 k) l (fun i => (l, 0, (l.length : Int), (i : Int), m)) (fun x => decide (x.1 = m.2.1) || decide (x.1 = m.2.2.1)) (fun i => .inr (i : Int)) (.inl 0) (fun i hi => by
   have e1 : decide ((i : Int) < (l.length : Int)) = true := by simp; omega
   have e2 : inb? l.length (i : Int) = some i := by rw [Zi, Zn]
   unfold Pac.b0
   dsimp only
   simp only [e1, Zy, e2, Zo, Zg hi, Prod.eta, hp]
   rw [Zw]
   rfl) (by
   have e1 : decide ((l.length : Int) < (l.length : Int)) = false := by simp
   unfold Pac.b0
   dsimp only
   rw [e1]; rfl) k (by omega)
  have e0 : ((0 : Nat) : Int) = 0 := rfl
  simp only [e0] at key
  try simp only [Prod.eta]
  rw [key]
  cases l.findIdx? (fun x => decide (x.1 = m.2.1) || decide (x.1 = m.2.2.1)) <;> rfl
 unfold Pad.f
 rw [hi]
 exact Pzz (fun x _ => hp x) (by omega)
def at? (l : List LinkT) (n : Zb) : Int := idxOf (fun x => decide (x.1 = n)) l
def idAt (l : List LinkT) (n : Zb) : Int := match l[(at? l n).toNat]? with | some x => x.2 | none => 0
def Pen (l : List LinkT) (m : MoveT) : List LinkT × Bool :=
 if nameB m.2.1 = false then (l, false)
 else if m.1 = 1 ∧ m.2.2.1 = ⟨#[]⟩ ∧ at? l m.2.1 < 0 then (withS l (m.2.1, m.2.2.2), true)
 else if m.1 = 2 ∧ m.2.2.2 = 0 ∧ 0 ≤ at? l m.2.1 ∧ nameB m.2.2.1 = true ∧ m.2.2.1 ≠ m.2.1 then (withS (Pev l m.2.1) (m.2.2.1, idAt l m.2.1), true)
 else if m.1 = 3 ∧ m.2.2.2 = 0 ∧ m.2.2.1 = ⟨#[]⟩ ∧ 0 ≤ at? l m.2.1 then (Pev l m.2.1, true)
 else (l, false)
def Plg (l : List LinkT) (m : MoveT) : List LinkT × Bool :=
 if m.1 = 1 ∧ m.2.2.1 = ⟨#[]⟩ ∧ at? l m.2.1 < 0 then (linkI l (m.2.1, m.2.2.2), true)
 else if m.1 = 2 ∧ m.2.2.2 = 0 ∧ 0 ≤ at? l m.2.1 ∧ m.2.2.1 ≠ m.2.1 ∧ nameB m.2.2.1 = true then (linkI (l.filter fun x => !(decide (x.1 = m.2.1) || decide (x.1 = m.2.2.1))) (m.2.2.1, idAt l m.2.1), true)
 else if m.1 = 3 ∧ m.2.2.1 = ⟨#[]⟩ ∧ m.2.2.2 = 0 ∧ 0 ≤ at? l m.2.1 then (l.take (at? l m.2.1).toNat ++ l.drop ((at? l m.2.1).toNat + 1), true)
 else (l, false)
theorem Pqd {l : List LinkT} {n : Zb} (h : 0 ≤ at? l n) : inb? l.length (at? l n) = some (at? l n).toNat ∧ ∃ x, l[(at? l n).toNat]? = some x ∧ x.2 = idAt l n := by
 obtain ⟨h1, h2⟩ := Qrh (fun x : LinkT => decide (x.1 = n)) l
 have hlt : (at? l n).toNat < l.length := by unfold at? at *; omega
 refine ⟨Qqx h (by unfold at?; omega), _, Zg hlt, ?_⟩
 unfold idAt
 rw [Zg hlt]
theorem Pvx {k} (hk : Zk k) (l : List LinkT) (m : MoveT) (hl : l.length ≤ 4194000) (h1 : m.2.1.size ≤ 1048576) (h2 : m.2.2.1.size ≤ 1048576) : Pgm.f k l m = some (Pen l m) := by
 have hw : (Pev l m.2.1).length ≤ 4194304 := by have := Pkm l m.2.1; omega
 unfold Pgm.f
 rw [Pbds hk l m.2.1 (by omega), Pkb hk m.2.1 h1, Pkb hk m.2.2.1 h2]
 simp only [Zo, Pym hk l _ (show l.length ≤ 4194304 by omega), Prm hk l _ (show l.length ≤ 4194304 by omega), Pym hk (Pev l m.2.1) _ hw]
 change _ = some (Pen l m)
 have hat : idxOf (fun x => decide (x.1 = m.2.1)) l = at? l m.2.1 := rfl
 rw [hat]
 unfold Pen
 cases hn : nameB m.2.1 with
 | false => simp
 | true =>
  by_cases hp : 0 ≤ at? l m.2.1
  ·obtain ⟨e1, x, e2, e3⟩ := Pqd hp
   have hp' : ¬ at? l m.2.1 < 0 := by omega
   simp only [e1, e2, e3, Zo, hp, hp', decide_true, decide_false, Zx, Zz, Zy]
   by_cases c1 : m.1 = 1 <;> by_cases c2 : m.1 = 2 <;> by_cases c3 : m.1 = 3 <;> by_cases c4 : m.2.2.2 = 0 <;> by_cases c5 : m.2.2.1 = ⟨#[]⟩ <;> by_cases c6 : m.2.2.1 = m.2.1 <;> cases c7 : nameB m.2.2.1 <;> simp [c1, c2, c3, c4, c5, c6, c7] <;> first | (exfalso; omega) | simp_all
  ·have hp' : at? l m.2.1 < 0 := by omega
   simp only [Zo, hp, hp', decide_true, decide_false, Zx, Zz, Zy]
   by_cases c1 : m.1 = 1 <;> by_cases c2 : m.1 = 2 <;> by_cases c3 : m.1 = 3 <;> by_cases c4 : m.2.2.2 = 0 <;> by_cases c5 : m.2.2.1 = ⟨#[]⟩ <;> simp [c1, c2, c3, c4, c5] <;> omega
theorem Puy {k} (hk : Zk k) (l : List LinkT) (m : MoveT) (hl : l.length ≤ 4194000) (h2 : m.2.2.1.size ≤ 1048576) : Pip.f k l m = some (Plg l m) := by
 unfold Pip.f Pdb.f
 rw [Qrr (by unfold limOf; simp only [List.length_nil]; omega)]
 simp only [Zo, List.nil_append, Pbdm hk l m.2.1 (show l.length ≤ 4194304 by omega), Pkq hk m.2.2.1 h2, Prod.eta, Pbed hk l m (show l.length ≤ 4194304 by omega), Psm hk l _ (show l.length ≤ 4194304 by omega)]
 have hf : (l.filter fun x => !(decide (x.1 = m.2.1) || decide (x.1 = m.2.2.1))).length ≤ 4194304 := by have := List.length_filter_le (fun x : LinkT => !(decide (x.1 = m.2.1) || decide (x.1 = m.2.2.1))) l; omega
 simp only [Psm hk _ _ hf]
 have hat : idxOf (fun x => decide (x.1 = m.2.1)) l = at? l m.2.1 := rfl
 rw [hat]
 unfold Plg
 by_cases hp : 0 ≤ at? l m.2.1
 ·obtain ⟨e1, x, e2, e3⟩ := Pqd hp
  have hp' : ¬ at? l m.2.1 < 0 := by omega
  obtain ⟨h3, h4⟩ := Qrh (fun x : LinkT => decide (x.1 = m.2.1)) l
  rw [hat] at h3 h4
  have ed : Pap.f k l (at? l m.2.1) (Zr (at? l m.2.1 + 1)) = some (l.take (at? l m.2.1).toNat ++ l.drop ((at? l m.2.1).toNat + 1)) := by
   unfold Pap.f delR
   rw [Zw, if_pos ⟨hp, by omega, by omega⟩, show (at? l m.2.1 + 1).toNat = (at? l m.2.1).toNat + 1 by omega]
  simp only [e1, e2, e3, ed, Zo, hp, hp', decide_true, decide_false, Zx, Zz, Zy]
  by_cases c1 : m.1 = 1 <;> by_cases c2 : m.1 = 2 <;> by_cases c3 : m.1 = 3 <;> by_cases c4 : m.2.2.2 = 0 <;> by_cases c5 : m.2.2.1 = ⟨#[]⟩ <;> by_cases c6 : m.2.2.1 = m.2.1 <;> cases c7 : nameB m.2.2.1 <;> simp [c1, c2, c3, c4, c5, c6, c7] <;> first | (exfalso; omega) | simp_all
 ·have hp' : at? l m.2.1 < 0 := by omega
  simp only [Zo, hp, hp', decide_true, decide_false, Zx, Zz, Zy]
  by_cases c1 : m.1 = 1 <;> by_cases c2 : m.1 = 2 <;> by_cases c3 : m.1 = 3 <;> by_cases c4 : m.2.2.2 = 0 <;> by_cases c5 : m.2.2.1 = ⟨#[]⟩ <;> simp [c1, c2, c3, c4, c5] <;> omega
def rg (a b c : Int) : Bool := decide (b ≤ a) && decide (a ≤ c)
theorem Plh {b : Bool} {x : Option Bool} {y : Bool} (h : b = true → x = some y) : (bif !b then some false else x) = some (b && y) := by
 cases b with
 | true => simpa using h rfl
 | false => rfl
theorem Pqi {a b : Int} {x : Option Bool} {y : Bool} (h : a ≤ b → x = some y) : (bif decide (b < a) then some false else x) = some (decide (a ≤ b) && y) := by
 by_cases c : a ≤ b
 ·have e1 : decide (b < a) = false := by simp; omega
  rw [e1, Zz, h c, Zt c]; rfl
 ·have e1 : decide (b < a) = true := by simp; omega
  rw [e1, Zf c]; rfl
def Pli (l : List Pfl) : Int := l.foldl (fun n x => n + (x.2.1.size : Int)) 0
def amtI (l : List Pfl) : Nat := (l.map fun x => x.2.1.size).sum
theorem Pmo : ∀ (l : List Pfl) (n : Int), l.foldl (fun n x => n + (x.2.1.size : Int)) n = n + amtI l
 | [], n => by simp [amtI]
 | x :: l, n => by
  rw [List.foldl_cons, Pmo l]
  simp only [amtI, List.map_cons, List.sum_cons]
  omega
theorem Pzp (l : List Pfl) (i : Nat) : amtI (l.take i) ≤ amtI l := by
 have := congrArg amtI (List.take_append_drop i l)
 unfold amtI at *
 rw [List.map_append, List.sum_append] at this
 omega
theorem Pwi {l : List Pfl} {i : Nat} (hi : i < l.length) : amtI (l.take i) + l[i].2.1.size ≤ amtI l := by
 have := Pzp l (i + 1)
 rw [List.take_add_one, Zg hi] at this
 unfold amtI at *
 rw [List.map_append, List.sum_append] at this
 simpa using this
structure Small (d : DiskT) : Prop where
 ino : d.2.2.1.length ≤ 1048576
 dir : d.2.2.2.1.length ≤ 1048576
 mov : d.2.2.2.2.length ≤ 1048576
 amt : amtI d.2.2.1 ≤ 1048576
 dirN : ∀ x ∈ d.2.2.2.1, x.1.size ≤ 1048576
 movN : ∀ x ∈ d.2.2.2.2, x.2.1.size ≤ 1048576 ∧ x.2.2.1.size ≤ 1048576
theorem Pri {k} (hk : Zk k) (d : DiskT) (hs : Small d) : Pdu.f k d = some (Pli d.2.2.1) := by
 unfold Pdu.f
 have ha := hs.amt
 have hl := hs.ino
 have key := Qqp (B := Pdu.b0 k) d.2.2.1 (fun i a => (0, a, (i : Int), d)) (fun n x => n + (x.2.1.size : Int)) (fun a => .inl (0, a)) 0 (fun i hi => by
  have e1 : decide ((i : Int) < (d.2.2.1.length : Int)) = true := by simp; omega
  have e2 : inb? d.2.2.1.length (i : Int) = some i := by rw [Zi, Zn]
  have hb := Pwi hi
  rw [Pmo]
  unfold Pdu.b0
  dsimp only
  simp only [e1, Zy, e2, Zo, Zg hi]
  rw [Zw, Zw]
  rfl) (by
  have e1 : decide ((d.2.2.1.length : Int) < (d.2.2.1.length : Int)) = false := by simp
  unfold Pdu.b0
  dsimp only
  rw [e1]; rfl) k (by omega)
 have e0 : ((0 : Nat) : Int) = 0 := rfl
 simp only [e0] at key
 try simp only [Prod.eta]
 rw [key]; rfl
theorem Puz {k} (hk : Zk k) (d : DiskT) (hs : Small d) : Pcs.f k d = some (Pli d.2.2.1) := by
 unfold Pcs.f
 have ha := hs.amt
 have hl := hs.ino
 have key := Qqp (B := Pcs.b0 k) d.2.2.1 (fun i a => (0, a, d.2.2.1, (d.2.2.1.length : Int), (i : Int))) (fun n x => n + (x.2.1.size : Int)) (fun a => .inl (0, a)) 0 (fun i hi => by
  have e1 : decide ((i : Int) < (d.2.2.1.length : Int)) = true := by simp; omega
  have e2 : inb? d.2.2.1.length (i : Int) = some i := by rw [Zi, Zn]
  have hb := Pwi hi
  rw [Pmo]
  unfold Pcs.b0
  dsimp only
  simp only [e1, Zy, e2, Zo, Zg hi]
  rw [Zw, Zw]
  rfl) (by
  have e1 : decide ((d.2.2.1.length : Int) < (d.2.2.1.length : Int)) = false := by simp
  unfold Pcs.b0
  dsimp only
  rw [e1]; rfl) k (by omega)
 have e0 : ((0 : Nat) : Int) = 0 := rfl
 simp only [e0] at key
 rw [key]; rfl
def upI (l : List Pfl) (i : Nat) : Bool := decide (i = 0) || match l[i - 1]?, l[i]? with | some y, some x => decide (y.1 < x.1) | _, _ => false
def upD (l : List LinkT) (i : Nat) : Bool := decide (i = 0) || match l[i - 1]?, l[i]? with | some y, some x => strLt y.1 x.1 | _, _ => false
def hasI (d : DiskT) (n : Int) : Bool := !decide (idxOf (fun x => decide (x.1 = n)) d.2.2.1 < 0)
def madeB (l : List MoveT) (n : Int) : Bool := l.any fun x => decide (x.1 = 1) && decide (x.2.2.2 = n)
def linkB (l : List LinkT) (n : Int) : Bool := l.any fun x => decide (x.2 = n)
def pI (d : DiskT) (i : Nat) : Bool := match d.2.2.1[i]? with
 | some x => rg x.1 1 (d.2.1 - 1) && (rg x.2.2 0 (x.2.1.size : Int) && upI d.2.2.1 i)
 | none => false
def pIS (d : DiskT) (i : Nat) : Bool := match d.2.2.1[i]? with
 | some x => rg x.1 1 (d.2.1 - 1) && (rg x.2.2 0 (x.2.1.size : Int) && (upI d.2.2.1 i && (linkB d.2.2.2.1 x.1 || madeB d.2.2.2.2 x.1)))
 | none => false
def pD (d : DiskT) (i : Nat) : Bool := match d.2.2.2.1[i]? with
 | some x => nameB x.1 && (upD d.2.2.2.1 i && (hasI d x.2 && !linkB (d.2.2.2.1.take i) x.2))
 | none => false
def Pfu (dir : List LinkT) (ms : List MoveT) : List LinkT := ms.foldl (fun l m => (Pen l m).1) dir
def Pkn (dir : List LinkT) (ms : List MoveT) : List LinkT := ms.foldl (fun l m => (Plg l m).1) dir
def makes (ms : List MoveT) : List Int := (ms.filter fun m => decide (m.1 = 1)).map (·.2.2.2)
def pMS (d : DiskT) (i : Nat) : Bool := match d.2.2.2.2[i]? with
 | some m => (!decide (m.1 = 1) || (hasI d m.2.2.2 && (!linkB d.2.2.2.1 m.2.2.2 && !madeB (d.2.2.2.2.take i) m.2.2.2))) && (Pen (Pfu d.2.2.2.1 (d.2.2.2.2.take i)) m).2
 | none => false
def pMI (d : DiskT) (i : Nat) : Bool := match d.2.2.2.2[i]? with
 | some m => (Plg (Pkn d.2.2.2.1 (d.2.2.2.2.take i)) m).2 && (nameB m.2.1 && (!decide (m.1 = 1) || (hasI d m.2.2.2 && !decide (m.2.2.2 ∈ d.2.2.2.1.map (·.2) ++ makes (d.2.2.2.2.take i)))))
 | none => false
def diskS (d : DiskT) : Bool :=
 rg d.1 0 1048576 && (rg d.2.1 1 1000000 && (decide ((d.2.2.1.length : Int) ≤ 10) && (decide ((d.2.2.2.2.length : Int) ≤ 20) && (decide ((d.2.2.2.1.length : Int) ≤ 10) && (decide (Pli d.2.2.1 ≤ d.1) &&
  ((List.range d.2.2.1.length).all (pIS d) && ((List.range d.2.2.2.1.length).all (pD d) && (List.range d.2.2.2.2.length).all (pMS d))))))))
def diskI (d : DiskT) : Bool :=
 rg d.1 0 1048576 && (rg d.2.1 1 1000000 && (decide ((d.2.2.1.length : Int) ≤ 10) && (decide (Pli d.2.2.1 ≤ d.1) && (decide ((d.2.2.2.2.length : Int) ≤ 20) &&
  ((List.range d.2.2.1.length).all (pI d) && ((List.range d.2.2.2.1.length).all (pD d) && ((List.range d.2.2.2.2.length).all (pMI d) && decide (((d.2.2.2.1.map (·.2) ++ makes d.2.2.2.2).length : Int) = (d.2.2.1.length : Int)))))))))
theorem Pmr : ∀ (ms : List MoveT) (l : List LinkT), (Pfu l ms).length ≤ l.length + ms.length
 | [], l => by simp [Pfu]
 | m :: ms, l => by
  have h := Pmr ms (Pen l m).1
  have h2 : (Pen l m).1.length ≤ l.length + 1 := by
   unfold Pen withS
   have w1 := Pkm l m.2.1
   have w2 := Pkm (Pev l m.2.1) m.2.2.1
   have w3 := Pkm l (m.2.1, m.2.2.2).1
   split
   ·simp
   ·split
    ·simp only [Pqe]; omega
    ·split
     ·simp only [Pqe]; omega
     ·split
      ·simp only; omega
      ·simp
  simp only [Pfu, List.foldl_cons, Zl] at h ⊢
  omega
theorem Poy : ∀ (ms : List MoveT) (l : List LinkT), (Pkn l ms).length ≤ l.length + ms.length
 | [], l => by simp [Pkn]
 | m :: ms, l => by
  have h := Poy ms (Plg l m).1
  have h2 : (Plg l m).1.length ≤ l.length + 1 := by
   unfold Plg linkI
   have w1 := List.length_filter_le (fun x : LinkT => !(decide (x.1 = m.2.1) || decide (x.1 = m.2.2.1))) l
   split
   ·simp only [Pqe]; omega
   ·split
    ·simp only [Pqe]; omega
    ·split
     ·simp only [List.length_append, List.length_take, List.length_drop]; omega
     ·simp
  simp only [Pkn, List.foldl_cons, Zl] at h ⊢
  omega
theorem Pnm {dir : List LinkT} {ms : List MoveT} {i : Nat} (hi : i < ms.length) : Pfu dir (ms.take (i + 1)) = (Pen (Pfu dir (ms.take i)) ms[i]).1 := by
 unfold Pfu
 rw [List.take_add_one, Zg hi, Option.toList_some, List.foldl_append]; rfl
theorem Pqu {dir : List LinkT} {ms : List MoveT} {i : Nat} (hi : i < ms.length) : Pkn dir (ms.take (i + 1)) = (Plg (Pkn dir (ms.take i)) ms[i]).1 := by
 unfold Pkn
 rw [List.take_add_one, Zg hi, Option.toList_some, List.foldl_append]; rfl
theorem Psu {ms : List MoveT} {i : Nat} (hi : i < ms.length) : makes (ms.take (i + 1)) = if ms[i].1 = 1 then makes (ms.take i) ++ [ms[i].2.2.2] else makes (ms.take i) := by
 unfold makes
 rw [List.take_add_one, Zg hi, Option.toList_some, List.filter_append, List.map_append]
 by_cases h : ms[i].1 = 1 <;> simp [h]
theorem Pbax (ms : List MoveT) : (makes ms).length ≤ ms.length := by
 unfold makes; rw [List.length_map]; exact List.length_filter_le _ _
theorem Pbdl (a b : Int) : decide (a ≤ b) = !decide (b < a) := by
 by_cases h : b < a
 ·have : ¬ a ≤ b := by omega
  simp [h, this]
 ·have : a ≤ b := by omega
  simp [h, this]
theorem Pci {n : Nat} {p : Nat → Bool} : (List.range n).all p = true ↔ ∀ i, i < n → p i = true := by
 rw [List.all_eq_true]
 exact ⟨fun h i hi => h i (List.mem_range.2 hi), fun h i hi => h i (List.mem_range.1 hi)⟩
theorem Pbcn {k} (hk : Zk k) (d : DiskT) (hs : Small d) (hn : 1 ≤ d.2.1) (hn2 : d.2.1 ≤ 1000000) (i : Nat) (hi : i < d.2.2.1.length) :
  Pag.b0 k (false, (i : Int), d) = if pIS d i then some (.inl (false, ((i + 1 : Nat) : Int), d)) else some (.inr (.inr false)) := by
 have hl := hs.ino
 have e1 : decide ((i : Int) < (d.2.2.1.length : Int)) = true := by simp; omega
 have e2 : inb? d.2.2.1.length (i : Int) = some i := by rw [Zi, Zn]
 unfold Pag.b0 pIS
 dsimp only
 simp only [e1, Zy, e2, Zo, Zg hi, Ptq, Pmu hk _ _ (show d.2.2.2.1.length ≤ 4194304 by have := hs.dir; omega), Pyl hk _ _ (show d.2.2.2.2.length ≤ 4194304 by have := hs.mov; omega), Prod.eta]
 simp (disch := omega) only [Zv]
 obtain ⟨x, hx⟩ : ∃ x, d.2.2.1[i] = x := ⟨_, rfl⟩
 have hx? : d.2.2.1[i]? = some x := by rw [Zg hi, hx]
 rw [hx]
 have eL : (d.2.2.2.1.any fun y => decide (y.2 = x.1)) = linkB d.2.2.2.1 x.1 := rfl
 have eM : (d.2.2.2.2.any fun y => decide (y.1 = 1) && decide (y.2.2.2 = x.1)) = madeB d.2.2.2.2 x.1 := rfl
 have eA : (decide (1 ≤ x.1) && decide (x.1 ≤ d.2.1 - 1)) = rg x.1 1 (d.2.1 - 1) := rfl
 have eB : (decide (0 ≤ x.2.2) && decide (x.2.2 ≤ (x.2.1.size : Int))) = rg x.2.2 0 (x.2.1.size : Int) := rfl
 rw [eL, eM, eA, eB]
 by_cases h0 : i = 0
 ·subst h0
  have e3 : decide (0 < ((0 : Nat) : Int)) = false := by simp
  have eu : upI d.2.2.1 0 = true := rfl
  rw [e3, eu]
  cases rg x.1 1 (d.2.1 - 1) <;> cases rg x.2.2 0 (x.2.1.size : Int) <;> cases linkB d.2.2.2.1 x.1 <;> cases madeB d.2.2.2.2 x.1 <;> rfl
 ·have e3 : decide (0 < (i : Int)) = true := by simp; omega
  have e4 : inb? d.2.2.1.length ((i : Int) - 1) = some (i - 1) := by
   rw [Zi]; congr 1; omega
  have hi1 : i - 1 < d.2.2.1.length := by omega
  obtain ⟨y, hy⟩ : ∃ y, d.2.2.1[i - 1] = y := ⟨_, rfl⟩
  have hy? : d.2.2.1[i - 1]? = some y := by rw [Zg hi1, hy]
  have eu : upI d.2.2.1 i = decide (y.1 < x.1) := by unfold upI; rw [hx?, hy?, Zf h0]; rfl
  rw [e3, eu]
  simp only [Zy, e4, Zo, hy?, Pbdl x.1 y.1]
  cases rg x.1 1 (d.2.1 - 1) <;> cases rg x.2.2 0 (x.2.1.size : Int) <;> cases linkB d.2.2.2.1 x.1 <;> cases madeB d.2.2.2.2 x.1 <;> cases decide (y.1 < x.1) <;> rfl
theorem Pbca {k} (hk : Zk k) (d : DiskT) (hs : Small d) (i : Nat) (hi : i < d.2.2.2.1.length) :
  Pag.b1 k (false, (i : Int), d) = if pD d i then some (.inl (false, ((i + 1 : Nat) : Int), d)) else some (.inr (.inr false)) := by
 have hl := hs.dir
 have e1 : decide ((i : Int) < (d.2.2.2.1.length : Int)) = true := by simp; omega
 have e2 : inb? d.2.2.2.1.length (i : Int) = some i := by rw [Zi, Zn]
 have e5 : cut? d.2.2.2.1.length 0 (i : Int) = some (0, i) := by rw [Zc]; simp
 have htl : ((d.2.2.2.1.take i).drop 0).length ≤ 4194304 := by simp; omega
 unfold Pag.b1 pD
 dsimp only
 simp only [e1, Zy, e2, Zo, Zg hi, Pkb hk _ (hs.dirN _ (List.getElem_mem hi)), Prod.eta, e5, Prj hk d _ hs.ino, Pmu hk _ _ htl]
 simp (disch := omega) only [Zv]
 obtain ⟨x, hx⟩ : ∃ x, d.2.2.2.1[i] = x := ⟨_, rfl⟩
 have hx? : d.2.2.2.1[i]? = some x := by rw [Zg hi, hx]
 rw [hx]
 have eL : (((d.2.2.2.1.take i).drop 0).any fun y => decide (y.2 = x.2)) = linkB (d.2.2.2.1.take i) x.2 := rfl
 have eH : decide (idxOf (fun y => decide (y.1 = x.2)) d.2.2.1 < 0) = !hasI d x.2 := by unfold hasI; rw [Bool.not_not]
 rw [eL, eH]
 by_cases h0 : i = 0
 ·subst h0
  have e3 : decide (0 < ((0 : Nat) : Int)) = false := by simp
  have eu : upD d.2.2.2.1 0 = true := rfl
  rw [e3, eu]
  cases nameB x.1 <;> cases hasI d x.2 <;> cases linkB (d.2.2.2.1.take 0) x.2 <;> rfl
 ·have e3 : decide (0 < (i : Int)) = true := by simp; omega
  have e4 : inb? d.2.2.2.1.length ((i : Int) - 1) = some (i - 1) := by
   rw [Zi]; congr 1; omega
  have hi1 : i - 1 < d.2.2.2.1.length := by omega
  obtain ⟨y, hy⟩ : ∃ y, d.2.2.2.1[i - 1] = y := ⟨_, rfl⟩
  have hy? : d.2.2.2.1[i - 1]? = some y := by rw [Zg hi1, hy]
  have eu : upD d.2.2.2.1 i = strLt y.1 x.1 := by unfold upD; rw [hx?, hy?, Zf h0]; rfl
  rw [e3, eu]
  simp only [Zy, e4, Zo, hy?]
  cases nameB x.1 <;> cases hasI d x.2 <;> cases linkB (d.2.2.2.1.take i) x.2 <;> cases strLt y.1 x.1 <;> rfl
theorem Pbcp {k} (hk : Zk k) (d : DiskT) (hs : Small d) (hd : d.2.2.2.1.length ≤ 10) (hm : d.2.2.2.2.length ≤ 20) (i : Nat) (hi : i < d.2.2.2.2.length) :
  Pag.b2 k (false, Pfu d.2.2.2.1 (d.2.2.2.2.take i), (i : Int), d) = if pMS d i then some (.inl (false, Pfu d.2.2.2.1 (d.2.2.2.2.take (i + 1)), ((i + 1 : Nat) : Int), d)) else some (.inr (.inr false)) := by
 have e1 : decide ((i : Int) < (d.2.2.2.2.length : Int)) = true := by simp; omega
 have e2 : inb? d.2.2.2.2.length (i : Int) = some i := by rw [Zi, Zn]
 have e5 : cut? d.2.2.2.2.length 0 (i : Int) = some (0, i) := by rw [Zc]; simp
 have htl : ((d.2.2.2.2.take i).drop 0).length ≤ 4194304 := by simp; omega
 have hll := Pmr (d.2.2.2.2.take i) d.2.2.2.1
 rw [List.length_take] at hll
 obtain ⟨n1, n2⟩ := hs.movN _ (List.getElem_mem hi)
 rw [Pnm hi]
 obtain ⟨l, hl⟩ : ∃ l, Pfu d.2.2.2.1 (d.2.2.2.2.take i) = l := ⟨_, rfl⟩
 unfold Pag.b2 pMS
 rw [hl] at hll ⊢
 obtain ⟨m, hm'⟩ : ∃ m, d.2.2.2.2[i] = m := ⟨_, rfl⟩
 have hm? : d.2.2.2.2[i]? = some m := by rw [Zg hi, hm']
 rw [hm'] at n1 n2 ⊢
 dsimp only
 simp only [e1, Zy, e2, Zo, hm?, Prod.eta, e5, Prj hk d _ hs.ino, Pmu hk _ _ (show d.2.2.2.1.length ≤ 4194304 by have := hs.dir; omega), Pyl hk _ _ htl]
 have eL : (d.2.2.2.1.any fun y => decide (y.2 = m.2.2.2)) = linkB d.2.2.2.1 m.2.2.2 := rfl
 have eM : (((d.2.2.2.2.take i).drop 0).any fun y => decide (y.1 = 1) && decide (y.2.2.2 = m.2.2.2)) = madeB (d.2.2.2.2.take i) m.2.2.2 := rfl
 have eH : decide (idxOf (fun y => decide (y.1 = m.2.2.2)) d.2.2.1 < 0) = !hasI d m.2.2.2 := by unfold hasI; rw [Bool.not_not]
 rw [eL, eM, eH]
 have ec : Pag.c0 k (false, l, (i : Int), d, m) = if (Pen l m).2 then some (.inl (false, (Pen l m).1, ((i + 1 : Nat) : Int), d)) else some (.inr (.inr false)) := by
  unfold Pag.c0
  dsimp only
  simp only [Prod.eta, Pvx hk l m (by omega) n1 n2, Zo]
  rw [Zw]
  cases (Pen l m).2 <;> rfl
 cases decide (m.1 = 1) <;> cases linkB d.2.2.2.1 m.2.2.2 <;> cases madeB (d.2.2.2.2.take i) m.2.2.2 <;> cases hasI d m.2.2.2 <;> simp [ec]
theorem Pgj {k} (hk : Zk k) (d : DiskT) (hs : Small d) : Pag.f k d = some (diskS d) := by
 unfold Pag.f diskS
 simp only [Ptq, Zo, Prod.eta, Pri hk d hs]
 refine Plh fun h1 => Plh fun h2 => Pqi fun h3 => Pqi fun h4 => Pqi fun h5 => Pqi fun h6 => ?_
 simp only [Zd, Zq] at h2
 have hl := hs.ino
 have key := Qqt (B := Pag.b0 k) d.2.2.1.length (fun i => (false, (i : Int), d)) (pIS d) (.inl (false, d)) (.inr false) (fun i hi _ => Pbcn hk d hs h2.1 h2.2 i hi) (fun _ => by
  have e1 : decide ((d.2.2.1.length : Int) < (d.2.2.1.length : Int)) = false := by simp
  unfold Pag.b0
  dsimp only
  rw [e1]; rfl) k (by omega)
 have key1 := Qqt (B := Pag.b1 k) d.2.2.2.1.length (fun i => (false, (i : Int), d)) (pD d) (.inl (false, d)) (.inr false) (fun i hi _ => Pbca hk d hs i hi) (fun _ => by
  have e1 : decide ((d.2.2.2.1.length : Int) < (d.2.2.2.1.length : Int)) = false := by simp
  unfold Pag.b1
  dsimp only
  rw [e1]; rfl) k (by omega)
 have key2 := Qqt (B := Pag.b2 k) d.2.2.2.2.length (fun i => (false, Pfu d.2.2.2.1 (d.2.2.2.2.take i), (i : Int), d)) (pMS d) (.inl false) (.inr false) (fun i hi _ => Pbcp hk d hs (by omega) (by omega) i hi) (fun _ => by
  have e1 : decide ((d.2.2.2.2.length : Int) < (d.2.2.2.2.length : Int)) = false := by simp
  unfold Pag.b2
  dsimp only
  rw [e1]; rfl) k (by omega)
 have e0 : ((0 : Nat) : Int) = 0 := rfl
 simp only [e0, List.take_zero] at key key1 key2
 rw [key]
 cases (List.range d.2.2.1.length).all (pIS d) with
 | false => rfl
 | true =>
  simp only [if_true, Zo, Bool.true_and]
  unfold Pag.d0
  simp only [Prod.eta]
  rw [key1]
  cases (List.range d.2.2.2.1.length).all (pD d) with
  | false => rfl
  | true =>
   simp only [if_true, Zo, Bool.true_and]
   unfold Pag.d1
   dsimp only
   rw [Qrr (by unfold limOf; simp only [List.length_nil]; omega)]
   simp only [Zo, List.nil_append, Prod.eta]
   have e7 : Pfu d.2.2.2.1 [] = d.2.2.2.1 := rfl
   rw [e7] at key2
   rw [key2]
   cases (List.range d.2.2.2.2.length).all (pMS d) <;> rfl
theorem Pbao {k} (hk : Zk k) (d : DiskT) (hs : Small d) (hn : 1 ≤ d.2.1) (hn2 : d.2.1 ≤ 1000000) (i : Nat) (hi : i < d.2.2.1.length) :
  Pbg.b0 k (false, d.2.2.1, (d.2.2.1.length : Int), (i : Int), d) = if pI d i then some (.inl (false, d.2.2.1, (d.2.2.1.length : Int), ((i + 1 : Nat) : Int), d)) else some (.inr (.inr false)) := by
 have hl := hs.ino
 have e1 : decide ((i : Int) < (d.2.2.1.length : Int)) = true := by simp; omega
 have e2 : inb? d.2.2.1.length (i : Int) = some i := by rw [Zi, Zn]
 unfold Pbg.b0 pI
 dsimp only
 simp only [e1, Zy, e2, Zo, Zg hi, Pdv, Prod.eta]
 simp (disch := omega) only [Zv]
 obtain ⟨x, hx⟩ : ∃ x, d.2.2.1[i] = x := ⟨_, rfl⟩
 have hx? : d.2.2.1[i]? = some x := by rw [Zg hi, hx]
 rw [hx]
 have eA : (decide (1 ≤ x.1) && decide (x.1 ≤ d.2.1 - 1)) = rg x.1 1 (d.2.1 - 1) := rfl
 have eB : (decide (0 ≤ x.2.2) && decide (x.2.2 ≤ (x.2.1.size : Int))) = rg x.2.2 0 (x.2.1.size : Int) := rfl
 rw [eA, eB]
 by_cases h0 : i = 0
 ·subst h0
  have e3 : decide (0 < ((0 : Nat) : Int)) = false := by simp
  have eu : upI d.2.2.1 0 = true := rfl
  rw [e3, eu]
  cases rg x.1 1 (d.2.1 - 1) <;> cases rg x.2.2 0 (x.2.1.size : Int) <;> rfl
 ·have e3 : decide (0 < (i : Int)) = true := by simp; omega
  have e4 : inb? d.2.2.1.length ((i : Int) - 1) = some (i - 1) := by
   rw [Zi]; congr 1; omega
  have hi1 : i - 1 < d.2.2.1.length := by omega
  obtain ⟨y, hy⟩ : ∃ y, d.2.2.1[i - 1] = y := ⟨_, rfl⟩
  have hy? : d.2.2.1[i - 1]? = some y := by rw [Zg hi1, hy]
  have eu : upI d.2.2.1 i = decide (y.1 < x.1) := by unfold upI; rw [hx?, hy?, Zf h0]; rfl
  rw [e3, eu]
  simp only [Zy, e4, Zo, hy?, Pbdl x.1 y.1]
  cases rg x.1 1 (d.2.1 - 1) <;> cases rg x.2.2 0 (x.2.1.size : Int) <;> cases decide (y.1 < x.1) <;> rfl
def idsD (d : DiskT) (i : Nat) : List Int := (d.2.2.2.1.take i).map (·.2)
theorem Pbcd {d : DiskT} {i : Nat} {n : Int} : decide (n ∈ idsD d i) = linkB (d.2.2.2.1.take i) n := by
 unfold idsD linkB
 cases h : (d.2.2.2.1.take i).any fun x => decide (x.2 = n) with
 | true =>
  obtain ⟨x, hx, hp⟩ := List.any_eq_true.1 h
  rw [Zq, List.mem_map]
  exact ⟨x, hx, of_decide_eq_true hp⟩
 | false =>
  rw [decide_eq_false_iff_not, List.mem_map]
  rintro ⟨x, hx, rfl⟩
  rw [List.any_eq_true.2 ⟨x, hx, by simp⟩] at h; cases h
theorem Pbaa {k} (hk : Zk k) (d : DiskT) (hs : Small d) (i : Nat) (hi : i < d.2.2.2.1.length) :
  Par.b0 k (false, idsD d i, d.2.2.2.1, (d.2.2.2.1.length : Int), (i : Int), d) = if pD d i then some (.inl (false, idsD d (i + 1), d.2.2.2.1, (d.2.2.2.1.length : Int), ((i + 1 : Nat) : Int), d)) else some (.inr (.inr false)) := by
 have hl := hs.dir
 have e1 : decide ((i : Int) < (d.2.2.2.1.length : Int)) = true := by simp; omega
 have e2 : inb? d.2.2.2.1.length (i : Int) = some i := by rw [Zi, Zn]
 have hil : (idsD d i).length ≤ 1048576 := by unfold idsD; simp; omega
 have hsu : idsD d (i + 1) = idsD d i ++ [d.2.2.2.1[i].2] := by
  unfold idsD; rw [List.take_add_one, Zg hi, Option.toList_some, List.map_append]; rfl
 rw [hsu]
 unfold Par.b0 pD Par.c0
 dsimp only
 simp only [e1, Zy, e2, Zo, Zg hi, Pkq hk _ (hs.dirN _ (List.getElem_mem hi)), Prod.eta, Pqs hk d _ hs.ino, Ppl hk (idsD d i) _ (show (idsD d i).length ≤ 4194304 by omega), Pbcd]
 simp (disch := omega) only [Zv]
 obtain ⟨x, hx⟩ : ∃ x, d.2.2.2.1[i] = x := ⟨_, rfl⟩
 have hx? : d.2.2.2.1[i]? = some x := by rw [Zg hi, hx]
 rw [hx]
 have eH : decide (idxOf (fun y => decide (y.1 = x.2)) d.2.2.1 < 0) = !hasI d x.2 := by unfold hasI; rw [Bool.not_not]
 have ea : app? (limOf 8) (idsD d i) [x.2] = some (idsD d i ++ [x.2]) := Qrr (by unfold limOf; simp only [Zl, List.length_nil]; omega)
 rw [eH]
 by_cases h0 : i = 0
 ·subst h0
  have e3 : decide (0 < ((0 : Nat) : Int)) = false := by simp
  have eu : upD d.2.2.2.1 0 = true := rfl
  rw [e3, eu]
  cases nameB x.1 <;> cases hasI d x.2 <;> cases linkB (d.2.2.2.1.take 0) x.2 <;> simp [ea, show Zr 1 = 1 from rfl]
 ·have e3 : decide (0 < (i : Int)) = true := by simp; omega
  have ew : Zr ((i : Int) + 1) = i + 1 := Zw
  have e4 : inb? d.2.2.2.1.length ((i : Int) - 1) = some (i - 1) := by
   rw [Zi]; congr 1; omega
  have hi1 : i - 1 < d.2.2.2.1.length := by omega
  obtain ⟨y, hy⟩ : ∃ y, d.2.2.2.1[i - 1] = y := ⟨_, rfl⟩
  have hy? : d.2.2.2.1[i - 1]? = some y := by rw [Zg hi1, hy]
  have eu : upD d.2.2.2.1 i = strLt y.1 x.1 := by unfold upD; rw [hx?, hy?, Zf h0]; rfl
  rw [e3, eu]
  simp only [Zy, e4, Zo, hy?]
  cases nameB x.1 <;> cases hasI d x.2 <;> cases linkB (d.2.2.2.1.take i) x.2 <;> cases strLt y.1 x.1 <;> simp [ea, ew]
def idsM (d : DiskT) (i : Nat) : List Int := d.2.2.2.1.map (·.2) ++ makes (d.2.2.2.2.take i)
theorem Pbaz {k} (hk : Zk k) (d : DiskT) (hs : Small d) (hm : d.2.2.2.2.length ≤ 20) (i : Nat) (hi : i < d.2.2.2.2.length) :
  Par.b1 k (false, idsM d i, Pkn d.2.2.2.1 (d.2.2.2.2.take i), d.2.2.2.2, (d.2.2.2.2.length : Int), (i : Int), d) = if pMI d i then some (.inl (false, idsM d (i + 1), Pkn d.2.2.2.1 (d.2.2.2.2.take (i + 1)), d.2.2.2.2, (d.2.2.2.2.length : Int), ((i + 1 : Nat) : Int), d)) else some (.inr (.inr false)) := by
 have e1 : decide ((i : Int) < (d.2.2.2.2.length : Int)) = true := by simp; omega
 have e2 : inb? d.2.2.2.2.length (i : Int) = some i := by rw [Zi, Zn]
 have hll := Poy (d.2.2.2.2.take i) d.2.2.2.1
 rw [List.length_take] at hll
 have hml := Pbax (d.2.2.2.2.take i)
 rw [List.length_take] at hml
 have hdl := hs.dir
 have hil : (idsM d i).length ≤ 4194304 := by unfold idsM; simp only [List.length_append, List.length_map]; omega
 obtain ⟨n1, n2⟩ := hs.movN _ (List.getElem_mem hi)
 have hsu : idsM d (i + 1) = if d.2.2.2.2[i].1 = 1 then idsM d i ++ [d.2.2.2.2[i].2.2.2] else idsM d i := by
  unfold idsM; rw [Psu hi]; split <;> simp
 have eI : (d.2.2.2.1.map (·.2) ++ makes (d.2.2.2.2.take i)) = idsM d i := rfl
 unfold Par.b1 pMI
 rw [Pqu hi, hsu]
 rw [eI]
 obtain ⟨l, hl⟩ : ∃ l, Pkn d.2.2.2.1 (d.2.2.2.2.take i) = l := ⟨_, rfl⟩
 rw [hl] at hll ⊢
 obtain ⟨m, hm'⟩ : ∃ m, d.2.2.2.2[i] = m := ⟨_, rfl⟩
 have hm? : d.2.2.2.2[i]? = some m := by rw [Zg hi, hm']
 rw [hm'] at n1 n2 ⊢
 dsimp only
 simp only [e1, Zy, e2, Zo, hm?, Prod.eta, Puy hk l m (by omega) n2, Pkq hk _ n1, Pqs hk d _ hs.ino, Ppl hk (idsM d i) _ (show (idsM d i).length ≤ 4194304 by omega)]
 simp (disch := omega) only [Zv]
 have ea : app? (limOf 8) (idsM d i) [m.2.2.2] = some (idsM d i ++ [m.2.2.2]) := Qrr (by unfold limOf; simp only [Zl, List.length_nil]; omega)
 have eH : decide (idxOf (fun y => decide (y.1 = m.2.2.2)) d.2.2.1 < 0) = !hasI d m.2.2.2 := by unfold hasI; rw [Bool.not_not]
 rw [eH, ea]
 by_cases c : m.1 = 1 <;> cases (Plg l m).2 <;> cases nameB m.2.1 <;> cases hasI d m.2.2.2 <;> cases decide (m.2.2.2 ∈ idsM d i) <;> simp [c]
theorem Pma {k} (hk : Zk k) (d : DiskT) (hs : Small d) : Pbg.f k d = some (diskI d) := by
 unfold Pbg.f diskI
 simp only [Pdv, Zo, Prod.eta, Puz hk d hs]
 refine Plh fun h1 => Plh fun h2 => Pqi fun h3 => Pqi fun h4 => Pqi fun h5 => ?_
 simp only [Zd, Zq] at h2
 have hl := hs.ino
 have hdl := hs.dir
 have key := Qqt (B := Pbg.b0 k) d.2.2.1.length (fun i => (false, d.2.2.1, (d.2.2.1.length : Int), (i : Int), d)) (pI d) (.inl (false, d)) (.inr false) (fun i hi _ => Pbao hk d hs h2.1 h2.2 i hi) (fun _ => by
  have e1 : decide ((d.2.2.1.length : Int) < (d.2.2.1.length : Int)) = false := by simp
  unfold Pbg.b0
  dsimp only
  rw [e1]; rfl) k (by omega)
 have key1 := Qqt (B := Par.b0 k) d.2.2.2.1.length (fun i => (false, idsD d i, d.2.2.2.1, (d.2.2.2.1.length : Int), (i : Int), d)) (pD d) (.inl (false, idsM d 0, d)) (.inr false) (fun i hi _ => Pbaa hk d hs i hi) (fun _ => by
  have e1 : decide ((d.2.2.2.1.length : Int) < (d.2.2.2.1.length : Int)) = false := by simp
  unfold Par.b0
  dsimp only
  rw [e1]
  simp [idsD, idsM, makes]) k (by omega)
 have e0 : ((0 : Nat) : Int) = 0 := rfl
 simp only [e0] at key key1
 rw [key]
 cases (List.range d.2.2.1.length).all (pI d) with
 | false => rfl
 | true =>
  simp only [if_true, Zo, Bool.true_and]
  unfold Pbg.d0 Par.f
  simp only [Prod.eta]
  have ei : idsD d 0 = [] := rfl
  rw [ei] at key1
  rw [key1]
  cases hD : (List.range d.2.2.2.1.length).all (pD d) with
  | false => rfl
  | true =>
   -- names that rise are few
   simp only [if_true, Zo, Bool.true_and]
   unfold Par.d0 Pdb.f
   dsimp only
   rw [Qrr (by unfold limOf; simp only [List.length_nil]; omega)]
   simp only [Zo, List.nil_append, Prod.eta]
   ·have key2 := Qqt (B := Par.b1 k) d.2.2.2.2.length (fun i => (false, idsM d i, Pkn d.2.2.2.1 (d.2.2.2.2.take i), d.2.2.2.2, (d.2.2.2.2.length : Int), (i : Int), d)) (pMI d) (.inl (false, idsM d d.2.2.2.2.length, d)) (.inr false) (fun i hi _ => Pbaz hk d hs (by omega) i hi) (fun _ => by
     have e1 : decide ((d.2.2.2.2.length : Int) < (d.2.2.2.2.length : Int)) = false := by simp
     unfold Par.b1
     dsimp only
     rw [e1]; rfl) k (by omega)
    simp only [e0, List.take_zero] at key2
    have e7 : Pkn d.2.2.2.1 [] = d.2.2.2.1 := rfl
    rw [e7] at key2
    rw [key2]
    cases (List.range d.2.2.2.2.length).all (pMI d) with
    | false => rfl
    | true =>
     simp only [if_true, Zo, Bool.true_and]
     unfold Par.d1
     dsimp only
     unfold idsM
     rw [List.take_length]
     rfl
theorem Pnq : ∀ (x y : List UInt8), Op.bytesLess x y = decide (x < y)
 | [], [] => by simp [Op.bytesLess]
 | _ :: _, [] => by simp [Op.bytesLess]
 | [], _ :: _ => by simp [Op.bytesLess]
 | a :: x, b :: y => by
  rw [Op.bytesLess, Pnq x y]
  simp only [List.cons_lt_cons_iff]
  by_cases h1 : a < b <;> by_cases h2 : a = b <;> by_cases h3 : x < y <;> simp [h1, h2, h3]
theorem Poi (a b : Zb) : strLt a b = decide (a.toList < b.toList) := by
 unfold strLt; exact Pnq _ _
theorem Pbbt (a : Zb) : strLt a a = false := by
 rw [Poi]; simp [List.lt_irrefl]
theorem Pru {a b c : Zb} (h1 : strLt a b = true) (h2 : strLt b c = true) : strLt a c = true := by
 rw [Poi, Zq] at *
 exact List.lt_trans h1 h2
theorem baInj {a b : Zb} (h : a.toList = b.toList) : a = b :=
 of_decide_eq_true (by rw [← Qcp]; simp [h])
theorem Pwc {a b : Zb} (h : a ≠ b) : strLt a b = !strLt b a := by
 rw [Poi, Poi]
 by_cases c : a.toList < b.toList
 ·have : ¬ b.toList < a.toList := fun d => List.lt_irrefl _ (List.lt_trans c d)
  simp [c, this]
 ·by_cases c2 : b.toList < a.toList
  ·simp [c, c2]
  ·exact absurd (baInj (List.le_antisymm (List.not_lt.1 c2) (List.not_lt.1 c))) h
theorem Pnz {α : Type} [DecidableEq α] : ∀ {a b : List α}, a.Nodup → (∀ x ∈ a, x ∈ b) → a.length ≤ b.length
 | [], b, _, _ => by simp
 | x :: a, b, hn, hs => by
  obtain ⟨h1, h2⟩ := List.nodup_cons.1 hn
  have := Pnz (b := b.erase x) h2 fun y hy => (List.mem_erase_of_ne (fun (e : y = x) => h1 (e ▸ hy))).2 (hs y (by simp [hy]))
  have hx := hs x (by simp)
  rw [List.length_erase_of_mem hx] at this
  have := List.length_pos_of_mem hx
  simp only [Zl]
  omega
def Srt (l : List LinkT) : Prop := l.Pairwise fun x y => strLt x.1 y.1 = true
theorem Srt.ne {x y : LinkT} (h : strLt x.1 y.1 = true) : x.1 ≠ y.1 := fun e => by rw [e, Pbbt] at h; cases h
theorem Phi {l : List LinkT} {n : Zb} {y : LinkT} : y ∈ Pev l n ↔ y ∈ l ∧ y.1 ≠ n := by
 unfold Pev; simp [List.mem_filter]
theorem Ppy {l : List LinkT} {n : Zb} (h : ∀ y ∈ l, y.1 ≠ n) : Pev l n = l := by
 unfold Pev
 exact List.filter_eq_self.2 fun y hy => by simp [h y hy]
theorem Pzc {p q : LinkT → Bool} {x : LinkT} {l : List LinkT} (h : ∀ y ∈ l, p y = q y) : insM p x l = insM q x l := by
 unfold insM
 induction l with
 | nil => rfl
 | cons y l ih =>
  have hy := h y (by simp)
  simp only [List.takeWhile, List.dropWhile, hy]
  cases hq : q y with
  | true => simp
  | false =>
   have := ih fun z hz => h z (by simp [hz])
   simpa using this
theorem Pnt {l : List LinkT} {x : LinkT} (h : ∀ y ∈ l, y.1 ≠ x.1) : insM (fun y => strLt x.1 y.1) x l = linkI l x := by
 unfold linkI
 exact Pzc fun y hy => Pwc (fun e => h y hy e.symm)
theorem Pbco {p : LinkT → Bool} {x y : LinkT} {l : List LinkT} : y ∈ insM p x l ↔ y = x ∨ y ∈ l := by
 unfold insM
 have := List.takeWhile_append_dropWhile (p := fun y => !p y) (l := l)
 conv => rhs; rw [← this]
 simp only [List.mem_append, List.mem_cons]
 constructor
 ·rintro (h | h | h)
  ·exact .inr (.inl h)
  ·exact .inl h
  ·exact .inr (.inr h)
 ·rintro (h | h | h)
  ·exact .inr (.inl h)
  ·exact .inl h
  ·exact .inr (.inr h)
theorem Pqt {l : List LinkT} {x : LinkT} (hs : Srt l) (h : ∀ y ∈ l, y.1 ≠ x.1) : Srt (linkI l x) := by
 unfold linkI insM Srt
 have e := List.takeWhile_append_dropWhile (p := fun y : LinkT => !(fun y : LinkT => !strLt y.1 x.1) y) (l := l)
 simp only [Bool.not_not] at e ⊢
 obtain ⟨A, hA⟩ : ∃ A, l.takeWhile (fun y : LinkT => strLt y.1 x.1) = A := ⟨_, rfl⟩
 obtain ⟨B, hB⟩ : ∃ B, l.dropWhile (fun y : LinkT => strLt y.1 x.1) = B := ⟨_, rfl⟩
 have hAx : ∀ a ∈ A, strLt a.1 x.1 = true := fun a ha => by
  rw [← hA] at ha
  exact List.all_eq_true.1 (List.all_takeWhile (l := l) (p := fun y : LinkT => strLt y.1 x.1)) a ha
 have hBh : ∀ b B', B = b :: B' → strLt b.1 x.1 = false := fun b B' hb => by
  have := List.head?_dropWhile_not (p := fun y : LinkT => strLt y.1 x.1) (l := l)
  rw [hB, hb] at this
  simpa using this
 rw [hA, hB] at e ⊢
 unfold Srt at hs
 rw [← e, List.pairwise_append] at hs
 obtain ⟨h1, h2, h3⟩ := hs
 have hBx : ∀ b ∈ B, strLt x.1 b.1 = true := fun b hb => by
  cases B with
  | nil => simp at hb
  | cons b0 B' =>
   have h0 := hBh b0 B' rfl
   have hx0 : strLt x.1 b0.1 = true := by
    rw [Pwc (fun e' => h b0 (by rw [← e]; simp) e'.symm), h0]; rfl
   rcases List.mem_cons.1 hb with rfl | hb
   ·exact hx0
   ·exact Pru hx0 ((List.pairwise_cons.1 h2).1 b hb)
 refine List.pairwise_append.2 ⟨h1, List.pairwise_cons.2 ⟨hBx, h2⟩, fun a ha b hb => ?_⟩
 rcases List.mem_cons.1 hb with rfl | hb
 ·exact hAx a ha
 ·exact h3 a ha b hb
theorem Puk (l : List LinkT) (a b : Zb) : Pev (Pev l a) b = l.filter fun x => !(decide (x.1 = a) || decide (x.1 = b)) := by
 unfold Pev
 rw [List.filter_filter]
 exact List.filter_congr fun x _ => by cases decide (x.1 = a) <;> cases decide (x.1 = b) <;> rfl
theorem Pbdj {l : List LinkT} {n : Zb} : at? l n < 0 ↔ ∀ y ∈ l, y.1 ≠ n := by
 unfold at?
 rw [Qlb]
 exact ⟨fun h y hy => by simpa using h y hy, fun h y hy => by simpa using h y hy⟩
theorem Pbcb {l : List LinkT} {n : Zb} (hs : Srt l) (h : 0 ≤ at? l n) : Pev l n = l.take (at? l n).toNat ++ l.drop ((at? l n).toNat + 1) := by
 obtain ⟨i, hi, he, hp, hq⟩ := Qrg (p := fun x : LinkT => decide (x.1 = n)) (l := l) (by unfold at? at h; omega)
 have e : (at? l n).toNat = i := by unfold at?; rw [he]; simp
 rw [e]
 have hp : l[i].1 = n := of_decide_eq_true hp
 unfold Srt at hs
 have hl : l = l.take i ++ l[i] :: l.drop (i + 1) := by rw [← List.drop_eq_getElem_cons hi, List.take_append_drop]
 have hs' := hs
 rw [hl, List.pairwise_append] at hs'
 obtain ⟨h1, h2, h3⟩ := hs'
 conv => lhs; rw [hl]
 unfold Pev
 rw [List.filter_append, List.filter_cons]
 simp only [hp, decide_true, Zx, Bool.false_eq_true, if_false]
 congr 1
 ·refine List.filter_eq_self.2 fun y hy => ?_
  have := Srt.ne (h3 y hy l[i] List.mem_cons_self)
  rw [hp] at this
  simp [this]
 ·refine List.filter_eq_self.2 fun y hy => ?_
  have := Srt.ne ((List.pairwise_cons.1 h2).1 y hy)
  rw [hp] at this
  simp [Ne.symm this]
theorem Psg {l : List LinkT} {m : MoveT} (hs : Srt l) (hn : nameB m.2.1 = true) : Plg l m = Pen l m := by
 unfold Plg Pen
 rw [if_neg (show ¬ nameB m.2.1 = false by rw [hn]; simp)]
 by_cases c1 : m.1 = 1 ∧ m.2.2.1 = ⟨#[]⟩ ∧ at? l m.2.1 < 0
 ·rw [if_pos c1, if_pos c1]
  have hne := Pbdj.1 c1.2.2
  unfold withS
  rw [Ppy hne, Pnt hne]
 ·rw [if_neg c1, if_neg c1]
  by_cases c2 : m.1 = 2 ∧ m.2.2.2 = 0 ∧ 0 ≤ at? l m.2.1 ∧ m.2.2.1 ≠ m.2.1 ∧ nameB m.2.2.1 = true
  ·rw [if_pos c2, if_pos ⟨c2.1, c2.2.1, c2.2.2.1, c2.2.2.2.2, c2.2.2.2.1⟩]
   unfold withS
   rw [Puk, Pnt]
   intro y hy
   have := (List.mem_filter.1 hy).2
   intro e
   simp only at e
   rw [e] at this; simp at this
  ·rw [if_neg c2, if_neg (show ¬ (m.1 = 2 ∧ m.2.2.2 = 0 ∧ 0 ≤ at? l m.2.1 ∧ nameB m.2.2.1 = true ∧ m.2.2.1 ≠ m.2.1) from fun c => c2 ⟨c.1, c.2.1, c.2.2.1, c.2.2.2.2, c.2.2.2.1⟩)]
   by_cases c3 : m.1 = 3 ∧ m.2.2.1 = ⟨#[]⟩ ∧ m.2.2.2 = 0 ∧ 0 ≤ at? l m.2.1
   ·rw [if_pos c3, if_pos ⟨c3.1, c3.2.2.1, c3.2.1, c3.2.2.2⟩, Pbcb hs c3.2.2.2]
   ·rw [if_neg c3, if_neg (show ¬ (m.1 = 3 ∧ m.2.2.2 = 0 ∧ m.2.2.1 = ⟨#[]⟩ ∧ 0 ≤ at? l m.2.1) from fun c => c3 ⟨c.1, c.2.2.1, c.2.1, c.2.2.2⟩)]
theorem Plz {l : List LinkT} {n : Zb} (hs : Srt l) : Srt (Pev l n) := hs.filter _
theorem Pzt {l : List LinkT} {m : MoveT} (hs : Srt l) : Srt (Pen l m).1 := by
 unfold Pen
 split
 ·exact hs
 ·split
  ·unfold withS
   rw [Pnt fun y hy => (Phi.1 hy).2]
   exact Pqt (Plz hs) fun y hy => (Phi.1 hy).2
  ·split
   ·unfold withS
    rw [Pnt fun y hy => (Phi.1 hy).2]
    exact Pqt (Plz (Plz hs)) fun y hy => (Phi.1 hy).2
   ·split
    ·exact Plz hs
    ·exact hs
theorem Pon {l : List LinkT} {m : MoveT} (h : (Pen l m).2 = true) : nameB m.2.1 = true := by
 unfold Pen at h
 split at h
 ·cases h
 ·rename_i hn; simpa using hn
theorem Pbdt {l : List LinkT} (h : ∀ i, i < l.length → upD l i = true) : Srt l := by
 unfold Srt
 rw [List.pairwise_iff_getElem]
 have step : ∀ i, ∀ hi : i + 1 < l.length, strLt l[i].1 l[i + 1].1 = true := fun i hi => by
  have := h (i + 1) hi
  unfold upD at this
  rw [show i + 1 - 1 = i by omega, Zg hi, Zg (show i < l.length by omega)] at this
  simpa using this
 intro i j hi hj hij
 induction j with
 | zero => omega
 | succ j ih =>
  by_cases e : i = j
  ·subst e; exact step i hj
  ·exact Pru (ih (by omega) (by omega)) (step j hj)
theorem Ptf {n : Nat} {p q : Nat → Bool} (h : ∀ i, i < n → (∀ j, j < i → p j = true) → p i = q i) : (List.range n).all p = (List.range n).all q := by
 by_cases hp : ∀ i, i < n → p i = true
 ·have hq : ∀ i, i < n → q i = true := fun i hi => by rw [← h i hi fun j hj => hp j (by omega)]; exact hp i hi
  rw [Pci.2 hp, Pci.2 hq]
 ·have e1 : (List.range n).all p = false := by
   cases c : (List.range n).all p with
   | false => rfl
   | true => exact absurd (Pci.1 c) hp
  rw [e1]
  cases c : (List.range n).all q with
  | false => rfl
  | true =>
   exfalso
   have hq := Pci.1 c
   refine hp fun i => ?_
   induction i using Nat.strongRecOn with
   | _ i ih =>
    intro hi
    rw [h i hi fun j hj => ih j hj (by omega)]
    exact hq i hi
theorem Pms {d : DiskT} (hd : (List.range d.2.2.2.1.length).all (pD d) = true) : ∀ i, i ≤ d.2.2.2.2.length → (∀ j, j < i → pMS d j = true) → Pkn d.2.2.2.1 (d.2.2.2.2.take i) = Pfu d.2.2.2.1 (d.2.2.2.2.take i) ∧ Srt (Pfu d.2.2.2.1 (d.2.2.2.2.take i))
 | 0, _, _ => by
  refine ⟨by simp [Pkn, Pfu], ?_⟩
  simp only [List.take_zero, Pfu, List.foldl_nil]
  refine Pbdt fun i hi => ?_
  have := Pci.1 hd i hi
  unfold pD at this
  rw [Zg hi] at this
  simp only [Zd] at this
  exact this.2.1
 | i + 1, hi, hp => by
  obtain ⟨h1, h2⟩ := Pms hd i (by omega) fun j hj => hp j (by omega)
  have hm := hp i (by omega)
  unfold pMS at hm
  have hi' : i < d.2.2.2.2.length := by omega
  rw [Zg hi'] at hm
  simp only [Zd] at hm
  rw [Pqu hi', Pnm hi', h1]
  exact ⟨by rw [Psg h2 (Pon hm.2)], Pzt h2⟩
theorem Pvk {ms : List MoveT} {n : Int} : decide (n ∈ makes ms) = madeB ms n := by
 unfold makes madeB
 cases h : ms.any fun x => decide (x.1 = 1) && decide (x.2.2.2 = n) with
 | true =>
  obtain ⟨x, hx, hp⟩ := List.any_eq_true.1 h
  simp only [Zd, Zq] at hp
  rw [Zq, List.mem_map]
  exact ⟨x, List.mem_filter.2 ⟨hx, by simp [hp.1]⟩, hp.2⟩
 | false =>
  rw [decide_eq_false_iff_not, List.mem_map]
  rintro ⟨x, hx, rfl⟩
  obtain ⟨h1, h2⟩ := List.mem_filter.1 hx
  rw [List.any_eq_true.2 ⟨x, h1, by simpa using h2⟩] at h; cases h
theorem Ppd {l : List LinkT} {n : Int} : decide (n ∈ l.map (·.2)) = linkB l n := by
 unfold linkB
 cases h : l.any fun x => decide (x.2 = n) with
 | true =>
  obtain ⟨x, hx, hp⟩ := List.any_eq_true.1 h
  rw [Zq, List.mem_map]
  exact ⟨x, hx, of_decide_eq_true hp⟩
 | false =>
  rw [decide_eq_false_iff_not, List.mem_map]
  rintro ⟨x, hx, rfl⟩
  rw [List.any_eq_true.2 ⟨x, hx, by simp⟩] at h; cases h
theorem Pqy {l : List LinkT} {ms : List MoveT} {n : Int} : decide (n ∈ l.map (·.2) ++ makes ms) = (linkB l n || madeB ms n) := by
 rw [← Ppd, ← Pvk]
 by_cases h1 : n ∈ l.map (·.2) <;> by_cases h2 : n ∈ makes ms <;> simp [h1, h2]
theorem Psv {d : DiskT} (hd : (List.range d.2.2.2.1.length).all (pD d) = true) : (List.range d.2.2.2.2.length).all (pMS d) = (List.range d.2.2.2.2.length).all (pMI d) := by
 refine Ptf fun i hi hp => ?_
 obtain ⟨h1, h2⟩ := Pms hd i (by omega) hp
 unfold pMS pMI
 rw [Zg hi]
 simp only
 obtain ⟨m, hm⟩ : ∃ m, d.2.2.2.2[i] = m := ⟨_, rfl⟩
 rw [hm, Pqy, h1]
 cases hn : nameB m.2.1 with
 | false =>
  have : (Pen (Pfu d.2.2.2.1 (d.2.2.2.2.take i)) m).2 = false := by unfold Pen; rw [if_pos hn]
  rw [this]; simp
 | true =>
  rw [Psg h2 hn]
  cases (Pen (Pfu d.2.2.2.1 (d.2.2.2.2.take i)) m).2 <;> cases decide (m.1 = 1) <;> cases hasI d m.2.2.2 <;> cases linkB d.2.2.2.1 m.2.2.2 <;> cases madeB (d.2.2.2.2.take i) m.2.2.2 <;> rfl
theorem Ptp {d : DiskT} {n : Int} : hasI d n = true ↔ n ∈ d.2.2.1.map (·.1) := by
 unfold hasI
 have := Qrm (fun x : Pfl => decide (x.1 = n)) d.2.2.1
 rw [← this, List.any_eq_true, List.mem_map]
 exact ⟨fun ⟨x, hx, hp⟩ => ⟨x, hx, of_decide_eq_true hp⟩, fun ⟨x, hx, hp⟩ => ⟨x, hx, Zt hp⟩⟩
theorem Pbap {d : DiskT} (h : (List.range d.2.2.1.length).all (pI d) = true) : (d.2.2.1.map (·.1)).Nodup := by
 have step : ∀ i, ∀ hi : i + 1 < d.2.2.1.length, d.2.2.1[i].1 < d.2.2.1[i + 1].1 := fun i hi => by
  have := Pci.1 h (i + 1) hi
  unfold pI upI at this
  rw [show i + 1 - 1 = i by omega, Zg hi, Zg (show i < d.2.2.1.length by omega)] at this
  simp only [Zd] at this
  simpa using this.2.2
 have lt : ∀ i j, ∀ hi : i < d.2.2.1.length, ∀ hj : j < d.2.2.1.length, i < j → d.2.2.1[i].1 < d.2.2.1[j].1 := by
  intro i j hi hj hij
  induction j with
  | zero => omega
  | succ j ih =>
   by_cases e : i = j
   ·subst e; exact step i hj
   ·exact Int.lt_trans (ih (by omega) (by omega)) (step j hj)
 rw [List.Nodup, List.pairwise_map, List.pairwise_iff_getElem]
 intro i j hi hj hij
 have := lt i j hi hj hij
 omega
theorem Pux {d : DiskT} (hd : (List.range d.2.2.2.1.length).all (pD d) = true) (hm : (List.range d.2.2.2.2.length).all (pMI d) = true) :
  (d.2.2.2.1.map (·.2) ++ makes d.2.2.2.2).Nodup ∧ ∀ n ∈ d.2.2.2.1.map (·.2) ++ makes d.2.2.2.2, n ∈ d.2.2.1.map (·.1) := by
 have h1 : ∀ i, i ≤ d.2.2.2.1.length → ((d.2.2.2.1.take i).map (·.2)).Nodup ∧ ∀ n ∈ (d.2.2.2.1.take i).map (·.2), n ∈ d.2.2.1.map (·.1) := by
  intro i
  induction i with
  | zero => intro _; simp
  | succ i ih =>
   intro hi
   obtain ⟨i1, i2⟩ := ih (by omega)
   have hi' : i < d.2.2.2.1.length := by omega
   have := Pci.1 hd i hi'
   unfold pD at this
   rw [Zg hi'] at this
   simp only [Zd, Bool.not_eq_true', ← Ppd, decide_eq_false_iff_not] at this
   obtain ⟨_, _, h3, h4⟩ := this
   rw [List.take_add_one, Zg hi', Option.toList_some, List.map_append]
   simp only [List.map_cons, List.map_nil]
   refine ⟨List.nodup_append.2 ⟨i1, by simp, fun a ha b hb => ?_⟩, fun n hn => ?_⟩
   ·simp only [List.mem_singleton] at hb
    subst hb
    exact fun e => h4 (e ▸ ha)
   ·rcases List.mem_append.1 hn with hn | hn
    ·exact i2 n hn
    ·simp only [List.mem_singleton] at hn
     subst hn
     exact Ptp.1 h3
 have h2 : ∀ i, i ≤ d.2.2.2.2.length → (d.2.2.2.1.map (·.2) ++ makes (d.2.2.2.2.take i)).Nodup ∧ ∀ n ∈ d.2.2.2.1.map (·.2) ++ makes (d.2.2.2.2.take i), n ∈ d.2.2.1.map (·.1) := by
  intro i
  induction i with
  | zero =>
   intro _
   have := h1 _ (Nat.le_refl _)
   rw [List.take_length] at this
   simpa [makes] using this
  | succ i ih =>
   intro hi
   obtain ⟨i1, i2⟩ := ih (by omega)
   have hi' : i < d.2.2.2.2.length := by omega
   rw [Psu hi']
   split
   ·rename_i hk
    have := Pci.1 hm i hi'
    unfold pMI at this
    rw [Zg hi'] at this
    simp only [Zd, Bool.or_eq_true, Bool.not_eq_true', decide_eq_false_iff_not] at this
    obtain ⟨_, _, h5⟩ := this
    obtain ⟨h3, h4⟩ := h5.resolve_left (fun c => c hk)
    rw [← List.append_assoc]
    refine ⟨List.nodup_append.2 ⟨i1, by simp, fun a ha b hb => ?_⟩, fun n hn => ?_⟩
    ·simp only [List.mem_singleton] at hb
     subst hb
     exact fun e => h4 (e ▸ ha)
    ·rcases List.mem_append.1 hn with hn | hn
     ·exact i2 n hn
     ·simp only [List.mem_singleton] at hn
      subst hn
      exact Ptp.1 h3
   ·exact ⟨i1, i2⟩
 have := h2 _ (Nat.le_refl _)
 rwa [List.take_length] at this
theorem Psx {d : DiskT} {i : Nat} (hi : i < d.2.2.1.length) : pIS d i = (pI d i && (linkB d.2.2.2.1 d.2.2.1[i].1 || madeB d.2.2.2.2 d.2.2.1[i].1)) := by
 unfold pIS pI
 rw [Zg hi]
 simp only [Bool.and_assoc]
theorem Pgr (d : DiskT) : diskS d = diskI d := by
 unfold diskS diskI
 cases rg d.1 0 1048576 with
 | false => rfl
 | true =>
 cases rg d.2.1 1 1000000 with
 | false => rfl
 | true =>
 by_cases c1 : (d.2.2.1.length : Int) ≤ 10
 case neg => simp [c1]
 by_cases c2 : (d.2.2.2.2.length : Int) ≤ 20
 case neg => simp [c2]
 by_cases c3 : Pli d.2.2.1 ≤ d.1
 case neg => simp [c3]
 simp only [c1, c2, c3, decide_true, Bool.true_and]
 cases hD : (List.range d.2.2.2.1.length).all (pD d) with
 | false => simp
 | true =>
 rw [Psv hD]
 cases hM : (List.range d.2.2.2.2.length).all (pMI d) with
 | false => simp
 | true =>
 simp only [Bool.and_true, Bool.true_and]
 obtain ⟨n1, n2⟩ := Pux hD hM
 cases hI : (List.range d.2.2.1.length).all (pI d) with
 | false =>
  have : (List.range d.2.2.1.length).all (pIS d) = false := by
   cases c : (List.range d.2.2.1.length).all (pIS d) with
   | false => rfl
   | true =>
    have : (List.range d.2.2.1.length).all (pI d) = true := Pci.2 fun i hi => by
     have := Pci.1 c i hi
     rw [Psx hi, Zd] at this
     exact this.1
    rw [hI] at this; cases this
  rw [this]; simp
 | true =>
  have n3 := Pbap hI
  have hle := Pnz n1 n2
  have hdir : (d.2.2.2.1.length : Int) ≤ 10 := by
   simp only [List.length_append, List.length_map] at hle
   omega
  rw [Zt hdir]
  simp only [Bool.true_and]
  by_cases hall : ∀ n ∈ d.2.2.1.map (·.1), n ∈ d.2.2.2.1.map (·.2) ++ makes d.2.2.2.2
  ·have hge := Pnz n3 hall
   rw [List.length_map] at hge hle
   rw [Zt (by omega)]
   refine Pci.2 fun i hi => ?_
   rw [Psx hi, Pci.1 hI i hi, Bool.true_and, ← Pqy, Zq]
   exact hall _ (List.mem_map.2 ⟨_, List.getElem_mem hi, rfl⟩)
  ·have hx : ∃ n ∈ d.2.2.1.map (·.1), n ∉ d.2.2.2.1.map (·.2) ++ makes d.2.2.2.2 := by
    apply Classical.byContradiction
    intro hc
    exact hall fun n hn => Classical.byContradiction fun h => hc ⟨n, hn, h⟩
   obtain ⟨n, hn, hnn⟩ := hx
   have hlt := Pnz (a := n :: (d.2.2.2.1.map (·.2) ++ makes d.2.2.2.2)) (b := d.2.2.1.map (·.1)) (List.nodup_cons.2 ⟨hnn, n1⟩) (fun y hy => by
    rcases List.mem_cons.1 hy with rfl | hy
    ·exact hn
    ·exact n2 y hy)
   rw [Zl, List.length_map] at hlt
   rw [Zf (by omega)]
   cases c : (List.range d.2.2.1.length).all (pIS d) with
   | false => rfl
   | true =>
    exfalso
    obtain ⟨x, hx, rfl⟩ := List.mem_map.1 hn
    obtain ⟨i, hi, rfl⟩ := List.getElem_of_mem hx
    have := Pci.1 c i hi
    rw [Psx hi, Zd, ← Pqy, Zq] at this
    exact hnn this.2
end
section
structure Right (d : DiskT) : Prop where
 small : Small d
 ok : diskS d = true
theorem Right.ok' {d : DiskT} (h : Right d) : diskI d = true := by rw [← Pgr]; exact h.ok
theorem Right.parts {d : DiskT} (h : Right d) : 0 ≤ d.1 ∧ d.1 ≤ 1048576 ∧ 1 ≤ d.2.1 ∧ d.2.1 ≤ 1000000 ∧ d.2.2.1.length ≤ 10 ∧ d.2.2.2.2.length ≤ 20 ∧ d.2.2.2.1.length ≤ 10 ∧ Pli d.2.2.1 ≤ d.1 ∧
  (List.range d.2.2.1.length).all (pIS d) = true ∧ (List.range d.2.2.2.1.length).all (pD d) = true ∧ (List.range d.2.2.2.2.length).all (pMS d) = true := by
 have := h.ok
 unfold diskS rg at this
 simp only [Zd, Zq] at this
 obtain ⟨h1, h2, h3, h4, h5, h6, h7, h8, h9⟩ := this
 exact ⟨h1.1, h1.2, h2.1, h2.2, by omega, by omega, by omega, h6, h7, h8, h9⟩
theorem Right.links {d : DiskT} (h : Right d) (n : Nat) : Pkn d.2.2.2.1 (d.2.2.2.2.take n) = Pfu d.2.2.2.1 (d.2.2.2.2.take n) ∧ Srt (Pfu d.2.2.2.1 (d.2.2.2.2.take n)) := by
 obtain ⟨_, _, _, _, _, _, _, _, _, h8, h9⟩ := h.parts
 by_cases hn : n ≤ d.2.2.2.2.length
 ·exact Pms h8 n hn fun j hj => Pci.1 h9 j (by omega)
 ·rw [List.take_of_length_le (show d.2.2.2.2.length ≤ n by omega)]
  have := Pms h8 d.2.2.2.2.length (Nat.le_refl _) fun j hj => Pci.1 h9 j hj
  rwa [List.take_length] at this
def Pje (d : DiskT) (n : Nat) : List LinkT := Pfu d.2.2.2.1 (d.2.2.2.2.take n)
theorem Pzf (d : DiskT) (n : Nat) : (Pje d n).length ≤ d.2.2.2.1.length + d.2.2.2.2.length := by
 unfold Pje
 have := Pmr (d.2.2.2.2.take n) d.2.2.2.1
 rw [List.length_take] at this
 omega
theorem Pqq (dir : List LinkT) (ms : List MoveT) : ms.foldl (fun l m => (Pen l m).1) dir = Pfu dir ms := rfl
theorem Puw (dir : List LinkT) (ms : List MoveT) : ms.foldl (fun l m => (Plg l m).1) dir = Pkn dir ms := rfl
theorem Pbbj {k} (hk : Zk k) {d : DiskT} (hs : Small d) (n : Int) : Pdq.f k d n = some (Pje d n.toNat) := by
 have hd := hs.dir
 have hm := hs.mov
 unfold Pdq.f
 rw [Qrr (by unfold limOf; simp only [List.length_nil]; omega)]
 simp only [Zo, List.nil_append, Prod.eta]
 obtain ⟨ms, hms⟩ : ∃ ms, d.2.2.2.2.take n.toNat = ms := ⟨_, rfl⟩
 have hl : ms.length = min n.toNat d.2.2.2.2.length := by rw [← hms, List.length_take]
 have hat : ∀ i (hi : i < ms.length), d.2.2.2.2[i]? = some ms[i] := fun i hi => by
  rw [← Zg hi, ← hms, List.getElem?_take, if_pos (by omega)]
 have key := Qqp (B := Pdq.b0 k) ms (fun i a => (n, [], a, (i : Int), d)) (fun l m => (Pen l m).1) (fun a => .inl ([], a)) d.2.2.2.1 (fun i hi => by
  have e1 : decide ((i : Int) < n) = true := by simp; omega
  have e2 : decide ((i : Int) < (d.2.2.2.2.length : Int)) = true := by simp; omega
  have e3 : inb? d.2.2.2.2.length (i : Int) = some i := by rw [Zi, Zn]
  have hll := Pmr (ms.take i) d.2.2.2.1
  rw [List.length_take] at hll
  obtain ⟨n1, n2⟩ := hs.movN ms[i] (List.mem_of_getElem? (hat i hi))
  simp only [Pqq]
  unfold Pdq.b0
  dsimp only
  simp only [e1, e2, Zy, e3, Zo, hat i hi, Prod.eta]
  rw [Pvx hk _ _ (by omega) n1 n2]
  simp only [Zo]
  rw [Zw]
  rfl) (by
  unfold Pdq.b0
  dsimp only
  by_cases c : (ms.length : Int) < n
  ·have e1 : decide ((ms.length : Int) < n) = true := Zt c
   have e2 : decide ((ms.length : Int) < (d.2.2.2.2.length : Int)) = false := by simp; omega
   rw [e1, e2]; rfl
  ·have e1 : decide ((ms.length : Int) < n) = false := Zf c
   rw [e1]; rfl) k (by omega)
 have e0 : ((0 : Nat) : Int) = 0 := rfl
 simp only [e0] at key
 rw [key]
 simp only [Zo, Pqq]
 rw [← hms]
 rfl
theorem Pbad {k} (hk : Zk k) {d : DiskT} (hr : Right d) (n : Int) (h0 : 0 ≤ n) (h1 : n ≤ d.2.2.2.2.length) : Pcu.f k d n = some (Pje d n.toNat) := by
 have hd := hr.small.dir
 have hm := hr.small.mov
 have hL := (hr.links n.toNat).1
 unfold Pcu.f Pdb.f
 rw [Qrr (by unfold limOf; simp only [List.length_nil]; omega)]
 simp only [Zo, List.nil_append]
 rw [Zc]
 simp only [Zo, Int.toNat_zero, List.drop_zero]
 unfold Pje
 rw [← hL]
 obtain ⟨ms, hms⟩ : ∃ ms, d.2.2.2.2.take n.toNat = ms := ⟨_, rfl⟩
 have hl : ms.length = min n.toNat d.2.2.2.2.length := by rw [← hms, List.length_take]
 rw [hms]
 have key := Qqp (B := Pcu.b0 k) ms (fun i a => ([], a, ms, (ms.length : Int), (i : Int))) (fun l m => (Plg l m).1) (fun a => .inl ([], a)) d.2.2.2.1 (fun i hi => by
  have e1 : decide ((i : Int) < (ms.length : Int)) = true := by simp; omega
  have e3 : inb? ms.length (i : Int) = some i := by rw [Zi, Zn]
  have hll := Poy (ms.take i) d.2.2.2.1
  rw [List.length_take] at hll
  obtain ⟨n1, n2⟩ := hr.small.movN ms[i] (List.mem_of_mem_take (by rw [hms]; exact List.getElem_mem hi))
  simp only [Puw]
  unfold Pcu.b0
  dsimp only
  simp only [e1, Zy, e3, Zo, Zg hi, Prod.eta]
  rw [Puy hk _ _ (by omega) n2]
  simp only [Zo]
  rw [Zw]
  rfl) (by
  have e1 : decide ((ms.length : Int) < (ms.length : Int)) = false := by simp
  unfold Pcu.b0
  dsimp only
  rw [e1]; rfl) k (by omega)
 have e0 : ((0 : Nat) : Int) = 0 := rfl
 simp only [e0] at key
 rw [key]
 rfl
def nowM (d : DiskT) : List LinkT := Pje d d.2.2.2.2.length
theorem Pxk {k} (hk : Zk k) {d : DiskT} (hs : Small d) : Pdq.f k d (d.2.2.2.2.length : Int) = some (nowM d) := Pbbj hk hs _
theorem Pbae {k} (hk : Zk k) {d : DiskT} (hr : Right d) : Pfy.f k d = some (nowM d) := by
 unfold Pfy.f
 try simp only [Prod.eta]
 rw [Pbad hk hr _ (by omega) (by omega)]
 rfl
def fileM (d : DiskT) (n : Zb) : Int := bif decide (at? (nowM d) n < 0) then -1 else idxOf (fun x => decide (x.1 = idAt (nowM d) n)) d.2.2.1
theorem Pbcc (d : DiskT) (n : Zb) : -1 ≤ fileM d n ∧ fileM d n < d.2.2.1.length := by
 unfold fileM
 have := Qrh (fun x : Pfl => decide (x.1 = idAt (nowM d) n)) d.2.2.1
 cases decide (at? (nowM d) n < 0) with
 | true => simp only [Zy]; omega
 | false => simpa using this
theorem Pqf {d : DiskT} (hs : Small d) : (nowM d).length ≤ 4194304 := by
 have := Pzf d d.2.2.2.2.length
 have := hs.dir
 have := hs.mov
 unfold nowM
 omega
theorem Pjf {k} (hk : Zk k) {d : DiskT} (hs : Small d) (n : Zb) : Peu.f k d n = some (fileM d n) := by
 unfold Peu.f fileM
 simp only [Prod.eta, Pxk hk hs, Zo, Pbds hk _ n (Pqf hs)]
 have hat : idxOf (fun x => decide (x.1 = n)) (nowM d) = at? (nowM d) n := rfl
 rw [hat]
 by_cases c : at? (nowM d) n < 0
 ·rw [Zt c]; rfl
 ·obtain ⟨e1, x, e2, e3⟩ := Pqd (l := nowM d) (n := n) (by omega)
  rw [Zf c]
  simp only [Zz, e1, e2, Zo, Prj hk d _ hs.ino, e3]
theorem Pkp {k} (hk : Zk k) {d : DiskT} (hr : Right d) (n : Zb) : Pbc.f k d n = some (fileM d n) := by
 unfold Pbc.f fileM
 simp only [Prod.eta, Pbae hk hr, Zo, Pbdm hk _ n (Pqf hr.small)]
 have hat : idxOf (fun x => decide (x.1 = n)) (nowM d) = at? (nowM d) n := rfl
 rw [hat]
 by_cases c : at? (nowM d) n < 0
 ·rw [Zt c]; rfl
 ·obtain ⟨e1, x, e2, e3⟩ := Pqd (l := nowM d) (n := n) (by omega)
  rw [Zf c]
  simp only [Zz, e1, e2, Zo, Pqs hk d _ hr.small.ino, e3]
def Fits (d : DiskT) : Prop := d.2.2.1.length ≤ 4194304 ∧ d.2.2.2.1.length ≤ 4194304 ∧ d.2.2.2.2.length ≤ 4194304
theorem Small.fits {d : DiskT} (h : Small d) : Fits d := ⟨by have := h.ino; omega, by have := h.dir; omega, by have := h.mov; omega⟩
theorem Ped {k : Nat} {d : DiskT} (hs : Small d) : Pck.f k d = some d := by
 have h1 := hs.ino; have h2 := hs.dir; have h3 := hs.mov
 unfold Pck.f
 rw [Qrr (by unfold limOf; simp only [List.length_nil]; omega), Qrr (by unfold limOf; simp only [List.length_nil]; omega), Qrr (by unfold limOf; simp only [List.length_nil]; omega)]
 rfl
theorem Plv {k : Nat} {d : DiskT} (hs : Small d) : Pcl.f k d = some d := by
 have h1 := hs.ino; have h2 := hs.dir; have h3 := hs.mov
 unfold Pcl.f Pdb.f
 rw [Qrr (by unfold limOf; simp only [List.length_nil]; omega), Qrr (by unfold limOf; simp only [List.length_nil]; omega), Qrr (by unfold limOf; simp only [List.length_nil]; omega)]
 rfl
theorem Pmn (l : List Pfl) : Pli l = amtI l := by unfold Pli; rw [Pmo]; simp
theorem Pth {l : List Pfl} {x : Pfl} (h : x ∈ l) : x.2.1.size ≤ amtI l := by
 obtain ⟨i, hi, rfl⟩ := List.getElem_of_mem h
 have := Pwi hi
 omega
theorem Pop {d : DiskT} {n : Zb} (h : ¬ fileM d n < 0) : inb? d.2.2.1.length (fileM d n) = some (fileM d n).toNat ∧ ∃ x, d.2.2.1[(fileM d n).toNat]? = some x ∧ x ∈ d.2.2.1 := by
 obtain ⟨h1, h2⟩ := Pbcc d n
 have hlt : (fileM d n).toNat < d.2.2.1.length := by omega
 exact ⟨Qqx (by omega) h2, _, Zg hlt, List.getElem_mem hlt⟩
theorem fits0 : Fits (0, 0, [], [], []) := ⟨Nat.zero_le _, Nat.zero_le _, Nat.zero_le _⟩
theorem Pbaw {k} (hk : Zk k) {d : DiskT} (hs : Small d) (n : Zb) : ∃ r, Pfc.f k d n = some r ∧ Pkz.f k d n = some r ∧ r.1.size ≤ 1048576 := by
 unfold Pfc.f Pkz.f
 simp only [Prod.eta, Pgj hk d hs, Pma hk d hs, ← Pgr, Zo]
 cases hd : diskS d with
 | false => exact ⟨_, rfl, rfl, Nat.zero_le _⟩
 | true =>
  have hr : Right d := ⟨hs, hd⟩
  simp only [Zx, Zz, Pjf hk hs, Pkp hk hr, Zo]
  by_cases c : fileM d n < 0
  ·rw [Zt c]; exact ⟨_, rfl, rfl, Nat.zero_le _⟩
  ·obtain ⟨e1, x, e2, e3⟩ := Pop c
   rw [Zf c]
   simp only [Zz, e1, e2, Zo]
   exact ⟨_, rfl, rfl, by have := Pth e3; have := hs.amt; simp only; omega⟩
theorem eqd (a b : Int) (h : a ≤ b) : decide (a = b) = decide (b ≤ a) := by
 by_cases c : b ≤ a
 ·have : a = b := by omega
  simp [this]
 ·have : ¬ a = b := by omega
  simp [c, this]
theorem Pbef {k} (hk : Zk k) {d : DiskT} (hs : Small d) (n : Zb) (hn : n.size ≤ 1048576) : ∃ r, Pjh.f k d n = some r ∧ Pll.f k d n = some r ∧ Fits r.1 := by
 unfold Pjh.f Pll.f
 simp only [Prod.eta, Pgj hk d hs, Pma hk d hs, ← Pgr, Zo]
 have hf := hs.fits
 cases hd : diskS d with
 | false => exact ⟨_, rfl, rfl, fits0⟩
 | true =>
  have hr : Right d := ⟨hs, hd⟩
  obtain ⟨_, _, p3, p4, p5, p6, p7, _⟩ := hr.parts
  simp only [Zx, Zz, Pjf hk hs, Pkp hk hr, Zo, Ped hs, Plv hs, Pkb hk n hn, Pkq hk n hn, Prod.eta]
  rw [eqd (d.2.2.1.length : Int) 10 (by omega), eqd (d.2.2.2.2.length : Int) 20 (by omega), eqd d.2.1 1000000 p4]
  rw [Qrr (by unfold limOf; simp only [Zl, List.length_nil]; omega), Qrr (by unfold limOf; simp only [Zl, List.length_nil]; omega)]
  simp only [Zo]
  cases nameB n with
  | false => exact ⟨_, rfl, rfl, hf⟩
  | true =>
  cases decide (0 ≤ fileM d n) with
  | true => exact ⟨_, rfl, rfl, hf⟩
  | false =>
  cases decide (10 ≤ (d.2.2.1.length : Int)) with
  | true => exact ⟨_, rfl, rfl, hf⟩
  | false =>
  cases decide (20 ≤ (d.2.2.2.2.length : Int)) with
  | true => exact ⟨_, rfl, rfl, hf⟩
  | false =>
  cases decide (1000000 ≤ d.2.1) with
  | true => exact ⟨_, rfl, rfl, hf⟩
  | false => exact ⟨_, rfl, rfl, by unfold Fits; simp only [List.length_append, Zl, List.length_nil]; omega⟩
theorem Pbei {k} (hk : Zk k) {d : DiskT} (hs : Small d) (n : Zb) (hn : n.size ≤ 1048576) : ∃ r, Pjj.f k d n = some r ∧ Plm.f k d n = some r ∧ Fits r.1 := by
 unfold Pjj.f Plm.f Pea.f
 simp only [Prod.eta, Pgj hk d hs, Pma hk d hs, ← Pgr, Zo]
 have hf := hs.fits
 cases hd : diskS d with
 | false => exact ⟨_, rfl, rfl, fits0⟩
 | true =>
  have hr : Right d := ⟨hs, hd⟩
  simp only [Zx, Zz, Pjf hk hs, Pkp hk hr, Zo, Ped hs, Plv hs, Pkb hk n hn, Pkq hk n hn, Prod.eta]
  cases nameB n with
  | false => exact ⟨_, rfl, rfl, hf⟩
  | true =>
  by_cases c : fileM d n < 0
  ·rw [Zt c]; exact ⟨_, rfl, rfl, hf⟩
  ·obtain ⟨e1, x, e2, e3⟩ := Pop c
   rw [Zf c]
   simp only [Zx, Zz, Zo, decide_true, Zy, e1, e2]
   exact ⟨_, rfl, rfl, by unfold Fits at hf ⊢; simpa using hf⟩
theorem Pbek {k} (hk : Zk k) {d : DiskT} (hs : Small d) (n t : Zb) (hn : n.size ≤ 1048576) (ht : t.size ≤ 1048576) : ∃ r, Phz.f k d n t = some r ∧ Pmq.f k d n t = some r ∧ Fits r.1 := by
 unfold Phz.f Pmq.f Pea.f Phz.c0
 simp only [Prod.eta, Pgj hk d hs, Pma hk d hs, ← Pgr, Zo]
 have hf := hs.fits
 cases hd : diskS d with
 | false => exact ⟨_, rfl, rfl, fits0⟩
 | true =>
  have hr : Right d := ⟨hs, hd⟩
  obtain ⟨p1, p2, _⟩ := hr.parts
  have ha := hs.amt
  have hb := Pmn d.2.2.1
  simp only [Zx, Zz, Pjf hk hs, Pkp hk hr, Zo, Ped hs, Plv hs, Pkb hk n hn, Pkq hk n hn, Prod.eta, Pri hk d hs, Puz hk d hs]
  rw [Zw, Zw]
  have z1 : decide ((1 : Int) = 0) = false := rfl
  have z2 : decide ((2 : Int) = 0) = false := rfl
  have z4 : decide ((4 : Int) = 0) = false := rfl
  cases nameB n with
  | false =>
   simp only [Bool.not_false, Zy, Zo, z1, Zz, Ped hs, Prod.eta]
   exact ⟨_, rfl, rfl, hf⟩
  | true =>
  by_cases c : fileM d n < 0
  ·rw [Zt c]
   simp only [Zx, Zz, Zy, Zo, z2, Ped hs, Prod.eta]
   exact ⟨_, rfl, rfl, hf⟩
  ·obtain ⟨e1, x, e2, e3⟩ := Pop c
   have hx := Pth e3
   rw [Zf c]
   simp only [Zx, Zz, Zo, decide_true, Zy]
   by_cases c2 : d.1 - Pli d.2.2.1 < (t.size : Int)
   ·have c3 : d.1 < Pli d.2.2.1 + (t.size : Int) := by omega
    rw [Zt c2, Zt c3]
    simp only [Zy, Zo, z4, Zz, Ped hs, Prod.eta]
    exact ⟨_, rfl, rfl, hf⟩
   ·have c3 : ¬ d.1 < Pli d.2.2.1 + (t.size : Int) := by omega
    rw [Zf c2, Zf c3]
    simp only [Zz, Zo, Ped hs, Pjf hk hs, decide_true, Zy, e1, e2, Prod.eta]
    rw [Za]
    exact ⟨_, rfl, rfl, by unfold Fits at hf ⊢; simpa using hf⟩
theorem Pye {k} (hk : Zk k) {d : DiskT} (hr : Right d) (m : MoveT) (ok : Bool) (code : Int) (hc : code = if ok = false then 1 else if fileM d m.2.1 < 0 then 2 else 0) :
  ∃ r, Pdp.f k d m code = some r ∧ Pfn.f k d m ok = some r ∧ Fits r.1 := by
 have hs := hr.small
 have hf := hs.fits
 obtain ⟨_, _, p3, p4, p5, p6, p7, _⟩ := hr.parts
 unfold Pdp.f Pfn.f Pdp.c0
 simp only [Prod.eta, Pma hk d hs, hr.ok', Zo, Zx, Zz, Plv hs, Pkp hk hr]
 rw [eqd (d.2.2.2.2.length : Int) 20 (by omega)]
 cases ok with
 | false =>
  simp only [if_true] at hc
  subst hc
  refine ⟨(d, 1), ?_, rfl, hf⟩
  have e : decide ((1 : Int) = 0) = false := rfl
  simp only [e, Zz, Zo, Ped hs, Prod.eta]
 | true =>
  simp only [Bool.true_eq_false, if_false] at hc
  by_cases c : fileM d m.2.1 < 0
  ·rw [if_pos c] at hc
   subst hc
   refine ⟨(d, 2), ?_, ?_, hf⟩
   ·have e : decide ((2 : Int) = 0) = false := rfl
    simp only [e, Zz, Zo, Ped hs, Prod.eta]
   ·rw [Zt c]; rfl
  ·rw [if_neg c] at hc
   subst hc
   rw [Zf c]
   simp only [Zx, Zz, decide_true, Zy]
   cases decide (20 ≤ (d.2.2.2.2.length : Int)) with
   | true =>
    have e : decide ((4 : Int) = 0) = false := rfl
    simp only [Zy, Zo, Ped hs, Prod.eta, e, Zz]
    exact ⟨_, rfl, rfl, hf⟩
   | false =>
    simp only [Zz, Zo, Ped hs, Prod.eta, decide_true, Zy]
    rw [Qrr (by unfold limOf; simp only [Zl, List.length_nil]; omega)]
    exact ⟨_, rfl, rfl, by unfold Fits; simp only [List.length_append, Zl, List.length_nil]; omega⟩
theorem Pmt {k} (hk : Zk k) {d : DiskT} (hs : Small d) (n : Zb) (hn : n.size ≤ 1048576) : Pea.f k d n = some (if nameB n = false then 1 else if fileM d n < 0 then 2 else 0) := by
 unfold Pea.f
 simp only [Prod.eta, Pjf hk hs, Pkb hk n hn, Zo]
 cases nameB n with
 | false => rfl
 | true =>
  by_cases c : fileM d n < 0 <;> simp [c]
theorem Pbdz {k} (hk : Zk k) {d : DiskT} (hs : Small d) (n : Zb) (hn : n.size ≤ 1048576) : ∃ r, Pjg.f k d n = some r ∧ Plk.f k d n = some r ∧ Fits r.1 := by
 unfold Pjg.f Plk.f
 simp only [Prod.eta, Pgj hk d hs, Zo, Pmt hk hs n hn, Pkq hk n hn]
 cases hd : diskS d with
 | false =>
  unfold Pfn.f
  simp only [Prod.eta, Pma hk d hs, ← Pgr, Zo, hd]
  exact ⟨_, rfl, rfl, fits0⟩
 | true =>
  have hr : Right d := ⟨hs, hd⟩
  obtain ⟨r, h1, h2, h3⟩ := Pye hk hr (3, n, ⟨#[]⟩, 0) (nameB n) _ rfl
  simp only [Zx, Zz]
  rw [h2]
  simp only at h1
  rw [h1]
  exact ⟨r, rfl, rfl, h3⟩
theorem Pbbg {k} (hk : Zk k) {d : DiskT} (hs : Small d) (n t : Zb) (hn : n.size ≤ 1048576) (ht : t.size ≤ 1048576) : ∃ r, Pfa.f k d n t = some r ∧ Pjp.f k d n t = some r ∧ Fits r.1 := by
 unfold Pfa.f Pjp.f Pfa.c0
 simp only [Prod.eta, Pgj hk d hs, Zo, Pmt hk hs n hn, Pkq hk n hn, Pkb hk t ht, Pkq hk t ht]
 cases hd : diskS d with
 | false =>
  refine ⟨((0, 0, [], [], []), 1), rfl, ?_, fits0⟩
  have : ∀ m ok, Pfn.f k d m ok = some ((0, 0, [], [], []), 1) := fun m ok => by
   unfold Pfn.f
   simp only [Prod.eta, Pma hk d hs, ← Pgr, Zo, hd]
   rfl
  simp only [this, Zo]
  cases nameB n <;> cases nameB t <;> rfl
 | true =>
  have hr : Right d := ⟨hs, hd⟩
  obtain ⟨r, h1, h2, h3⟩ := Pye hk hr (2, n, t, 0) (nameB n && (nameB t && !decide (n = t))) _ rfl
  refine ⟨r, ?_, ?_, h3⟩
  ·simp only [Zx, Zz]
   have e : ∀ c1 : Int, c1 = (if (nameB n && (nameB t && !decide (n = t))) = false then (1 : Int) else if fileM d n < 0 then 2 else 0) → (Pdp.f k d (2, n, t, 0) c1).bind (fun r1 => some r1) = some r := fun c1 h => by
    rw [h]; simp only at h1; rw [h1]; rfl
   cases hnt : nameB t with
   | false =>
    simp only [Bool.not_false, Zy, Zo]
    exact e 1 (by simp [hnt])
   | true =>
    simp only [Zx, Zz]
    by_cases c : n = t
    ·rw [Zt c]
     simp only [Zy, Zo]
     exact e 1 (by simp [c])
    ·rw [Zf c]
     simp only [Zz, Zo]
     exact e _ (by simp [hnt, c])
  ·cases hnn : nameB n with
   | false =>
    rw [hnn] at h2
    simp only [Zz, Bool.false_and] at h2 ⊢
    rw [h2]; rfl
   | true =>
    cases hnt : nameB t with
    | false =>
     rw [hnn, hnt] at h2
     simp only [Zz, Zy, Bool.false_and, Bool.true_and] at h2 ⊢
     rw [h2]; rfl
    | true =>
     rw [hnn, hnt] at h2
     simp only [Zy, Bool.true_and] at h2 ⊢
     rw [h2]; rfl
def Prv (dir : List LinkT) (l : List Pfl) : List Pfl := l.filter fun x => linkB dir x.1
theorem Pte (dir : List LinkT) (l : List Pfl) : (Prv dir l).length ≤ l.length := List.length_filter_le _ _
theorem Prk {k} (hk : Zk k) (d : DiskT) (dir : List LinkT) (l : List Pfl) (hd : dir.length ≤ 4194304) (hl : l.length ≤ 4194304) : Pdn.f k d dir l = some (d.1, d.2.1, Prv dir l, dir, []) := by
 unfold Pdn.f
 have key := Qqp (B := Pdn.b0 k) l (fun i a => (l, (i : Int), (0, 0, [], [], []), d.1, d.2.1, a, dir, [])) (fun a x => bif linkB dir x.1 then a ++ [x] else a) (fun a => .inl ((0, 0, [], [], []), d.1, d.2.1, a, dir, [])) [] (fun i hi => by
  have e1 : decide ((i : Int) < (l.length : Int)) = true := by simp; omega
  have e2 : inb? l.length (i : Int) = some i := by rw [Zi, Zn]
  rw [Pkd]
  have hlen := List.length_filter_le (fun x : Pfl => linkB dir x.1) (l.take i)
  rw [List.length_take] at hlen
  unfold Pdn.b0
  dsimp only
  simp only [e1, Zy, e2, Zo, Zg hi, Pmu hk dir _ hd]
  have eL : (dir.any fun y => decide (y.2 = l[i].1)) = linkB dir l[i].1 := rfl
  rw [eL, Zw, Qrr (by unfold limOf; simp only [List.length_append, List.length_nil, Zl]; omega)]
  cases linkB dir l[i].1 <;> rfl) (by
  have e1 : decide ((l.length : Int) < (l.length : Int)) = false := by simp
  unfold Pdn.b0
  dsimp only
  rw [e1]; rfl) k (by omega)
 have e0 : ((0 : Nat) : Int) = 0 := rfl
 simp only [e0] at key
 rw [key, Pkd]
 rfl
theorem Pva {k} (hk : Zk k) (dir : List LinkT) (x : Pfl) (hd : dir.length ≤ 4194304) : Pbj.f k dir x = some (linkB dir x.1) := by
 unfold Pbj.f Pai.f linkB
 rw [Qrm]
 have key := Qqy (B := Pai.b0 k) dir (fun i => (dir, 0, (dir.length : Int), (i : Int), x)) (fun y => decide (y.2 = x.1)) (fun i => .inr (i : Int)) (.inl 0) (fun i hi => by
  have e1 : decide ((i : Int) < (dir.length : Int)) = true := by simp; omega
  have e2 : inb? dir.length (i : Int) = some i := by rw [Zi, Zn]
  unfold Pai.b0 Phe.f
  dsimp only
  simp only [e1, Zy, e2, Zo, Zg hi]
  rw [Zw]
  rfl) (by
  have e1 : decide ((dir.length : Int) < (dir.length : Int)) = false := by simp
  unfold Pai.b0
  dsimp only
  rw [e1]; rfl) k (by omega)
 have e0 : ((0 : Nat) : Int) = 0 := rfl
 simp only [e0] at key
 try simp only [Prod.eta]
 rw [key]
 unfold idxOf
 cases dir.findIdx? (fun y => decide (y.2 = x.1)) with
 | none => rfl
 | some i => simp
theorem Pbaf {k} (hk : Zk k) (d : DiskT) (hd : d.2.2.2.1.length ≤ 4194304) (hl : d.2.2.1.length ≤ 4194304) : Pkv.f k d = some (d.1, d.2.1, Prv d.2.2.2.1 d.2.2.1, d.2.2.2.1, d.2.2.2.2) := by
 have hp : ∀ (c : Int × Int × Unit × List LinkT × List MoveT) (x : Pfl), c.2.2.2.1 = d.2.2.2.1 → Pdy.f k x c = some (!linkB d.2.2.2.1 x.1) := fun c x hc => by
  unfold Pdy.f
  simp only [Prod.eta, hc, Pva hk _ x hd, Zo]
 unfold Pkv.f Pao.f
 have hi : Pab.f k d.2.2.1 (d.1, d.2.1, (), d.2.2.2.1, d.2.2.2.2) = some (idxOf (fun x => !linkB d.2.2.2.1 x.1) d.2.2.1) := by
  unfold Pab.f idxOf
  have key := Qqy (B := Pab.b0 k) d.2.2.1 (fun i => (d.2.2.1, 0, (d.2.2.1.length : Int), (i : Int), d.1, d.2.1, (), d.2.2.2.1, d.2.2.2.2)) (fun x => !linkB d.2.2.2.1 x.1) (fun i => .inr (i : Int)) (.inl 0) (fun i hi => by
   have e1 : decide ((i : Int) < (d.2.2.1.length : Int)) = true := by simp; omega
   have e2 : inb? d.2.2.1.length (i : Int) = some i := by rw [Zi, Zn]
   unfold Pab.b0
   dsimp only
   simp only [e1, Zy, e2, Zo, Zg hi, Prod.eta, hp (d.1, d.2.1, (), d.2.2.2.1, d.2.2.2.2) _ rfl]
   rw [Zw]
   rfl) (by
   have e1 : decide ((d.2.2.1.length : Int) < (d.2.2.1.length : Int)) = false := by simp
   unfold Pab.b0
   dsimp only
   rw [e1]; rfl) k (by omega)
  have e0 : ((0 : Nat) : Int) = 0 := rfl
  simp only [e0] at key
  rw [key]
  cases d.2.2.1.findIdx? (fun x => !linkB d.2.2.2.1 x.1) <;> rfl
 rw [hi, Pzz (q := fun x : Pfl => !linkB d.2.2.2.1 x.1) (fun x _ => hp _ x rfl) (by omega)]
 simp only [Bool.not_not, Zo]
 rfl
theorem Pzm {k} (hk : Zk k) {d : DiskT} (hs : Small d) : ∃ r, Pga.f k d = some r ∧ Pin.f k d = some r ∧ Fits r.1 := by
 unfold Pga.f Pin.f
 simp only [Prod.eta, Pgj hk d hs, Pma hk d hs, ← Pgr, Zo]
 have hf := hs.fits
 cases hd : diskS d with
 | false => exact ⟨_, rfl, rfl, fits0⟩
 | true =>
  have hr : Right d := ⟨hs, hd⟩
  have hn := Pqf hs
  have hi := hs.ino
  simp only [Zx, Zz, Pxk hk hs, Pbae hk hr, Zo, Plv hs, Prk hk d _ d.2.2.1 hn (by omega)]
  rw [Pbaf hk (d.1, d.2.1, d.2.2.1, nowM d, []) hn (by simp only; omega)]
  exact ⟨_, rfl, rfl, by have := Pte (nowM d) d.2.2.1; unfold Fits at hf ⊢; simp only [List.length_nil]; omega⟩
abbrev zD : DiskT := (0, 0, [], [], [])
theorem Pbeh {k} (hk : Zk k) {d : DiskT} (hs : Small d) (s : U9) (h1 : s.2.1.size ≤ 1048576) (h2 : s.2.2.1.size ≤ 1048576) (h3 : s.2.2.2.size ≤ 1048576) :
  ∃ r, Phj.f k d s = some r ∧ Pjn.f k d s = some r ∧ Fits r.1 := by
 unfold Phj.f Pjn.f
 simp only [Prod.eta, Pgj hk d hs, Pma hk d hs, ← Pgr, Zo]
 obtain ⟨r1, a1, b1, c1⟩ := Pbef hk hs s.2.1 h1
 obtain ⟨r2, a2, b2, c2⟩ := Pbek hk hs s.2.1 s.2.2.2 h1 h3
 obtain ⟨r3, a3, b3, c3⟩ := Pbei hk hs s.2.1 h1
 obtain ⟨r4, a4, b4, c4⟩ := Pbbg hk hs s.2.1 s.2.2.1 h1 h2
 obtain ⟨r5, a5, b5, c5⟩ := Pbdz hk hs s.2.1 h1
 obtain ⟨r6, a6, b6, c6⟩ := Pzm hk hs
 simp only [b1, b2, b3, b4, b5, b6, a1, a2, a3, a4, a5, a6, Zo, Prod.eta]
 cases hd : diskS d with
 | true =>
  simp only [Zx, Zz, Ped hs, Plv hs, Zo]
  by_cases e1 : s.1 = 1
  ·rw [Zt e1]; exact ⟨_, rfl, rfl, c1⟩
  rw [Zf e1]
  by_cases e2 : s.1 = 2
  ·rw [Zt e2]; exact ⟨_, rfl, rfl, c2⟩
  rw [Zf e2]
  by_cases e3 : s.1 = 3
  ·rw [Zt e3]; exact ⟨_, rfl, rfl, c3⟩
  rw [Zf e3]
  by_cases e4 : s.1 = 4
  ·rw [Zt e4]; exact ⟨_, rfl, rfl, c4⟩
  rw [Zf e4]
  by_cases e5 : s.1 = 5
  ·rw [Zt e5]; exact ⟨_, rfl, rfl, c5⟩
  rw [Zf e5]
  by_cases e6 : s.1 = 6
  ·rw [Zt e6]; exact ⟨_, rfl, rfl, c6⟩
  rw [Zf e6]
  exact ⟨_, rfl, rfl, hs.fits⟩
 | false =>
  have z : ∀ r, (some r = some ((zD, 1) : DiskT × Int)) → r = (zD, 1) := fun r h => Option.some.inj h
  have w1 : r1 = (zD, 1) := z _ (by rw [← a1]; unfold Pjh.f; simp only [Prod.eta, Pgj hk d hs, Zo, hd]; rfl)
  have w2 : r2 = (zD, 1) := z _ (by rw [← a2]; unfold Phz.f; simp only [Prod.eta, Pgj hk d hs, Zo, hd]; rfl)
  have w3 : r3 = (zD, 1) := z _ (by rw [← a3]; unfold Pjj.f; simp only [Prod.eta, Pgj hk d hs, Zo, hd]; rfl)
  have w4 : r4 = (zD, 1) := z _ (by rw [← a4]; unfold Pfa.f; simp only [Prod.eta, Pgj hk d hs, Zo, hd]; rfl)
  have w5 : r5 = (zD, 1) := z _ (by rw [← a5]; unfold Pjg.f; simp only [Prod.eta, Pgj hk d hs, Zo, hd]; rfl)
  have w6 : r6 = (zD, 1) := z _ (by rw [← a6]; unfold Pga.f; simp only [Prod.eta, Pgj hk d hs, Zo, hd]; rfl)
  rw [w1, w2, w3, w4, w5, w6]
  refine ⟨(zD, 1), rfl, ?_, fits0⟩
  cases decide (s.1 = 1) <;> cases decide (s.1 = 2) <;> cases decide (s.1 = 3) <;> cases decide (s.1 = 4) <;> cases decide (s.1 = 5) <;> cases decide (s.1 = 6) <;> rfl
def useM (d : DiskT) : List Int := d.2.2.2.1.map (·.2) ++ makes d.2.2.2.2
structure RP (d : DiskT) : Prop where
 room0 : 0 ≤ d.1
 room1 : d.1 ≤ 1048576
 n1 : 1 ≤ d.2.1
 n2 : d.2.1 ≤ 1000000
 ino : d.2.2.1.length ≤ 10
 mov : d.2.2.2.2.length ≤ 20
 amt : (amtI d.2.2.1 : Int) ≤ d.1
 asc : (d.2.2.1.map (·.1)).Pairwise (· < ·)
 inr : ∀ x ∈ d.2.2.1, 1 ≤ x.1 ∧ x.1 ≤ d.2.1 - 1 ∧ 0 ≤ x.2.2 ∧ x.2.2 ≤ x.2.1.size
 srt : Srt d.2.2.2.1
 dirB : ∀ x ∈ d.2.2.2.1, nameB x.1 = true
 used : (useM d).Nodup
 sub : ∀ n ∈ useM d, n ∈ d.2.2.1.map (·.1)
 sup : ∀ n ∈ d.2.2.1.map (·.1), n ∈ useM d
 ok : ∀ i (hi : i < d.2.2.2.2.length), (Pen (Pfu d.2.2.2.1 (d.2.2.2.2.take i)) d.2.2.2.2[i]).2 = true
theorem Pbee {d : DiskT} (h : (List.range d.2.2.1.length).all (pI d) = true) : (d.2.2.1.map (·.1)).Pairwise (· < ·) := by
 have step : ∀ i, ∀ hi : i + 1 < d.2.2.1.length, d.2.2.1[i].1 < d.2.2.1[i + 1].1 := fun i hi => by
  have := Pci.1 h (i + 1) hi
  unfold pI upI at this
  rw [show i + 1 - 1 = i by omega, Zg hi, Zg (show i < d.2.2.1.length by omega)] at this
  simp only [Zd] at this
  simpa using this.2.2
 have lt : ∀ i j, ∀ hi : i < d.2.2.1.length, ∀ hj : j < d.2.2.1.length, i < j → d.2.2.1[i].1 < d.2.2.1[j].1 := by
  intro i j hi hj hij
  induction j with
  | zero => omega
  | succ j ih =>
   by_cases e : i = j
   ·subst e; exact step i hj
   ·exact Int.lt_trans (ih (by omega) (by omega)) (step j hj)
 rw [List.pairwise_map, List.pairwise_iff_getElem]
 exact fun i j hi hj hij => lt i j hi hj hij
theorem Right.rp {d : DiskT} (h : Right d) : RP d := by
 obtain ⟨h1, h2, h3, h4, h5, h6, h7, h8, hI, hD, hM⟩ := h.parts
 rw [Pmn] at h8
 have hI' : (List.range d.2.2.1.length).all (pI d) = true := Pci.2 fun i hi => by
  have := Pci.1 hI i hi
  rw [Psx hi, Zd] at this
  exact this.1
 have hM' := hM
 rw [Psv hD] at hM'
 obtain ⟨n1, n2⟩ := Pux hD hM'
 refine ⟨h1, h2, h3, h4, h5, h6, h8, Pbee hI', fun x hx => ?_, Pbdt fun i hi => ?_, fun x hx => ?_, n1, n2, fun n hn => ?_, fun i hi => ?_⟩
 ·obtain ⟨i, hi, rfl⟩ := List.getElem_of_mem hx
  have := Pci.1 hI' i hi
  unfold pI rg at this
  rw [Zg hi] at this
  simp only [Zd, Zq] at this
  exact ⟨this.1.1, this.1.2, this.2.1.1, this.2.1.2⟩
 ·have := Pci.1 hD i hi
  unfold pD at this
  rw [Zg hi] at this
  simp only [Zd] at this
  exact this.2.1
 ·obtain ⟨i, hi, rfl⟩ := List.getElem_of_mem hx
  have := Pci.1 hD i hi
  unfold pD at this
  rw [Zg hi] at this
  simp only [Zd] at this
  exact this.1
 ·obtain ⟨x, hx, rfl⟩ := List.mem_map.1 hn
  obtain ⟨i, hi, rfl⟩ := List.getElem_of_mem hx
  have := Pci.1 hI i hi
  rw [Psx hi, Zd, ← Pqy, Zq] at this
  exact this.2
 ·have := Pci.1 hM i hi
  unfold pMS at this
  rw [Zg hi] at this
  simp only [Zd] at this
  exact this.2
theorem Ppe {s : Zb} (h : nameB s = true) : s.size ≤ 12 := by
 unfold nameB at h
 simp only [Zd, Zq] at h
 omega
theorem Pbby {l : List LinkT} {m : MoveT} (h : (Pen l m).2 = true) : m.2.2.1.size ≤ 12 := by
 unfold Pen at h
 split at h
 ·cases h
 ·split at h
  ·rename_i c; rw [c.2.1]; exact Nat.zero_le _
  ·split at h
   ·rename_i c; exact Ppe c.2.2.2.1
   ·split at h
    ·rename_i c; rw [c.2.2.1]; exact Nat.zero_le _
    ·cases h
theorem RP.dirL {d : DiskT} (h : RP d) : d.2.2.2.1.length ≤ 10 := by
 have := Pnz h.used h.sub
 have := h.ino
 unfold useM at *
 simp only [List.length_append, List.length_map] at *
 omega
theorem RP.small {d : DiskT} (h : RP d) : Small d := by
 refine ⟨by have := h.ino; omega, by have := h.dirL; omega, by have := h.mov; omega, by have := h.amt; have := h.room1; omega, fun x hx => ?_, fun x hx => ?_⟩
 ·have := Ppe (h.dirB x hx); omega
 ·obtain ⟨i, hi, rfl⟩ := List.getElem_of_mem hx
  have h1 := Ppe (Pon (h.ok i hi))
  have h2 := Pbby (h.ok i hi)
  omega
theorem Plp (a b : List MoveT) : makes (a ++ b) = makes a ++ makes b := by
 unfold makes; rw [List.filter_append, List.map_append]
theorem RP.right {d : DiskT} (h : RP d) : Right d := by
 refine ⟨h.small, ?_⟩
 have hd := h.dirL
 unfold diskS rg
 simp only [Zd, Zq]
 refine ⟨⟨h.room0, h.room1⟩, ⟨h.n1, h.n2⟩, by have := h.ino; omega, by have := h.mov; omega, by omega, by rw [Pmn]; exact h.amt, Pci.2 fun i hi => ?_, Pci.2 fun i hi => ?_, Pci.2 fun i hi => ?_⟩
 ·rw [Psx hi, Zd]
  refine ⟨?_, ?_⟩
  ·unfold pI rg upI
   rw [Zg hi]
   obtain ⟨a, b, c, e⟩ := h.inr _ (List.getElem_mem hi)
   simp only [Zd, Zq]
   refine ⟨⟨a, b⟩, ⟨c, e⟩, ?_⟩
   by_cases i0 : i = 0
   ·simp [i0]
   ·have := h.asc
    rw [List.pairwise_map, List.pairwise_iff_getElem] at this
    have := this (i - 1) i (by omega) hi (by omega)
    rw [Zg (show i - 1 < d.2.2.1.length by omega)]
    simp [i0, this]
  ·rw [← Pqy, Zq]
   exact h.sup _ (List.mem_map.2 ⟨_, List.getElem_mem hi, rfl⟩)
 ·unfold pD upD
  rw [Zg hi]
  simp only [Zd, Bool.not_eq_true']
  refine ⟨h.dirB _ (List.getElem_mem hi), ?_, ?_, ?_⟩
  ·by_cases i0 : i = 0
   ·simp [i0]
   ·have := h.srt
    unfold Srt at this
    rw [List.pairwise_iff_getElem] at this
    have := this (i - 1) i (by omega) hi (by omega)
    rw [Zg (show i - 1 < d.2.2.2.1.length by omega)]
    simp [i0, this]
  ·exact Ptp.2 (h.sub _ (List.mem_append_left _ (List.mem_map.2 ⟨_, List.getElem_mem hi, rfl⟩)))
  ·rw [← Ppd, decide_eq_false_iff_not]
   intro hm
   have hu := (List.nodup_append.1 h.used).1
   rw [← List.take_append_drop i d.2.2.2.1, List.map_append, List.drop_eq_getElem_cons hi, List.map_cons] at hu
   exact (List.nodup_append.1 hu).2.2 _ hm _ List.mem_cons_self rfl
 ·unfold pMS
  rw [Zg hi]
  simp only [Zd]
  refine ⟨?_, h.ok i hi⟩
  by_cases c : d.2.2.2.2[i].1 = 1
  ·have hm : makes d.2.2.2.2 = makes (d.2.2.2.2.take i) ++ d.2.2.2.2[i].2.2.2 :: makes (d.2.2.2.2.drop (i + 1)) := by
    conv => lhs; rw [← List.take_append_drop i d.2.2.2.2, List.drop_eq_getElem_cons hi, Plp]
    congr 1
    unfold makes
    rw [List.filter_cons, if_pos (by simp [c]), List.map_cons]
   have hu := h.used
   have hs := h.sub
   unfold useM at hu hs
   rw [hm] at hu hs
   obtain ⟨u1, u2, u3⟩ := List.nodup_append.1 hu
   obtain ⟨u4, u5, u6⟩ := List.nodup_append.1 u2
   have e1 : hasI d d.2.2.2.2[i].2.2.2 = true := Ptp.2 (hs _ (by simp))
   have e2 : linkB d.2.2.2.1 d.2.2.2.2[i].2.2.2 = false := by
    rw [← Ppd, decide_eq_false_iff_not]
    exact fun hx => u3 _ hx _ (by simp) rfl
   have e3 : madeB (d.2.2.2.2.take i) d.2.2.2.2[i].2.2.2 = false := by
    rw [← Pvk, decide_eq_false_iff_not]
    exact fun hx => u6 _ hx _ List.mem_cons_self rfl
   rw [e1, e2, e3]; simp
  ·simp [c]
structure Named (l : List LinkT) (u : List Int) : Prop where
 srt : Srt l
 nm : ∀ x ∈ l, nameB x.1 = true ∧ x.2 ∈ u
 nd : (l.map (·.2)).Nodup
theorem Pbaq (p : LinkT → Bool) (x : LinkT) (l : List LinkT) : (insM p x l).Perm (x :: l) := by
 unfold insM
 have := List.perm_middle (a := x) (l₁ := l.takeWhile fun y => !p y) (l₂ := l.dropWhile fun y => !p y)
 rwa [List.takeWhile_append_dropWhile] at this
theorem Named.mono {l : List LinkT} {u v : List Int} (h : Named l u) (hs : ∀ n ∈ u, n ∈ v) : Named l v := ⟨h.srt, fun x hx => ⟨(h.nm x hx).1, hs _ (h.nm x hx).2⟩, h.nd⟩
theorem Named.filter {l : List LinkT} {u : List Int} (h : Named l u) (p : LinkT → Bool) : Named (l.filter p) u := by
 refine ⟨h.srt.filter _, fun x hx => h.nm x (List.mem_filter.1 hx).1, ?_⟩
 exact List.Nodup.sublist (List.Sublist.map _ List.filter_sublist) h.nd
theorem Named.with {l : List LinkT} {u : List Int} (h : Named l u) {x : LinkT} (hx : nameB x.1 = true) (hu : x.2 ∈ u) (hn : x.2 ∉ (Pev l x.1).map (·.2)) : Named (withS l x) u := by
 have hw := h.filter (fun y => !decide (y.1 = x.1))
 have hne : ∀ y ∈ Pev l x.1, y.1 ≠ x.1 := fun y hy => (Phi.1 hy).2
 unfold withS
 rw [Pnt hne]
 refine ⟨Pqt hw.srt hne, fun y hy => ?_, ?_⟩
 ·rcases Pbco.1 hy with rfl | hy
  ·exact ⟨hx, hu⟩
  ·exact hw.nm y hy
 ·rw [show linkI (Pev l x.1) x = insM (fun y => !strLt y.1 x.1) x (Pev l x.1) from rfl]
  refine ((Pbaq _ _ _).map _).nodup_iff.2 ?_
  rw [List.map_cons]
  exact List.nodup_cons.2 ⟨hn, hw.nd⟩
theorem Pya {l : List LinkT} {n : Zb} (h : 0 ≤ at? l n) : (n, idAt l n) ∈ l := by
 obtain ⟨i, hi, he, hp, hq⟩ := Qrg (p := fun x : LinkT => decide (x.1 = n)) (l := l) (by unfold at? at h; omega)
 have e : (at? l n).toNat = i := by unfold at?; rw [he]; simp
 unfold idAt
 rw [e, Zg hi]
 have hp : l[i].1 = n := of_decide_eq_true hp
 rw [← hp]
 exact List.getElem_mem hi
theorem Pbeq {l : List LinkT} (hn : (l.map (·.2)).Nodup) {x y : LinkT} (hx : x ∈ l) (hy : y ∈ l) (h : x.2 = y.2) : x = y := by
 obtain ⟨i, hi, rfl⟩ := List.getElem_of_mem hx
 obtain ⟨j, hj, rfl⟩ := List.getElem_of_mem hy
 rw [List.Nodup, List.pairwise_map, List.pairwise_iff_getElem] at hn
 rcases Nat.lt_trichotomy i j with c | c | c
 ·exact absurd h (hn i j hi hj c)
 ·subst c; rfl
 ·exact absurd h.symm (hn j i hj hi c)
theorem Named.apply {l : List LinkT} {u : List Int} {m : MoveT} (h : Named l u) (ho : (Pen l m).2 = true) (hm : m.1 = 1 → m.2.2.2 ∉ u) : Named (Pen l m).1 (u ++ makes [m]) := by
 have hn := Pon ho
 unfold Pen at ho ⊢
 rw [if_neg (by rw [hn]; simp)] at ho ⊢
 have e1 : m.1 = 1 → makes [m] = [m.2.2.2] := fun c => by simp [makes, c]
 split at ho
 ·rename_i c
  rw [if_pos c, e1 c.1]
  refine (h.mono (v := u ++ [m.2.2.2]) fun n hn => by simp [hn]).with hn (by simp) ?_
  rw [Ppy (Pbdj.1 c.2.2)]
  intro hx
  obtain ⟨y, hy, e⟩ := List.mem_map.1 hx
  exact hm c.1 (e ▸ (h.nm y hy).2)
 ·rename_i c1
  rw [if_neg c1]
  split at ho
  ·rename_i c
   rw [if_pos c]
   have hi := Pya c.2.2.1
   refine ((h.filter fun y => !decide (y.1 = m.2.1)).mono (v := u ++ makes [m]) fun n hn => by simp [hn]).with c.2.2.2.1 (List.mem_append_left _ (h.nm _ hi).2) ?_
   intro hx
   obtain ⟨y, hy, e⟩ := List.mem_map.1 hx
   have hy := (Phi.1 hy).1
   have := Pbeq h.nd (Phi.1 hy).1 hi e
   exact (Phi.1 hy).2 (by rw [this])
  ·rename_i c2
   rw [if_neg c2]
   split at ho
   ·rename_i c
    rw [if_pos c]
    exact (h.filter _).mono fun n hn => by simp [hn]
   ·cases ho
theorem RP.named {d : DiskT} (h : RP d) : ∀ i, i ≤ d.2.2.2.2.length → Named (Pje d i) (d.2.2.2.1.map (·.2) ++ makes (d.2.2.2.2.take i))
 | 0, _ => by
  unfold Pje Pfu
  refine ⟨h.srt, fun x hx => ⟨h.dirB x hx, List.mem_append_left _ (List.mem_map.2 ⟨x, hx, rfl⟩)⟩, (List.nodup_append.1 h.used).1⟩
 | i + 1, hi => by
  have ih := h.named i (by omega)
  have hi' : i < d.2.2.2.2.length := by omega
  have ht : d.2.2.2.2.take (i + 1) = d.2.2.2.2.take i ++ [d.2.2.2.2[i]] := by rw [List.take_add_one, Zg hi']; rfl
  have := ih.apply (m := d.2.2.2.2[i]) (h.ok i hi') (fun c hx => by
   have hu := h.used
   unfold useM at hu
   rw [← List.take_append_drop i d.2.2.2.2, List.drop_eq_getElem_cons hi', Plp, ← List.append_assoc] at hu
   have := (List.nodup_append.1 hu).2.2 _ hx
   refine this d.2.2.2.2[i].2.2.2 ?_ rfl
   unfold makes
   rw [List.filter_cons, if_pos (by simp [c]), List.map_cons]
   exact List.mem_cons_self)
  unfold Pje at this ⊢
  rw [Pnm hi', ht, Plp, ← List.append_assoc]
  exact this
theorem RP.named' {d : DiskT} (h : RP d) (i : Nat) : Named (Pje d i) (useM d) := by
 by_cases c : i ≤ d.2.2.2.2.length
 ·refine (h.named i c).mono fun n hn => ?_
  unfold useM
  rcases List.mem_append.1 hn with hn | hn
  ·exact List.mem_append_left _ hn
  ·refine List.mem_append_right _ ?_
   rw [← List.take_append_drop i d.2.2.2.2, Plp]
   exact List.mem_append_left _ hn
 ·have := h.named _ (Nat.le_refl _)
  unfold Pje at this ⊢
  rw [List.take_of_length_le (show d.2.2.2.2.length ≤ i by omega)]
  rwa [List.take_length] at this
theorem RP.file {d : DiskT} (h : RP d) {n : Zb} : fileM d n < 0 ↔ at? (nowM d) n < 0 := by
 unfold fileM
 by_cases c : at? (nowM d) n < 0
 ·rw [Zt c]; simp [c]
 ·rw [Zf c]
  simp only [Zz, c, iff_false]
  intro hx
  have hm := Pya (show 0 ≤ at? (nowM d) n by omega)
  have hi := h.sub _ ((h.named' d.2.2.2.2.length).nm _ hm).2
  obtain ⟨x, hx1, hx2⟩ := List.mem_map.1 hi
  have := Qlb.1 hx x hx1
  simp only [decide_eq_false_iff_not] at this
  exact this hx2
theorem Psw {d : DiskT} : nowM d = Pfu d.2.2.2.1 d.2.2.2.2 := by unfold nowM Pje; rw [List.take_length]
theorem Ptg (a b : List Pfl) : amtI (a ++ b) = amtI a + amtI b := by unfold amtI; rw [List.map_append, List.sum_append]
theorem Pbdn {dir : List LinkT} {ms : List MoveT} {m : MoveT} (h : ∀ i (hi : i < ms.length), (Pen (Pfu dir (ms.take i)) ms[i]).2 = true) (hm : (Pen (Pfu dir ms) m).2 = true) :
  ∀ i (hi : i < (ms ++ [m]).length), (Pen (Pfu dir ((ms ++ [m]).take i)) (ms ++ [m])[i]).2 = true := by
 intro i hi
 by_cases c : i < ms.length
 ·rw [List.take_append_of_le_length (by omega), List.getElem_append_left c]
  exact h i c
 ·have e : i = ms.length := by simp only [List.length_append, List.length_singleton] at hi; omega
  subst e
  rw [List.take_append_of_le_length (Nat.le_refl _), List.take_length]
  simpa using hm
theorem RP.made {d : DiskT} (h : RP d) {n : Zb} (hn : nameB n = true) (hf : fileM d n < 0) (hi : d.2.2.1.length < 10) (hm : d.2.2.2.2.length < 20) (hx : d.2.1 < 1000000) :
  RP (d.1, d.2.1 + 1, d.2.2.1 ++ [(d.2.1, ⟨#[]⟩, 0)], d.2.2.2.1, d.2.2.2.2 ++ [(1, n, ⟨#[]⟩, d.2.1)]) := by
 have hm1 : makes [((1, n, ⟨#[]⟩, d.2.1) : MoveT)] = [d.2.1] := by simp [makes]
 have hlt : ∀ n ∈ d.2.2.1.map (·.1), n < d.2.1 := fun n hn => by
  obtain ⟨x, hx1, rfl⟩ := List.mem_map.1 hn
  have := h.inr x hx1
  omega
 have hids : useM (d.1, d.2.1 + 1, d.2.2.1 ++ [(d.2.1, (⟨#[]⟩ : Zb), 0)], d.2.2.2.1, d.2.2.2.2 ++ [(1, n, ⟨#[]⟩, d.2.1)]) = useM d ++ [d.2.1] := by
  unfold useM
  simp only
  rw [Plp, hm1, List.append_assoc]
 refine ⟨h.room0, h.room1, by have := h.n1; simp only; omega, by simp only; omega, by simp only [List.length_append, List.length_singleton]; omega, by simp only [List.length_append, List.length_singleton]; omega, ?_, ?_, ?_, h.srt, h.dirB, ?_, ?_, ?_, ?_⟩
 ·simp only [Ptg]
  have := h.amt
  have e : amtI [((d.2.1, ⟨#[]⟩, 0) : Pfl)] = 0 := rfl
  omega
 ·simp only [List.map_append, List.map_cons, List.map_nil]
  rw [List.pairwise_append]
  refine ⟨h.asc, by simp, fun a ha b hb => ?_⟩
  simp only [List.mem_singleton] at hb
  subst hb
  exact hlt a ha
 ·intro x hx
  simp only [List.mem_append, List.mem_singleton] at hx
  rcases hx with hx | rfl
  ·obtain ⟨a, b, c, e⟩ := h.inr x hx
   exact ⟨a, by simp only; omega, c, e⟩
  ·have := h.n1
   exact ⟨by simp only; omega, by simp only; omega, by simp, by simp⟩
 ·rw [hids]
  refine List.nodup_append.2 ⟨h.used, by simp, fun a ha b hb => ?_⟩
  simp only [List.mem_singleton] at hb
  have := hlt a (h.sub a ha)
  omega
 ·rw [hids]
  intro a ha
  simp only [List.map_append, List.map_cons, List.map_nil]
  rcases List.mem_append.1 ha with ha | ha
  ·exact List.mem_append_left _ (h.sub a ha)
  ·exact List.mem_append_right _ ha
 ·rw [hids]
  intro a ha
  simp only [List.map_append, List.map_cons, List.map_nil] at ha
  rcases List.mem_append.1 ha with ha | ha
  ·exact List.mem_append_left _ (h.sup a ha)
  ·exact List.mem_append_right _ ha
 ·refine Pbdn h.ok ?_
  change (Pen (Pfu d.2.2.2.1 d.2.2.2.2) _).2 = true
  rw [← Psw]
  unfold Pen
  simp only [hn]
  rw [if_neg (by simp), if_pos ⟨trivial, trivial, h.file.1 hf⟩]
theorem RP.moved {d : DiskT} (h : RP d) {m : MoveT} (hm : d.2.2.2.2.length < 20) (h1 : m.1 ≠ 1) (ho : (Pen (nowM d) m).2 = true) : RP (d.1, d.2.1, d.2.2.1, d.2.2.2.1, d.2.2.2.2 ++ [m]) := by
 have hids : useM (d.1, d.2.1, d.2.2.1, d.2.2.2.1, d.2.2.2.2 ++ [m]) = useM d := by
  unfold useM
  simp only
  rw [Plp]
  have : makes [m] = [] := by simp [makes, h1]
  rw [this, List.append_nil]
 refine ⟨h.room0, h.room1, h.n1, h.n2, h.ino, by simp only [List.length_append, List.length_singleton]; omega, h.amt, h.asc, h.inr, h.srt, h.dirB, by rw [hids]; exact h.used, by rw [hids]; exact h.sub, by rw [hids]; exact h.sup, ?_⟩
 exact Pbdn h.ok (by change (Pen (Pfu d.2.2.2.1 d.2.2.2.2) _).2 = true; rw [← Psw]; exact ho)
theorem Pbeg {l : List Pfl} {i : Nat} {y : Pfl} (hi : i < l.length) (he : y.1 = l[i].1) : (l.set i y).map (·.1) = l.map (·.1) := by
 rw [List.map_set]
 refine List.ext_getElem (by simp) fun j hj hj' => ?_
 rw [List.getElem_set]
 split
 ·rename_i e; subst e; simpa using he
 ·rfl
theorem RP.set {d : DiskT} (h : RP d) {i : Nat} {y : Pfl} (hi : i < d.2.2.1.length) (he : y.1 = d.2.2.1[i].1) (h0 : 0 ≤ y.2.2) (h1 : y.2.2 ≤ y.2.1.size) (ha : (amtI (d.2.2.1.set i y) : Int) ≤ d.1) :
  RP (d.1, d.2.1, d.2.2.1.set i y, d.2.2.2.1, d.2.2.2.2) := by
 have hs := Pbeg hi he
 refine ⟨h.room0, h.room1, h.n1, h.n2, by simp only [List.length_set]; exact h.ino, h.mov, ha, by simp only [hs]; exact h.asc, fun x hx => ?_, h.srt, h.dirB, h.used, fun n hn => by simp only [hs]; exact h.sub n hn, fun n hn => by simp only [hs] at hn; exact h.sup n hn, h.ok⟩
 simp only at hx
 rcases List.mem_or_eq_of_mem_set hx with hx | rfl
 ·exact h.inr x hx
 ·obtain ⟨a, b, _, _⟩ := h.inr _ (List.getElem_mem hi)
  exact ⟨by rw [he]; exact a, by rw [he]; exact b, h0, h1⟩
theorem Pxu {l : List Pfl} {i : Nat} {y : Pfl} (hi : i < l.length) : amtI (l.set i y) + l[i].2.1.size = amtI l + y.2.1.size := by
 have h1 : l = l.take i ++ l[i] :: l.drop (i + 1) := by rw [← List.drop_eq_getElem_cons hi, List.take_append_drop]
 have h2 : l.set i y = l.take i ++ y :: l.drop (i + 1) := List.set_eq_take_append_cons_drop .. |>.trans (by simp [hi])
 have hc : ∀ (x : Pfl) (r : List Pfl), amtI (x :: r) = x.2.1.size + amtI r := fun x r => by simp only [amtI, List.map_cons, List.sum_cons]
 have e1 : amtI l = amtI (l.take i) + (l[i].2.1.size + amtI (l.drop (i + 1))) := (congrArg amtI h1).trans (by rw [Ptg, hc])
 rw [h2, Ptg, e1, hc]
 omega
theorem RP.settled {d : DiskT} (h : RP d) (k : Nat) {l : List Pfl} (hl : l.map (·.1) = d.2.2.1.map (·.1)) (ha : amtI l ≤ amtI d.2.2.1) (hs : ∀ x ∈ l, 0 ≤ x.2.2 ∧ x.2.2 ≤ x.2.1.size) :
  RP (d.1, d.2.1, Prv (Pje d k) l, Pje d k, []) := by
 have hn := h.named' k
 have hlen : l.length = d.2.2.1.length := by have := congrArg List.length hl; simpa using this
 have hids : useM (d.1, d.2.1, Prv (Pje d k) l, Pje d k, []) = (Pje d k).map (·.2) := by unfold useM; simp [makes]
 have hamt : ∀ (p : Pfl → Bool) (l : List Pfl), amtI (l.filter p) ≤ amtI l := fun p l => by
  induction l with
  | nil => simp [amtI]
  | cons x l ih =>
   rw [List.filter_cons]
   split <;> simp only [amtI, List.map_cons, List.sum_cons] at ih ⊢ <;> omega
 refine ⟨h.room0, h.room1, h.n1, h.n2, ?_, Nat.zero_le _, ?_, ?_, ?_, hn.srt, fun x hx => (hn.nm x hx).1, by rw [hids]; exact hn.nd, ?_, ?_, fun i hi => absurd hi (Nat.not_lt_zero _)⟩
 ·have := Pte (Pje d k) l
  have := h.ino
  simp only; omega
 ·have := hamt (fun x => linkB (Pje d k) x.1) l
  have := h.amt
  unfold Prv
  simp only; omega
 ·have := h.asc
  rw [← hl] at this
  unfold Prv
  exact List.Pairwise.sublist (List.Sublist.map _ List.filter_sublist) this
 ·intro x hx
  have hx := (List.mem_filter.1 hx).1
  have : x.1 ∈ d.2.2.1.map (·.1) := by rw [← hl]; exact List.mem_map.2 ⟨x, hx, rfl⟩
  obtain ⟨y, hy, e⟩ := List.mem_map.1 this
  obtain ⟨a, b, _, _⟩ := h.inr y hy
  obtain ⟨c, g⟩ := hs x hx
  exact ⟨by omega, by simp only; omega, c, g⟩
 ·rw [hids]
  intro n hx
  obtain ⟨y, hy, rfl⟩ := List.mem_map.1 hx
  have := h.sub _ (hn.nm y hy).2
  rw [← hl] at this
  obtain ⟨x, hx1, hx2⟩ := List.mem_map.1 this
  refine List.mem_map.2 ⟨x, List.mem_filter.2 ⟨hx1, ?_⟩, hx2⟩
  rw [← Ppd, Zq, hx2]
  exact hx
 ·rw [hids]
  intro n hx
  obtain ⟨x, hx1, rfl⟩ := List.mem_map.1 hx
  have := (List.mem_filter.1 hx1).2
  rw [← Ppd, Zq] at this
  exact this
def Keeps (d : DiskT) (r : DiskT × Int) : Prop := Right r.1 ∧ (r.2 ≠ 0 → r.1 = d) ∧ r.1.1 = d.1
theorem Pze {k} (hk : Zk k) {d : DiskT} (hr : Right d) (n : Zb) (hn : n.size ≤ 1048576) : ∃ r, Pjh.f k d n = some r ∧ Keeps d r := by
 have hs := hr.small
 have hp := hr.rp
 have k0 : ∀ c, Keeps d (d, c) := fun c => ⟨hr, fun _ => rfl, rfl⟩
 unfold Pjh.f
 simp only [Prod.eta, Pgj hk d hs, hr.ok, Zo]
 simp only [Zx, Zz, Pjf hk hs, Zo, Ped hs, Pkb hk n hn, Prod.eta]
 obtain ⟨_, _, p3, p4, p5, p6, p7, _⟩ := hr.parts
 rw [Qrr (by unfold limOf; simp only [Zl, List.length_nil]; omega), Qrr (by unfold limOf; simp only [Zl, List.length_nil]; omega)]
 simp only [Zo]
 cases hb : nameB n with
 | false => exact ⟨_, rfl, k0 _⟩
 | true =>
 by_cases c1 : 0 ≤ fileM d n
 ·rw [Zt c1]; exact ⟨_, rfl, k0 _⟩
 by_cases c2 : 10 ≤ (d.2.2.1.length : Int)
 ·rw [Zt c2, Zf c1]; exact ⟨_, rfl, k0 _⟩
 by_cases c3 : 20 ≤ (d.2.2.2.2.length : Int)
 ·rw [Zt c3, Zf c1, Zf c2]; exact ⟨_, rfl, k0 _⟩
 by_cases c4 : 1000000 ≤ d.2.1
 ·rw [Zt c4, Zf c1, Zf c2, Zf c3]; exact ⟨_, rfl, k0 _⟩
 rw [Zf c4, Zf c1, Zf c2, Zf c3, Zw]
 exact ⟨_, rfl, (hp.made hb (by omega) (by omega) (by omega) (by omega)).right, fun h => absurd rfl h, rfl⟩
theorem Pzl {k} (hk : Zk k) {d : DiskT} (hr : Right d) (n : Zb) (hn : n.size ≤ 1048576) : ∃ r, Pjj.f k d n = some r ∧ Keeps d r := by
 have hs := hr.small
 have hp := hr.rp
 have k0 : ∀ c, Keeps d (d, c) := fun c => ⟨hr, fun _ => rfl, rfl⟩
 unfold Pjj.f
 simp only [Prod.eta, Pgj hk d hs, hr.ok, Zo, Pmt hk hs n hn]
 simp only [Zx, Zz, Pjf hk hs, Zo, Ped hs, Prod.eta]
 cases hb : nameB n with
 | false => exact ⟨_, rfl, k0 _⟩
 | true =>
  by_cases c : fileM d n < 0
  ·simp only [Bool.true_eq_false, if_false, if_pos c]; exact ⟨_, rfl, k0 _⟩
  ·obtain ⟨e1, x, e2, e3⟩ := Pop c
   have hlt := (List.getElem?_eq_some_iff.1 e2).1
   have hx := (List.getElem?_eq_some_iff.1 e2).2
   simp only [Bool.true_eq_false, if_false, if_neg c, decide_true, Zy, Zo, e1, e2]
   refine ⟨_, rfl, (hp.set hlt (by rw [hx]) (by simp only; omega) (by simp only; omega) ?_).right, fun h => absurd rfl h, rfl⟩
   have := Pxu (l := d.2.2.1) (y := (x.1, x.2.1, (x.2.1.size : Int))) hlt
   rw [hx] at this
   have := hp.amt
   simp only at *
   omega
theorem Pzo {k} (hk : Zk k) {d : DiskT} (hr : Right d) (n t : Zb) (hn : n.size ≤ 1048576) (ht : t.size ≤ 1048576) : ∃ r, Phz.f k d n t = some r ∧ Keeps d r := by
 have hs := hr.small
 have hp := hr.rp
 have k0 : ∀ c, Keeps d (d, c) := fun c => ⟨hr, fun _ => rfl, rfl⟩
 have ha := hs.amt
 obtain ⟨p1, p2, _⟩ := hr.parts
 have hb' := Pmn d.2.2.1
 have z1 : decide ((1 : Int) = 0) = false := rfl
 have z2 : decide ((2 : Int) = 0) = false := rfl
 have z4 : decide ((4 : Int) = 0) = false := rfl
 unfold Phz.f Phz.c0
 simp only [Prod.eta, Pgj hk d hs, hr.ok, Zo, Pmt hk hs n hn]
 simp only [Zx, Zz, Pjf hk hs, Zo, Ped hs, Prod.eta, Pri hk d hs]
 rw [Zw]
 cases hb : nameB n with
 | false =>
  simp only [if_true, z1, Zz, Zo, Ped hs, Prod.eta]
  exact ⟨_, rfl, k0 _⟩
 | true =>
  by_cases c : fileM d n < 0
  ·simp only [Bool.true_eq_false, if_false, if_pos c, z2, Zz, Zo, Ped hs, Prod.eta]; exact ⟨_, rfl, k0 _⟩
  ·obtain ⟨e1, x, e2, e3⟩ := Pop c
   have hlt := (List.getElem?_eq_some_iff.1 e2).1
   have hx := (List.getElem?_eq_some_iff.1 e2).2
   have hxa := Pth e3
   simp only [Bool.true_eq_false, if_false, if_neg c, decide_true, Zy, Zo]
   by_cases c3 : d.1 - Pli d.2.2.1 < (t.size : Int)
   ·rw [Zt c3]
    simp only [Zy, Zo, z4, Zz, Ped hs, Prod.eta]
    exact ⟨_, rfl, k0 _⟩
   ·rw [Zf c3]
    simp only [Zz, Zo, decide_true, Zy, Ped hs, Pjf hk hs, e1, e2, Prod.eta]
    rw [Za]
    obtain ⟨_, _, i1, i2⟩ := hp.inr x e3
    refine ⟨_, rfl, (hp.set hlt (by rw [hx]) (by simp only; omega) (by simp only [Zs]; omega) ?_).right, fun h => absurd rfl h, rfl⟩
    have := Pxu (l := d.2.2.1) (y := (x.1, x.2.1 ++ t, x.2.2)) hlt
    rw [hx] at this
    have := hp.amt
    simp only [Zs] at *
    omega
theorem Pqz {k : Nat} {d : DiskT} (hr : Right d) (m : MoveT) (code : Int) (h1 : m.1 ≠ 1) (hc : code = 0 → (Pen (nowM d) m).2 = true) : ∃ r, Pdp.f k d m code = some r ∧ Keeps d r := by
 have hs := hr.small
 have hp := hr.rp
 have k0 : ∀ c, Keeps d (d, c) := fun c => ⟨hr, fun _ => rfl, rfl⟩
 obtain ⟨_, _, p3, p4, p5, p6, p7, _⟩ := hr.parts
 unfold Pdp.f Pdp.c0
 by_cases c : code = 0
 ·rw [Zt c]
  simp only [Zy]
  by_cases c2 : 20 ≤ (d.2.2.2.2.length : Int)
  ·have e : decide ((4 : Int) = 0) = false := rfl
   rw [Zt c2]
   simp only [Zy, Zo, Ped hs, Prod.eta, e, Zz]
   exact ⟨_, rfl, k0 _⟩
  ·rw [Zf c2]
   subst c
   simp only [Zz, Zo, Ped hs, Prod.eta, decide_true, Zy]
   rw [Qrr (by unfold limOf; simp only [Zl, List.length_nil]; omega)]
   exact ⟨_, rfl, (hp.moved (by omega) h1 (hc rfl)).right, fun h => absurd rfl h, rfl⟩
 ·rw [Zf c]
  simp only [Zz, Zo, Ped hs, Prod.eta, Zf c]
  exact ⟨_, rfl, k0 _⟩
theorem Pun {d : DiskT} {n : Zb} (hp : RP d) (h : (if nameB n = false then (1 : Int) else if fileM d n < 0 then 2 else 0) = 0) : nameB n = true ∧ 0 ≤ at? (nowM d) n := by
 cases hb : nameB n with
 | false => rw [hb] at h; simp at h
 | true =>
  refine ⟨rfl, ?_⟩
  by_cases c : fileM d n < 0
  ·rw [hb] at h; simp [c] at h
  ·rw [hp.file] at c; omega
theorem Pyy {k} (hk : Zk k) {d : DiskT} (hr : Right d) (n : Zb) (hn : n.size ≤ 1048576) : ∃ r, Pjg.f k d n = some r ∧ Keeps d r := by
 have hs := hr.small
 unfold Pjg.f
 simp only [Prod.eta, Pgj hk d hs, hr.ok, Zo, Pmt hk hs n hn, Zx, Zz]
 obtain ⟨r, h1, h2⟩ := Pqz (k := k) hr (3, n, ⟨#[]⟩, 0) (if nameB n = false then 1 else if fileM d n < 0 then 2 else 0) (by simp) (fun h => by
  obtain ⟨a, b⟩ := Pun hr.rp h
  unfold Pen
  simp [a, b])
 rw [h1]
 exact ⟨r, rfl, h2⟩
theorem Pvt {k} (hk : Zk k) {d : DiskT} (hr : Right d) (n t : Zb) (hn : n.size ≤ 1048576) (ht : t.size ≤ 1048576) : ∃ r, Pfa.f k d n t = some r ∧ Keeps d r := by
 have hs := hr.small
 unfold Pfa.f Pfa.c0
 simp only [Prod.eta, Pgj hk d hs, hr.ok, Zo, Pmt hk hs n hn, Zx, Zz, Pkb hk t ht]
 have e : ∀ c1 : Int, (c1 = 0 → nameB t = true ∧ n ≠ t ∧ (if nameB n = false then (1 : Int) else if fileM d n < 0 then 2 else 0) = 0) → ∃ r, (Pdp.f k d (2, n, t, 0) c1).bind (fun r1 => some r1) = some r ∧ Keeps d r := fun c1 h => by
  obtain ⟨r, h1, h2⟩ := Pqz (k := k) hr (2, n, t, 0) c1 (by simp) (fun hc => by
   obtain ⟨h1, h2, h3⟩ := h hc
   obtain ⟨a, b⟩ := Pun hr.rp h3
   unfold Pen
   simp [a, b, h1, Ne.symm h2])
  exact ⟨r, by rw [h1]; rfl, h2⟩
 cases hnt : nameB t with
 | false =>
  simp only [Bool.not_false, Zy, Zo]
  exact e 1 (by simp)
 | true =>
  simp only [Zx, Zz]
  by_cases c : n = t
  ·rw [Zt c]
   simp only [Zy, Zo]
   exact e 1 (by simp)
  ·rw [Zf c]
   simp only [Zz, Zo]
   exact e _ (fun h => ⟨hnt, c, h⟩)
theorem Puf {k} (hk : Zk k) {d : DiskT} (hr : Right d) : ∃ r, Pga.f k d = some r ∧ Keeps d r := by
 have hs := hr.small
 have hp := hr.rp
 unfold Pga.f
 have hn := Pqf hs
 have hi := hs.ino
 simp only [Prod.eta, Pgj hk d hs, hr.ok, Zo, Zx, Zz, Pxk hk hs, Prk hk d _ d.2.2.1 hn (by omega)]
 exact ⟨_, rfl, (hp.settled d.2.2.2.2.length rfl (Nat.le_refl _) fun x hx => ⟨(hp.inr x hx).2.2.1, (hp.inr x hx).2.2.2⟩).right, fun h => absurd rfl h, rfl⟩
theorem Pzj {k} (hk : Zk k) {d : DiskT} (hr : Right d) (s : U9) (h1 : s.2.1.size ≤ 1048576) (h2 : s.2.2.1.size ≤ 1048576) (h3 : s.2.2.2.size ≤ 1048576) :
  ∃ r, Phj.f k d s = some r ∧ Keeps d r := by
 have hs := hr.small
 unfold Phj.f
 obtain ⟨r1, a1, b1⟩ := Pze hk hr s.2.1 h1
 obtain ⟨r2, a2, b2⟩ := Pzo hk hr s.2.1 s.2.2.2 h1 h3
 obtain ⟨r3, a3, b3⟩ := Pzl hk hr s.2.1 h1
 obtain ⟨r4, a4, b4⟩ := Pvt hk hr s.2.1 s.2.2.1 h1 h2
 obtain ⟨r5, a5, b5⟩ := Pyy hk hr s.2.1 h1
 obtain ⟨r6, a6, b6⟩ := Puf hk hr
 simp only [Prod.eta, Pgj hk d hs, hr.ok, Zo, a1, a2, a3, a4, a5, a6, Zx, Zz, Ped hs]
 by_cases e1 : s.1 = 1
 ·rw [Zt e1]; exact ⟨_, rfl, b1⟩
 rw [Zf e1]
 by_cases e2 : s.1 = 2
 ·rw [Zt e2]; exact ⟨_, rfl, b2⟩
 rw [Zf e2]
 by_cases e3 : s.1 = 3
 ·rw [Zt e3]; exact ⟨_, rfl, b3⟩
 rw [Zf e3]
 by_cases e4 : s.1 = 4
 ·rw [Zt e4]; exact ⟨_, rfl, b4⟩
 rw [Zf e4]
 by_cases e5 : s.1 = 5
 ·rw [Zt e5]; exact ⟨_, rfl, b5⟩
 rw [Zf e5]
 by_cases e6 : s.1 = 6
 ·rw [Zt e6]; exact ⟨_, rfl, b6⟩
 rw [Zf e6]
 exact ⟨_, rfl, hr, fun _ => rfl, rfl⟩
abbrev StepT := Int × Zb × Zb × Zb
def Pwg (s : StepT) : Prop := s.2.1.size ≤ 1048576 ∧ s.2.2.1.size ≤ 1048576 ∧ s.2.2.2.size ≤ 1048576
theorem Pzk {k} (hk : Zk k) (l : List StepT) (hl : ∀ s ∈ l, Pwg s) (hlen : l.length ≤ 20) (n : Int) (z z' : DiskT) :
  ∀ (m i : Nat) (d : DiskT), Right d → m = l.length - i → i ≤ l.length → ∀ fuel, m < fuel →
   (∃ e, Right e ∧ iter (Pbp.b0 k) fuel (l, n, 0, 0, (i : Int), d, z) = some (.inl (l, n, 0, 0, e, z)) ∧ iter (Pct.b0 k) fuel (l, n, 0, 0, (i : Int), z', d) = some (.inl (l, n, 0, 0, z', e))) ∨
   (∃ e j c, Right e ∧ iter (Pbp.b0 k) fuel (l, n, 0, 0, (i : Int), d, z) = some (.inr (e, j, c)) ∧ iter (Pct.b0 k) fuel (l, n, 0, 0, (i : Int), z', d) = some (.inr (e, j, c))) := by
 intro m
 induction m with
 | zero =>
  intro i d hr hm hi fuel hf
  obtain ⟨fuel, rfl⟩ : ∃ f, fuel = f + 1 := ⟨fuel - 1, by omega⟩
  refine Or.inl ⟨d, hr, ?_, ?_⟩
  ·have e1 : decide ((i : Int) < (l.length : Int)) = false := by simp; omega
   simp only [iter, Pbp.b0, e1, Zz, Zo]
  ·have e1 : decide ((i : Int) < (l.length : Int)) = false := by simp; omega
   simp only [iter, Pct.b0, e1, Zz]
   cases decide ((i : Int) < n) <;> rfl
 | succ m ih =>
  intro i d hr hm hi fuel hf
  obtain ⟨fuel, rfl⟩ : ∃ f, fuel = f + 1 := ⟨fuel - 1, by omega⟩
  have hlt : i < l.length := by omega
  have e1 : decide ((i : Int) < (l.length : Int)) = true := by simp; omega
  have e3 : inb? l.length (i : Int) = some i := by rw [Zi, Zn]
  by_cases c : (i : Int) < n
  ·obtain ⟨f1, f2, f3⟩ := hl l[i] (List.getElem_mem hlt)
   obtain ⟨r, a1, a2, _⟩ := Pbeh hk hr.small l[i] f1 f2 f3
   obtain ⟨r', b1, b2, _⟩ := Pzj hk hr l[i] f1 f2 f3
   rw [a1] at b1
   obtain rfl := Option.some.inj b1
   by_cases c0 : r.2 = 0
   ·have hw : Zr ((i : Int) + 1) = ((i + 1 : Nat) : Int) := by rw [Zw]; rfl
    have hs : iter (Pbp.b0 k) (fuel + 1) (l, n, 0, 0, (i : Int), d, z) = iter (Pbp.b0 k) fuel (l, n, 0, 0, ((i + 1 : Nat) : Int), r.1, z) := by
     conv => lhs; unfold iter
     simp only [Pbp.b0, e1, Zt c, Zy, e3, Zo, Zg hlt, a1, Zt c0, Zx, Zz, hw]
    have ht : iter (Pct.b0 k) (fuel + 1) (l, n, 0, 0, (i : Int), z', d) = iter (Pct.b0 k) fuel (l, n, 0, 0, ((i + 1 : Nat) : Int), z', r.1) := by
     conv => lhs; unfold iter
     simp only [Pct.b0, e1, Zt c, Zy, e3, Zo, Zg hlt, a2, Zt c0, Zx, Zz, hw]
    rw [hs, ht]
    exact ih (i + 1) r.1 b2 (by omega) (by omega) fuel (by omega)
   ·refine Or.inr ⟨d, (i : Int), r.2, hr, ?_, ?_⟩
    ·simp only [iter, Pbp.b0, e1, Zt c, Zy, e3, Zo, Zg hlt, a1, Zf c0, Bool.not_false]
    ·simp only [iter, Pct.b0, e1, Zt c, Zy, e3, Zo, Zg hlt, a2, Zf c0, Bool.not_false]
  ·refine Or.inl ⟨d, hr, ?_, ?_⟩
   ·simp only [iter, Pbp.b0, e1, Zf c, Zy, Zz, Zo]
   ·simp only [iter, Pct.b0, Zf c, Zz, Zo]
theorem Pbdc {k} (hk : Zk k) {d : DiskT} (hs : Small d) (l : List StepT) (hl : ∀ s ∈ l, Pwg s) (n : Int) :
  ∃ r, Pbp.f k d l n = some r ∧ Pct.f k d l n = some r ∧ Fits r.1 := by
 unfold Pbp.f Pct.f
 simp only [Prod.eta, Pgj hk d hs, Pma hk d hs, ← Pgr, Zo]
 cases hd : diskS d with
 | false => exact ⟨_, rfl, rfl, fits0⟩
 | true =>
  have hr : Right d := ⟨hs, hd⟩
  simp only [Zx, Zz, Ped hs, Plv hs, Zo]
  by_cases c : 20 < (l.length : Int)
  ·rw [Zt c]; exact ⟨_, rfl, rfl, hs.fits⟩
  ·rw [Zf c]
   simp only [Zz]
   have e0 : ((0 : Nat) : Int) = 0 := rfl
   rcases Pzk hk l hl (by omega) n (0, 0, [], [], []) (0, 0, [], [], []) l.length 0 d hr (by omega) (by omega) k (by omega) with ⟨e, he, h1, h2⟩ | ⟨e, j, c', he, h1, h2⟩
   ·rw [e0] at h1 h2
    refine ⟨(e, (if (if (l.length : Int) < n then (l.length : Int) else n) > 0 then (if (l.length : Int) < n then (l.length : Int) else n) else 0), 0), ?_, ?_, he.small.fits⟩
    ·rw [h1]
     simp only [Zo, Pbp.d0, Pbp.c0, Pbp.c1]
     by_cases c1 : n < 0
     ·have e1 : decide ((l.length : Int) < 0) = false := by simp
      simp only [Zt c1, Zy, Zo, e1, Zz]
      rw [if_neg (by split <;> omega)]
     ·simp only [Zf c1, Zz, Zo]
      by_cases c2 : (l.length : Int) < n
      ·simp only [Zt c2, Zy, Zo, if_pos c2]
       by_cases c3 : (l.length : Int) > 0
       ·rw [if_pos c3]
       ·rw [if_neg c3]
        have : (l.length : Int) = 0 := by omega
        rw [this]
      ·simp only [Zf c2, Zz, Zo, if_neg c2]
       by_cases c3 : n > 0
       ·rw [if_pos c3]
       ·rw [if_neg c3]
        have : n = 0 := by omega
        rw [this]
    ·rw [h2]
     rfl
   ·rw [e0] at h1 h2
    exact ⟨(e, j, c'), by rw [h1]; rfl, by rw [h2]; rfl, he.small.fits⟩
end
end Go.Proofs.YtbkcbfkehncocaaGreatDoor.Rx
