/- A part of the evaluator and its soundness: Rel. No condition beside those that each theorem states. -/
import Derived.Test.YtjokcjlpciecoaaRxCore
import Derived.Laws.AppendOwn
import Derived.Laws.Cells
import Derived.Laws.CopyRow
import Derived.Orders
import Derived.Laws.Strings
import Derived.Laws.Concat
import Derived.Laws.Slices
import Derived.Laws.Small
import Derived.Laws.StructEq
set_option linter.unusedVariables false
set_option linter.unusedSimpArgs false
namespace Go.Proofs.Ytjokcjlpciecoaa.Rx

def All2 {α β : Type} (R : α → β → Prop) : List α → List β → Prop
  | [], [] => True
  | a :: l, b :: m => R a b ∧ All2 R l m
  | _, _ => False

section all2
variable {α β : Type} {R R' : α → β → Prop}
theorem All2.length : ∀ {l : List α} {m : List β}, All2 R l m → l.length = m.length
  | [], [], _ => rfl
  | _ :: _, _ :: _, h => by simp [All2.length h.2]
  | [], _ :: _, h => h.elim
  | _ :: _, [], h => h.elim
theorem All2.imp : ∀ {l : List α} {m : List β}, All2 R l m → (∀ a b, a ∈ l → R a b → R' a b) → All2 R' l m
  | [], [], _, _ => trivial
  | a :: _, b :: _, h, f => ⟨f a b (by simp) h.1, All2.imp h.2 fun a b ha => f a b (by simp [ha])⟩
  | [], _ :: _, h, _ => h.elim
  | _ :: _, [], h, _ => h.elim
theorem All2.append : ∀ {l l' : List α} {m m' : List β}, All2 R l m → All2 R l' m' → All2 R (l ++ l') (m ++ m')
  | [], _, [], _, _, h => h
  | _ :: _, _, _ :: _, _, h, h' => ⟨h.1, All2.append h.2 h'⟩
  | [], _, _ :: _, _, h, _ => h.elim
  | _ :: _, _, [], _, h, _ => h.elim
theorem All2.get : ∀ {l : List α} {m : List β}, All2 R l m → ∀ {i : Nat} {a : α}, l[i]? = some a → ∃ b, m[i]? = some b ∧ R a b
  | [], [], _, i, a, h => by simp at h
  | x :: _, y :: _, h, 0, a, hi => by simp at hi; exact ⟨y, rfl, hi ▸ h.1⟩
  | _ :: _, _ :: _, h, i + 1, a, hi => by simpa using All2.get h.2 (by simpa using hi)
  | [], _ :: _, h, _, _, _ => h.elim
  | _ :: _, [], h, _, _, _ => h.elim
theorem All2.drop : ∀ {l : List α} {m : List β} (n : Nat), All2 R l m → All2 R (l.drop n) (m.drop n)
  | l, m, 0, h => by simpa using h
  | [], [], n + 1, h => by simpa using h
  | _ :: _, _ :: _, n + 1, h => by simpa using All2.drop n h.2
  | [], _ :: _, _ + 1, h => h.elim
  | _ :: _, [], _ + 1, h => h.elim
theorem All2.take : ∀ {l : List α} {m : List β} (n : Nat), All2 R l m → All2 R (l.take n) (m.take n)
  | l, m, 0, h => by simp [All2]
  | [], [], n + 1, h => by simpa using h
  | _ :: _, _ :: _, n + 1, h => by simpa using ⟨h.1, All2.take n h.2⟩
  | [], _ :: _, _ + 1, h => h.elim
  | _ :: _, [], _ + 1, h => h.elim
theorem All2.split : ∀ {l l' : List α} {m : List β}, All2 R (l ++ l') m → ∃ m1 m2, m = m1 ++ m2 ∧ All2 R l m1 ∧ All2 R l' m2
  | [], _, m, h => ⟨[], m, rfl, trivial, h⟩
  | _ :: l, l', [], h => h.elim
  | _ :: l, l', b :: m, h => by
    obtain ⟨m1, m2, rfl, h1, h2⟩ := All2.split h.2
    exact ⟨b :: m1, m2, rfl, ⟨h.1, h1⟩, h2⟩
theorem All2.of_get {l : List α} {m : List β} (hl : l.length = m.length) (h : ∀ (i : Nat) (a : α) (b : β), l[i]? = some a → m[i]? = some b → R a b) : All2 R l m := by
  induction l generalizing m with
  | nil => cases m with
    | nil => trivial
    | cons _ _ => simp at hl
  | cons a l ih => cases m with
    | nil => simp at hl
    | cons b m => exact ⟨h 0 a b rfl rfl, ih (by simpa using hl) fun i x y hx hy => h (i + 1) x y (by simpa using hx) (by simpa using hy)⟩
theorem All2.mem : ∀ {l : List α} {m : List β}, All2 R l m → ∀ b ∈ m, ∃ a ∈ l, R a b
  | [], [], _, b, hb => by simp at hb
  | x :: _, y :: _, h, b, hb => by
    rcases List.mem_cons.1 hb with rfl | hb
    · exact ⟨x, by simp, h.1⟩
    · obtain ⟨a, ha, hr⟩ := All2.mem h.2 b hb; exact ⟨a, by simp [ha], hr⟩
  | [], _ :: _, h, _, _ => h.elim
  | _ :: _, [], h, _, _ => h.elim
end all2

/-! data as they lie in memory that stays as it is -/
def RdRow {α : Type} (w : World) (top : Nat → Prop) (rd : α → List Value → Prop) (size : Nat) (xs : List α) (a : Option Addr) (n cap : Nat) : Prop :=
  n = xs.length ∧ n ≤ cap ∧ match a with
  | none => cap = 0
  | some ad => (0 < cap → ad.spot = none) ∧ ∀ i x, xs[i]? = some x → top ad.block ∧ ∃ l, l.length = size ∧ rd x l ∧ ∀ j v, l[j]? = some v → w.cell? ⟨ad.block, ad.off + i * size + j, none⟩ = some v

def RdT (w : World) (S : Nat → Prop) : (c : CK) → c.T → List Value → Prop
  | .unit, _, l => l = []
  | .int k, n, l => l = [.int k n]
  | .bool, b, l => l = [.bool b]
  | .str, s, l => l = [.string s]
  | .sl _ c, xs, l => ∃ a n cap, l = [.slice a n cap] ∧ RdRow w S (RdT w S c) c.size xs a n cap
  | .pair a b, x, l => ∃ l1 l2, l = l1 ++ l2 ∧ RdT w S a x.1 l1 ∧ RdT w S b x.2 l2
  | .any, _, l => ∃ v, l = [v]
  | .arr k n, xs, l => l = (List.range n).map fun i => Value.int k (xs.getD i 0)

theorem RdT.length {w : World} {S : Nat → Prop} : ∀ {c : CK} {x : c.T} {l : List Value}, RdT w S c x l → l.length = c.size
  | .unit, _, _, h => by simp only [RdT] at h; subst h; rfl
  | .int _, _, _, h => by simp only [RdT] at h; subst h; rfl
  | .bool, _, _, h => by simp only [RdT] at h; subst h; rfl
  | .str, _, _, h => by simp only [RdT] at h; subst h; rfl
  | .sl _ _, _, _, h => by simp only [RdT] at h; obtain ⟨_, _, _, rfl, _⟩ := h; rfl
  | .pair a b, _, _, h => by
    simp only [RdT] at h; obtain ⟨l1, l2, rfl, h1, h2⟩ := h
    simp [CK.size, RdT.length h1, RdT.length h2]
  | .any, _, _, h => by obtain ⟨v, rfl⟩ := h; rfl
  | .arr _ n, _, _, h => by simp only [RdT] at h; subst h; simp [CK.size]

theorem RdT.one {w : World} {S : Nat → Prop} : ∀ {c : CK} {x : c.T} {l : List Value}, c.whole = true → RdT w S c x l → ∀ v ∈ l, v.oneCell' = true
  | .unit, _, _, _, h => by simp only [RdT] at h; subst h; simp
  | .int _, _, _, _, h => by simp only [RdT] at h; subst h; simp [Value.oneCell']
  | .bool, _, _, _, h => by simp only [RdT] at h; subst h; simp [Value.oneCell']
  | .str, _, _, _, h => by simp only [RdT] at h; subst h; simp [Value.oneCell']
  | .sl _ _, _, _, _, h => by simp only [RdT] at h; obtain ⟨_, _, _, rfl, _⟩ := h; simp [Value.oneCell']
  | .pair a b, _, _, hw, h => by
    simp only [CK.whole, Bool.and_eq_true] at hw
    simp only [RdT] at h; obtain ⟨l1, l2, rfl, h1, h2⟩ := h
    intro v hv
    rcases List.mem_append.1 hv with hv | hv
    · exact RdT.one hw.1 h1 v hv
    · exact RdT.one hw.2 h2 v hv
  | .any, _, _, hw, _ => by cases hw
  | .arr _ _, _, _, _, h => by
    simp only [RdT] at h; subst h
    intro v hv
    obtain ⟨i, _, rfl⟩ := List.mem_map.1 hv
    rfl

theorem RdRow.mono {α : Type} {w w' : World} {top top' : Nat → Prop} {rd rd' : α → List Value → Prop} {size : Nat} {xs : List α} {a : Option Addr} {n cap : Nat}
    (h : RdRow w top rd size xs a n cap) (ht : ∀ b, top b → top' b) (hw : ∀ b, top b → w'.heap[b]? = w.heap[b]?) (hr : ∀ x l, rd x l → rd' x l) : RdRow w' top' rd' size xs a n cap := by
  refine ⟨h.1, h.2.1, ?_⟩
  have h3 := h.2.2
  cases a with
  | none => exact h3
  | some ad =>
    refine ⟨h3.1, fun i x hx => ?_⟩
    obtain ⟨t, l, hl, hrd, hc⟩ := h3.2 i x hx
    refine ⟨ht _ t, l, hl, hr _ _ hrd, fun j v hv => ?_⟩
    rw [World.cell?_of_block (w := w) (a := ⟨ad.block, ad.off + i * size + j, none⟩) (hw _ t)]
    exact hc j v hv

theorem RdT.mono {w w' : World} {S S' : Nat → Prop} (hS : ∀ b, S b → S' b) (hw : ∀ b, S b → w'.heap[b]? = w.heap[b]?) : ∀ {c : CK} {x : c.T} {l : List Value}, RdT w S c x l → RdT w' S' c x l
  | .unit, _, _, h => by simpa only [RdT] using h
  | .int _, _, _, h => by simpa only [RdT] using h
  | .bool, _, _, h => by simpa only [RdT] using h
  | .str, _, _, h => by simpa only [RdT] using h
  | .sl _ c, _, _, h => by
    simp only [RdT] at h ⊢; obtain ⟨a, n, cap, rfl, h⟩ := h
    exact ⟨a, n, cap, rfl, h.mono hS hw fun x l => RdT.mono hS hw⟩
  | .pair a b, _, _, h => by
    simp only [RdT] at h ⊢; obtain ⟨l1, l2, rfl, h1, h2⟩ := h
    exact ⟨l1, l2, rfl, RdT.mono hS hw h1, RdT.mono hS hw h2⟩
  | .any, _, _, h => h
  | .arr _ _, _, _, h => h

/-! how an abstract state stands for a real one -/
structure Emb where
  bl : Nat → Nat
  row : Id → Option Nat
  val : Id → Value
  S : Nat → Prop

def ptrV (m : Emb) (p : Nat × Nat) : Value := .pointer (some ⟨m.bl p.1, p.2, none⟩)

/-- a row of the call's own: where it lies -/
def OwnBlk (m : Emb) (w : World) (id : Id) (e : TypeId) (size : Nat) (a : Option Addr) (n cap : Nat) : Prop :=
  match a with
  | none => n = 0 ∧ cap = 0
  | some ad => m.row id = some ad.block ∧ ∃ cur, w.heap[ad.block]? = some (.cells cur e (0, 0)) ∧ ad.off + cap * size ≤ cur.size ∧ ad.spot = none

def OwnV (m : Emb) (w : World) (id : Id) (vw : Bool) (e : TypeId) (c : CK) (xs : List c.T) (v : Value) : Prop :=
  ∃ a n cap, v = .slice a n cap ∧ RdRow w (fun b => m.row id = some b) (RdT w m.S c) c.size xs a n cap ∧ OwnBlk m w id e c.size a n cap ∧ (vw = false → v = m.val id)

def RoV (m : Emb) (w : World) (c : CK) (xs : List c.T) (v : Value) : Prop :=
  ∃ a n cap, v = .slice a n cap ∧ RdRow w m.S (RdT w m.S c) c.size xs a n cap

/-- a slice of so many elements -/
def SlV (v : Value) (n : Nat) : Prop := ∃ a cap, v = .slice a n cap ∧ n ≤ cap ∧ match a with | none => cap = 0 | some ad => 0 < cap → ad.spot = none

def RelAC (m : Emb) (st : St) (w : World) : AC → Value → Prop
  | .int k n, v => v = .int k n
  | .bool b, v => v = .bool b
  | .str s, v => v = .string s
  | .nil, v => v = .slice none 0 0
  | .sl id own vw e c xs _, v => (own = true → st.used id.1 = true) ∧ SlV v xs.length ∧
      if own then (st.dead id = true ∨ OwnV m w id vw e c xs v) else RoV m w c xs v
  | .ptr b off, v => (st.box b).isSome = true ∧ v = .pointer (some ⟨m.bl b, off, none⟩)
  | .fn f fst caps, v => (∀ p ∈ caps, (st.box p.1).isSome = true) ∧ v = .func (.func f) (cond fst (caps.map (ptrV m)).toArray #[]) (cond fst #[] (caps.map (ptrV m)).toArray)
  | .undef, v => v = undef
  | .bad, _ => True

def RelC (m : Emb) (st : St) (w : World) (p : Bool × List AC) (v : Value) : Prop :=
  if p.1 then ∃ arr, v = .agg arr ∧ All2 (RelAC m st w) p.2 arr.toList else ∃ x, p.2 = [x] ∧ RelAC m st w x v

def RelAV (m : Emb) (st : St) (w : World) : AV → Value → Prop
  | .one x, v => RelAC m st w x v
  | .agg l, v => ∃ arr, v = .agg arr ∧ All2 (RelAC m st w) l arr.toList
  | .tup l, v => ∃ vs, v = .tuple vs ∧ All2 (RelC m st w) l vs.toList
  | .ep id e c xs i off src own, v => (own = true → st.used id.1 = true) ∧ i < xs.length ∧ ∃ b o, v = .pointer (some ⟨b, o + off, none⟩) ∧
      ((own = true ∧ st.dead id = true) ∨ ∃ ad n cap, b = ad.block ∧ o = ad.off + i * c.size ∧
        (if own then OwnV m w id true e c xs (.slice (some ad) n cap) ∧ (src ≠ .no → m.val id = .slice (some ad) n cap) else RoV m w c xs (.slice (some ad) n cap)))
  | .pi b off n _ j, v => (st.box b).isSome = true ∧ j < n ∧ v = .pointer (some ⟨m.bl b, off + j, none⟩)

structure MemRel (m : Emb) (st : St) (w : World) (base : Nat) (Mod : Nat → Prop) : Prop where
  box : ∀ k T l, st.box k = some (T, l) → ∃ arr, w.heap[m.bl k]? = some (.cells arr T (0, 0)) ∧ All2 (RelAC m st w) l arr.toList
  boxS : ∀ k, (st.box k).isSome = true → ¬ m.S (m.bl k) ∧ (st.lock k = false → base ≤ m.bl k ∨ Mod (m.bl k))
  boxI : ∀ k k', (st.box k).isSome = true → (st.box k').isSome = true → m.bl k = m.bl k' → k = k' ∨ (st.lock k = true ∧ st.lock k' = true)
  boxU : ∀ k, (st.box k).isSome = true → st.used k = true
  row : ∀ id b, m.row id = some b → st.dead id = false → b < w.heap.size ∧ (base ≤ b ∨ Mod b) ∧ (∀ k, (st.box k).isSome = true → m.bl k ≠ b)
  rowI : ∀ id id' b, m.row id = some b → m.row id' = some b → st.dead id = false → st.dead id' = false → id = id'
  rowS : ∀ id b, m.row id = some b → st.dead id = false → (m.S b ↔ st.ice id = true)
  rowU : ∀ id b, m.row id = some b → st.used id.1 = true
  S : ∀ b, m.S b → b < w.heap.size
  iceU : ∀ id, st.ice id = true → st.used id.1 = true
  deadU : ∀ id, st.dead id = true → st.used id.1 = true

/-- of what was there nothing has turned, but what may -/
structure Frm (base : Nat) (Mod : Nat → Prop) (w0 w : World) : Prop where
  os : w.os = w0.os
  tape : w.tape = w0.tape
  output : w.output = w0.output
  at0 : base = w0.heap.size
  size : w0.heap.size ≤ w.heap.size
  block : ∀ k, k < base → ¬ Mod k → w.heap[k]? = w0.heap[k]?

/-- where a call began: the memory, and the blocks of what it was handed -/
structure Org where
  w : World
  bl : Nat → Nat
  S : Nat → Prop
  pin : Nat → Option Value

/-- the boxes that were handed in lie where they lay; what may be shared is what was, or what is one's own -/
def Since (w0 : Org) (base : Nat) (Mod : Nat → Prop) (m : Emb) : Prop :=
  (∀ k, k < 1000 → m.bl k = w0.bl k) ∧ (∀ b, w0.S b → m.S b) ∧ ∀ b, m.S b → w0.S b ∨ base ≤ b ∨ Mod b

/-- no deferred calls; what was to stay in a slot is there -/
def ActOk (N : Rim) (w0 : Org) (a : Act) : Prop := a.defers = [] ∧ ∀ t v, w0.pin t = some v → N.2 t = true ∧ a.tmps.getD t undef = v

/-- the package's table lies there, and stays -/
def GlobOk (P : Program) (w : World) (S : Nat → Prop) : Prop := ∀ g, tabOf P g = true → S g ∧ ∀ i x, shaTab[i]? = some x → w.cell? ⟨g, i, none⟩ = some (.int .u32 x)

def Glob (N : Rim) (w0 : Org) (base : Nat) (Mod : Nat → Prop) : Prop := GlobOk N.P w0.w w0.S ∧ ∀ g, tabOf N.P g = true → g < base ∧ ¬ Mod g

structure Rel (N : Rim) (base : Nat) (Mod : Nat → Prop) (w0 : Org) (m : Emb) (st : St) (a : Act) (w : World) : Prop where
  defers : ActOk N w0 a
  size : a.tmps.size = N.1
  slot : ∀ t, RelAV m st w (st.slot t) (a.tmps.getD t undef)
  mem : MemRel m st w base Mod
  frm : Frm base Mod w0.w w
  fix : Since w0 base Mod m
  glob : Glob N w0 base Mod

theorem GlobOk.mono {P : Program} {w w' : World} {S S' : Nat → Prop} (h : GlobOk P w S) (hS : ∀ b, S b → S' b) (hw : ∀ b, S b → w'.heap[b]? = w.heap[b]?) : GlobOk P w' S' :=
  fun g hg => ⟨hS _ (h g hg).1, fun i x hx => by rw [World.cell?_of_block (w := w) (a := ⟨g, i, none⟩) (hw _ (h g hg).1)]; exact (h g hg).2 i x hx⟩

theorem Rel.globOk {N : Rim} {base : Nat} {Mod : Nat → Prop} {w0 : Org} {m : Emb} {st : St} {a : Act} {w : World} (h : Rel N base Mod w0 m st a w) : GlobOk N.P w m.S :=
  fun g hg => ⟨h.fix.2.1 _ (h.glob.1 g hg).1, fun i x hx => by
    rw [World.cell?_of_block (w := w0.w) (a := ⟨g, i, none⟩) (h.frm.block g (h.glob.2 g hg).1 (h.glob.2 g hg).2)]
    exact (h.glob.1 g hg).2 i x hx⟩
end Go.Proofs.Ytjokcjlpciecoaa.Rx
