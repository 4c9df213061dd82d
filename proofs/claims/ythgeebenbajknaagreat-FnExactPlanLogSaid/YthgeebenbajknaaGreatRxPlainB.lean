/- The steps that lay a log: the reference's and the program's are the same. No condition beside those that each theorem states. -/
import Derived.Test.YthgeebenbajknaaGreatRxPlainA
import Derived.Test.YthgeebenbajknaaGreatRxFnsB
set_option linter.unusedVariables false
set_option linter.unusedSimpArgs false
namespace Go.Proofs.YthgeebenbajknaaGreat.Rx

/-- a right disk -/
structure Right (d : DiskT) : Prop where
  small : Small d
  ok : diskS d = true
theorem Right.ok' {d : DiskT} (h : Right d) : diskI d = true := by rw [← disk_same]; exact h.ok
theorem Right.parts {d : DiskT} (h : Right d) : 0 ≤ d.1 ∧ d.1 ≤ 1048576 ∧ 1 ≤ d.2.1 ∧ d.2.1 ≤ 1000000 ∧ d.2.2.1.length ≤ 10 ∧ d.2.2.2.2.length ≤ 20 ∧ d.2.2.2.1.length ≤ 10 ∧ bytesM d.2.2.1 ≤ d.1 ∧
    (List.range d.2.2.1.length).all (pIS d) = true ∧ (List.range d.2.2.2.1.length).all (pD d) = true ∧ (List.range d.2.2.2.2.length).all (pMS d) = true := by
  have := h.ok
  unfold diskS rg at this
  simp only [Bool.and_eq_true, decide_eq_true_eq] at this
  obtain ⟨h1, h2, h3, h4, h5, h6, h7, h8, h9⟩ := this
  exact ⟨h1.1, h1.2, h2.1, h2.2, by omega, by omega, by omega, h6, h7, h8, h9⟩
theorem Right.links {d : DiskT} (h : Right d) (n : Nat) : linksI d.2.2.2.1 (d.2.2.2.2.take n) = linksS d.2.2.2.1 (d.2.2.2.2.take n) ∧ Srt (linksS d.2.2.2.1 (d.2.2.2.2.take n)) := by
  obtain ⟨_, _, _, _, _, _, _, _, _, h8, h9⟩ := h.parts
  by_cases hn : n ≤ d.2.2.2.2.length
  · exact links_same h8 n hn fun j hj => range_all.1 h9 j (by omega)
  · rw [List.take_of_length_le (show d.2.2.2.2.length ≤ n by omega)]
    have := links_same h8 d.2.2.2.2.length (Nat.le_refl _) fun j hj => range_all.1 h9 j hj
    rwa [List.take_length] at this

/-- the names behind the first moves -/
def namesM (d : DiskT) (n : Nat) : List LinkT := linksS d.2.2.2.1 (d.2.2.2.2.take n)
theorem namesM_len (d : DiskT) (n : Nat) : (namesM d n).length ≤ d.2.2.2.1.length + d.2.2.2.2.length := by
  unfold namesM
  have := linksS_len (d.2.2.2.2.take n) d.2.2.2.1
  rw [List.length_take] at this
  omega

theorem foldl_links (dir : List LinkT) (ms : List MoveT) : ms.foldl (fun l m => (applyS l m).1) dir = linksS dir ms := rfl
theorem foldl_linksI (dir : List LinkT) (ms : List MoveT) : ms.foldl (fun l m => (applyI l m).1) dir = linksI dir ms := rfl

theorem specNames {k : Nat} (hk : 9223372036854775808 ≤ k) {d : DiskT} (hs : Small d) (n : Int) : spec_l4Names.f k d n = some (namesM d n.toNat) := by
  have hd := hs.dir
  have hm := hs.mov
  unfold spec_l4Names.f
  rw [app_ok (by unfold limOf; simp only [List.length_nil]; omega)]
  simp only [Option.bind_some, List.nil_append, Prod.eta]
  obtain ⟨ms, hms⟩ : ∃ ms, d.2.2.2.2.take n.toNat = ms := ⟨_, rfl⟩
  have hl : ms.length = min n.toNat d.2.2.2.2.length := by rw [← hms, List.length_take]
  have hat : ∀ i (hi : i < ms.length), d.2.2.2.2[i]? = some ms[i] := fun i hi => by
    rw [← List.getElem?_eq_getElem hi, ← hms, List.getElem?_take, if_pos (by omega)]
  have key := iter_foldl (B := spec_l4Names.b0 k) ms (fun i a => (n, [], a, (i : Int), d)) (fun l m => (applyS l m).1) (fun a => .inl ([], a)) d.2.2.2.1 (fun i hi => by
    have e1 : decide ((i : Int) < n) = true := by simp; omega
    have e2 : decide ((i : Int) < (d.2.2.2.2.length : Int)) = true := by simp; omega
    have e3 : inb? d.2.2.2.2.length (i : Int) = some i := by rw [inb_ok (by omega) (by omega), Int.toNat_natCast]
    have hll := linksS_len (ms.take i) d.2.2.2.1
    rw [List.length_take] at hll
    obtain ⟨n1, n2⟩ := hs.movN ms[i] (List.mem_of_getElem? (hat i hi))
    simp only [foldl_links]
    unfold spec_l4Names.b0
    dsimp only
    simp only [e1, e2, cond_true, e3, Option.bind_some, hat i hi, Prod.eta]
    rw [specApply hk _ _ (by omega) n1 n2]
    simp only [Option.bind_some]
    rw [wrap_i64 (by omega) (by omega)]
    rfl) (by
    unfold spec_l4Names.b0
    dsimp only
    by_cases c : (ms.length : Int) < n
    · have e1 : decide ((ms.length : Int) < n) = true := decide_eq_true c
      have e2 : decide ((ms.length : Int) < (d.2.2.2.2.length : Int)) = false := by simp; omega
      rw [e1, e2]; rfl
    · have e1 : decide ((ms.length : Int) < n) = false := decide_eq_false c
      rw [e1]; rfl) k (by omega)
  have e0 : ((0 : Nat) : Int) = 0 := rfl
  simp only [e0] at key
  rw [key]
  simp only [Option.bind_some, foldl_links]
  rw [← hms]
  rfl

theorem implNames {k : Nat} (hk : 9223372036854775808 ≤ k) {d : DiskT} (hr : Right d) (n : Int) (h0 : 0 ≤ n) (h1 : n ≤ d.2.2.2.2.length) : impl_Disk_names.f k d n = some (namesM d n.toNat) := by
  have hd := hr.small.dir
  have hm := hr.small.mov
  have hL := (hr.links n.toNat).1
  unfold impl_Disk_names.f impl_copyLinks.f
  rw [app_ok (by unfold limOf; simp only [List.length_nil]; omega)]
  simp only [Option.bind_some, List.nil_append]
  rw [cut_ok (by omega) (by omega) (by omega)]
  simp only [Option.bind_some, Int.toNat_zero, List.drop_zero]
  unfold namesM
  rw [← hL]
  obtain ⟨ms, hms⟩ : ∃ ms, d.2.2.2.2.take n.toNat = ms := ⟨_, rfl⟩
  have hl : ms.length = min n.toNat d.2.2.2.2.length := by rw [← hms, List.length_take]
  rw [hms]
  have key := iter_foldl (B := impl_Disk_names.b0 k) ms (fun i a => ([], a, ms, (ms.length : Int), (i : Int))) (fun l m => (applyI l m).1) (fun a => .inl ([], a)) d.2.2.2.1 (fun i hi => by
    have e1 : decide ((i : Int) < (ms.length : Int)) = true := by simp; omega
    have e3 : inb? ms.length (i : Int) = some i := by rw [inb_ok (by omega) (by omega), Int.toNat_natCast]
    have hll := linksI_len (ms.take i) d.2.2.2.1
    rw [List.length_take] at hll
    obtain ⟨n1, n2⟩ := hr.small.movN ms[i] (List.mem_of_mem_take (by rw [hms]; exact List.getElem_mem hi))
    simp only [foldl_linksI]
    unfold impl_Disk_names.b0
    dsimp only
    simp only [e1, cond_true, e3, Option.bind_some, List.getElem?_eq_getElem hi, Prod.eta]
    rw [implApply hk _ _ (by omega) n2]
    simp only [Option.bind_some]
    rw [wrap_i64 (by omega) (by omega)]
    rfl) (by
    have e1 : decide ((ms.length : Int) < (ms.length : Int)) = false := by simp
    unfold impl_Disk_names.b0
    dsimp only
    rw [e1]; rfl) k (by omega)
  have e0 : ((0 : Nat) : Int) = 0 := rfl
  simp only [e0] at key
  rw [key]
  rfl

def nowM (d : DiskT) : List LinkT := namesM d d.2.2.2.2.length
theorem specNow {k : Nat} (hk : 9223372036854775808 ≤ k) {d : DiskT} (hs : Small d) : spec_l4Names.f k d (d.2.2.2.2.length : Int) = some (nowM d) := specNames hk hs _
theorem implNow {k : Nat} (hk : 9223372036854775808 ≤ k) {d : DiskT} (hr : Right d) : impl_Disk_now.f k d = some (nowM d) := by
  unfold impl_Disk_now.f
  try simp only [Prod.eta]
  rw [implNames hk hr _ (by omega) (by omega)]
  rfl

/-- the place of a name's inode, or -1 -/
def fileM (d : DiskT) (n : ByteArray) : Int := bif decide (at? (nowM d) n < 0) then -1 else idxOf (fun x => decide (x.1 = idAt (nowM d) n)) d.2.2.1
theorem fileM_lt (d : DiskT) (n : ByteArray) : -1 ≤ fileM d n ∧ fileM d n < d.2.2.1.length := by
  unfold fileM
  have := idxOf_lt (fun x : InodeT => decide (x.1 = idAt (nowM d) n)) d.2.2.1
  cases decide (at? (nowM d) n < 0) with
  | true => simp only [cond_true]; omega
  | false => simpa using this

theorem nowM_len {d : DiskT} (hs : Small d) : (nowM d).length ≤ 4194304 := by
  have := namesM_len d d.2.2.2.2.length
  have := hs.dir
  have := hs.mov
  unfold nowM
  omega

theorem specFind {k : Nat} (hk : 9223372036854775808 ≤ k) {d : DiskT} (hs : Small d) (n : ByteArray) : spec_l4Find.f k d n = some (fileM d n) := by
  unfold spec_l4Find.f fileM
  simp only [Prod.eta, specNow hk hs, Option.bind_some, specAt hk _ n (nowM_len hs)]
  have hat : idxOf (fun x => decide (x.1 = n)) (nowM d) = at? (nowM d) n := rfl
  rw [hat]
  by_cases c : at? (nowM d) n < 0
  · rw [decide_eq_true c]; rfl
  · obtain ⟨e1, x, e2, e3⟩ := idAt_get (l := nowM d) (n := n) (by omega)
    rw [decide_eq_false c]
    simp only [cond_false, e1, e2, Option.bind_some, specInode hk d _ hs.ino, e3]
theorem implFile {k : Nat} (hk : 9223372036854775808 ≤ k) {d : DiskT} (hr : Right d) (n : ByteArray) : impl_Disk_file.f k d n = some (fileM d n) := by
  unfold impl_Disk_file.f fileM
  simp only [Prod.eta, implNow hk hr, Option.bind_some, implAt hk _ n (nowM_len hr.small)]
  have hat : idxOf (fun x => decide (x.1 = n)) (nowM d) = at? (nowM d) n := rfl
  rw [hat]
  by_cases c : at? (nowM d) n < 0
  · rw [decide_eq_true c]; rfl
  · obtain ⟨e1, x, e2, e3⟩ := idAt_get (l := nowM d) (n := n) (by omega)
    rw [decide_eq_false c]
    simp only [cond_false, e1, e2, Option.bind_some, implInode hk d _ hr.small.ino, e3]

/-- a result's rows are not too long to be marked -/
def Fits (d : DiskT) : Prop := d.2.2.1.length ≤ 4194304 ∧ d.2.2.2.1.length ≤ 4194304 ∧ d.2.2.2.2.length ≤ 4194304
theorem Small.fits {d : DiskT} (h : Small d) : Fits d := ⟨by have := h.ino; omega, by have := h.dir; omega, by have := h.mov; omega⟩

/-! the calls -/

theorem bytesM_amt (l : List InodeT) : bytesM l = amtI l := by unfold bytesM; rw [bytes_fold]; simp
theorem amtI_mem {l : List InodeT} {x : InodeT} (h : x ∈ l) : x.2.1.size ≤ amtI l := by
  obtain ⟨i, hi, rfl⟩ := List.getElem_of_mem h
  have := amtI_at hi
  omega

/-- the place of an inode that is there -/
theorem file_at {d : DiskT} {n : ByteArray} (h : ¬ fileM d n < 0) : inb? d.2.2.1.length (fileM d n) = some (fileM d n).toNat ∧ ∃ x, d.2.2.1[(fileM d n).toNat]? = some x ∧ x ∈ d.2.2.1 := by
  obtain ⟨h1, h2⟩ := fileM_lt d n
  have hlt : (fileM d n).toNat < d.2.2.1.length := by omega
  exact ⟨inb_ok (by omega) h2, _, List.getElem?_eq_getElem hlt, List.getElem_mem hlt⟩

theorem fits0 : Fits (0, 0, [], [], []) := ⟨Nat.zero_le _, Nat.zero_le _, Nat.zero_le _⟩

theorem eqd (a b : Int) (h : a ≤ b) : decide (a = b) = decide (b ≤ a) := by
  by_cases c : b ≤ a
  · have : a = b := by omega
    simp [this]
  · have : ¬ a = b := by omega
    simp [c, this]


end Go.Proofs.YthgeebenbajknaaGreat.Rx
namespace Go.Proofs.YthgeebenbajknaaGreat.Rx.V
open Go.Proofs.YthgeebenbajknaaGreat.Rx

theorem size_strOfNums (l : List Int) : (strOfNums l).size = l.length := by
  simp [strOfNums, ByteArray.size]

theorem l1 (k : Nat) (a b c : Int) : spec_l1In.f k a b c = some (decide (b ≤ a) && decide (a ≤ c)) := by
  unfold spec_l1In.f
  cases decide (b ≤ a) <;> rfl

theorem var_step {n : Int} (h0 : 0 ≤ n) (h1 : n ≤ 562949953421311) (a : ByteArray) (l : List Int) (k : Nat) : spec_Var.b0 k (n, a, l) = impl_Var.b0 k (n, a, l) := by
  unfold spec_Var.b0 impl_Var.b0
  dsimp only
  have e1 : decide (128 ≤ n) = decide (127 < n) := by by_cases h : 128 ≤ n <;> simp [h] <;> omega
  have e2 : IntKind.wrap .i64 (128 + n.tmod 128) = bits .or .i64 (bits .and .i64 n 127) 128 := by
    rw [low7 h0 (by omega), Int.tmod_eq_emod_of_nonneg h0]
    exact wrap_i64 (by omega) (by omega)
  have e3 : IntKind.wrap .i64 (n.tdiv 128) = n.fdiv (2 ^ (min (7 : Int).toNat (IntKind.bits .i64))) := by
    have : (2 ^ (min (7 : Int).toNat (IntKind.bits .i64)) : Int) = 128 := rfl
    rw [this, Int.tdiv_eq_ediv_of_nonneg h0, Int.fdiv_eq_ediv_of_nonneg n (by omega)]
    exact wrap_i64 (by omega) (by omega)
  rw [e1, e2, e3]

theorem var_next {n : Int} (h0 : 0 ≤ n) (h1 : n ≤ 562949953421311) (a : ByteArray) (l : List Int) (k : Nat) :
    spec_Var.b0 k (n, a, l) = if 128 ≤ n then (app? (limOf 1) l [IntKind.wrap .u8 (IntKind.wrap .i64 (128 + n.tmod 128))]).bind (fun l1 => some (.inl (n / 128, a, l1))) else some (.inr (.inl (n, a, l))) := by
  unfold spec_Var.b0
  dsimp only
  have e3 : IntKind.wrap .i64 (n.tdiv 128) = n / 128 := by
    rw [Int.tdiv_eq_ediv_of_nonneg h0]
    exact wrap_i64 (by omega) (by omega)
  rw [e3]
  by_cases h : 128 ≤ n <;> simp [h]

theorem var_same (k : Nat) (n : Int) : impl_Var.f k n = spec_Var.f k n := by
  unfold spec_Var.f impl_Var.f
  have e : impl_within.f k n 0 562949953421311 = spec_l1In.f k n 0 562949953421311 := rfl
  rw [e, l1]
  simp only [Option.bind_some]
  by_cases h : 0 ≤ n ∧ n ≤ 562949953421311
  · have : (decide (0 ≤ n) && decide (n ≤ 562949953421311)) = true := by simp [h.1, h.2]
    rw [this]
    simp only [Bool.not_true, cond_false]
    rw [← iter_same (B := spec_Var.b0 k) (B' := impl_Var.b0 k) (fun s => 0 ≤ s.1 ∧ s.1 ≤ 562949953421311) (fun s hs => ?_) k _ h]
    · rfl
    · obtain ⟨m, a, l⟩ := s
      refine ⟨var_step hs.1 hs.2 a l k, fun s' hs' => ?_⟩
      rw [var_next hs.1 hs.2] at hs'
      split at hs'
      · obtain ⟨l1, h1, h2⟩ := Option.bind_eq_some_iff.1 hs'
        simp only [Option.some.injEq, Sum.inl.injEq] at h2
        subst h2
        dsimp only at hs ⊢
        omega
      · simp at hs'
  · have : (decide (0 ≤ n) && decide (n ≤ 562949953421311)) = false := by
      by_cases h1 : 0 ≤ n
      · have : ¬ n ≤ 562949953421311 := fun h2 => h ⟨h1, h2⟩
        simp [this]
      · simp [h1]
    rw [this]
    rfl

theorem var_some {k : Nat} (hk : 9223372036854775808 ≤ k) (n : Int) : ∃ s, spec_Var.f k n = some s ∧ s.size ≤ 17592186044416 := by
  unfold spec_Var.f
  rw [l1]
  simp only [Option.bind_some]
  by_cases h : 0 ≤ n ∧ n ≤ 562949953421311
  · have : (decide (0 ≤ n) && decide (n ≤ 562949953421311)) = true := by simp [h.1, h.2]
    rw [this]
    simp only [Bool.not_true, cond_false]
    obtain ⟨x, hx, hq⟩ := iter_some (B := spec_Var.b0 k) (fun s => 0 ≤ s.1 ∧ s.1 ≤ 562949953421311 ∧ 64 * s.2.2.length + s.1.toNat ≤ 562949953421311) (fun s => s.1.toNat)
      (fun x => ∃ y, x = .inl y ∧ 64 * y.2.2.length ≤ 562949953421311) (fun s hs => by
        obtain ⟨m, a, l⟩ := s
        dsimp only at hs ⊢
        rw [var_next hs.1 hs.2.1]
        by_cases h : 128 ≤ m
        · rw [if_pos h]
          rw [app_ok (by simp only [List.length_cons, List.length_nil]; unfold limOf; omega)]
          refine .inl ⟨_, rfl, ?_, ?_⟩
          · dsimp only
            rw [List.length_append]
            simp only [List.length_cons, List.length_nil]
            omega
          · dsimp only; omega
        · rw [if_neg h]
          exact .inr ⟨_, rfl, _, rfl, by dsimp only; omega⟩) k (n, ⟨#[]⟩, []) ⟨h.1, h.2, by simp; omega⟩ (by dsimp only; omega)
    obtain ⟨y, rfl, hy⟩ := hq
    rw [hx]
    simp only [Option.bind_some]
    unfold spec_Var.d0
    rw [app_ok (by simp only [List.length_cons, List.length_nil]; unfold limOf; omega)]
    refine ⟨_, rfl, ?_⟩
    rw [size_strOfNums, List.length_append]
    simp only [List.length_cons, List.length_nil]
    omega
  · have : (decide (0 ≤ n) && decide (n ≤ 562949953421311)) = false := by
      by_cases h1 : 0 ≤ n
      · have : ¬ n ≤ 562949953421311 := fun h2 => h ⟨h1, h2⟩
        simp [this]
      · simp [h1]
    rw [this]
    exact ⟨_, rfl, by decide⟩
theorem var_eq : impl_Var.f = spec_Var.f := by funext k n; exact var_same k n

theorem ex_cond {α : Type} {c : Bool} {x y : Option α} {Q : α → Prop} (h : ∃ b, x = some b ∧ Q b) (h' : ∃ b, y = some b ∧ Q b) : ∃ b, (bif c then x else y) = some b ∧ Q b := by
  cases c
  · exact h'
  · exact h

theorem ex_bind {α β : Type} {x : Option α} {f : α → Option β} {P : α → Prop} {Q : β → Prop} (h : ∃ a, x = some a ∧ P a) (hf : ∀ a, P a → ∃ b, f a = some b ∧ Q b) : ∃ b, x.bind f = some b ∧ Q b := by
  obtain ⟨a, rfl, ha⟩ := h
  exact hf a ha

theorem ex_cat {a b : ByteArray} {m n : Nat} (h1 : a.size ≤ m) (h2 : b.size ≤ n) (h : m + n ≤ 9223372036854775807) : ∃ s, cat? a b = some s ∧ s.size ≤ m + n :=
  ⟨_, cat_ok (by omega), by rw [ByteArray.size_append]; omega⟩

theorem byteAt_ge (s : ByteArray) (i : Nat) : 0 ≤ byteAt s i := by unfold byteAt; split <;> omega
theorem byteAt_le (s : ByteArray) (i : Nat) : byteAt s i ≤ 255 := by
  unfold byteAt; split
  · have := (s[i]).toNat_lt; omega
  · omega
theorem iter_inl {S X : Type} {B : S → Option (S ⊕ X)} {k : Nat} {s s' : S} (h : B s = some (.inl s')) : iter B (k + 1) s = iter B k s' := by simp [iter, h]
theorem iter_inr {S X : Type} {B : S → Option (S ⊕ X)} {k : Nat} {s : S} {x : X} (h : B s = some (.inr x)) : iter B (k + 1) s = some x := by simp [iter, h]


end Go.Proofs.YthgeebenbajknaaGreat.Rx.V
namespace Go.Proofs.YthgeebenbajknaaGreat.Rx.W
open Go.Proofs.YthgeebenbajknaaGreat.Rx

/-! rounds that look at one element after the other -/
theorem all_iter {S X : Type} {B : S → Option (S ⊕ X)} (n : Nat) (st : Nat → S) (p : Nat → Bool) (xt xf : X) (h : ∀ i, i < n → B (st i) = if p i then some (.inl (st (i + 1))) else some (.inr xf)) (hx : B (st n) = some (.inr xt)) :
    ∀ k, n < k → iter B k (st 0) = some (if (List.range n).all p then xt else xf) := by
  have key : ∀ d i k, i + d = n → d < k → iter B k (st i) = some (if (List.range' i d).all p then xt else xf) := by
    intro d
    induction d with
    | zero =>
      intro i k hi hk
      obtain ⟨k, rfl⟩ : ∃ m, k = m + 1 := ⟨k - 1, by omega⟩
      have : i = n := by omega
      subst this
      simp [iter, hx]
    | succ d ih =>
      intro i k hi hk
      obtain ⟨k, rfl⟩ : ∃ m, k = m + 1 := ⟨k - 1, by omega⟩
      have h1 := h i (by omega)
      rw [List.range'_succ, List.all_cons]
      cases hp : p i with
      | true =>
        rw [hp] at h1
        simp only [iter, h1, if_true, Option.bind_some, Bool.true_and]
        exact ih (i + 1) k (by omega) (by omega)
      | false =>
        rw [hp] at h1
        simp [iter, h1]
  intro k hk
  have := key n 0 k (by omega) hk
  rw [← List.range_eq_range'] at this
  exact this

theorem range_all {n : Nat} {p : Nat → Bool} : (List.range n).all p = true ↔ ∀ i, i < n → p i = true := by
  simp [List.all_eq_true]

/-- two looks that agree as long as all went well -/
theorem all_same {n : Nat} {p q : Nat → Bool} (h : ∀ i, i < n → (∀ j, j < i → p j = true) → p i = q i) : (List.range n).all p = (List.range n).all q := by
  have h1 : (List.range n).all p = true → (List.range n).all q = true := fun hp => by
    rw [range_all] at hp ⊢
    intro i hi
    rw [← h i hi fun j hj => hp j (by omega)]
    exact hp i hi
  have h2 : (List.range n).all q = true → (List.range n).all p = true := fun hq => by
    rw [range_all] at hq ⊢
    intro i
    induction i using Nat.strongRecOn with
    | _ i ih =>
      intro hi
      rw [h i hi fun j hj => ih j hj (by omega)]
      exact hq i hi
  cases hp : (List.range n).all p with
  | true => exact (h1 hp).symm
  | false =>
    cases hq : (List.range n).all q with
    | true => rw [h2 hq] at hp; cases hp
    | false => rfl

theorem l1 (k : Nat) (a b c : Int) : spec_l1In.f k a b c = some (decide (b ≤ a) && decide (a ≤ c)) := by
  unfold spec_l1In.f
  cases decide (b ≤ a) <;> rfl
theorem within_eq (k : Nat) (a b c : Int) : impl_within.f k a b c = some (decide (b ≤ a) && decide (a ≤ c)) := l1 k a b c

/-- the term ahead of an entry -/
def lastOf (l : List (Int × ByteArray)) (d : Int) : Nat → Int
  | 0 => d
  | i + 1 => ((l[i]?).map (·.1)).getD d
theorem lastOf_succ (l : List (Int × ByteArray)) (d : Int) {i : Nat} (h : i < l.length) : lastOf l d (i + 1) = l[i].1 := by
  simp [lastOf, h]

theorem based_eq (k : Nat) (a b : Int) : spec_l5Based.f k a b = some (decide ((a = 0 ∧ b = 0) ∨ (1 ≤ a ∧ a ≤ 100000 ∧ 1 ≤ b ∧ b ≤ 100000))) := by
  unfold spec_l5Based.f
  simp only [l1, Option.bind_some]
  by_cases h : a = 0
  · subst h
    simp
  · rw [decide_eq_false h, cond_false]
    cases h1 : (decide (1 ≤ a) && decide (a ≤ 100000)) <;> simp only [cond_true, cond_false, Option.some.injEq] <;> rw [Bool.eq_iff_iff] <;> simp at h1 ⊢ <;> omega

theorem isBase_eq (k : Nat) (a b : Int) : impl_isBase.f k a b = spec_l5Based.f k a b := by
  rw [based_eq]
  unfold impl_isBase.f
  simp only [within_eq, Option.bind_some]
  by_cases h : a = 0
  · subst h
    by_cases h2 : b = 0
    · subst h2; rfl
    · simp [h2]
  · rw [decide_eq_false h, cond_false]
    cases h1 : (decide (1 ≤ a) && decide (a ≤ 100000)) <;> simp only [cond_true, cond_false, Option.some.injEq] <;> rw [Bool.eq_iff_iff] <;> simp at h1 ⊢ <;> omega

/-- what makes a log right -/
def entP (term d : Int) (l : List (Int × ByteArray)) (i : Nat) : Bool := match l[i]? with
  | some y => decide (1 ≤ y.1) && decide (lastOf l d i ≤ y.1) && decide (y.1 ≤ term) && decide (y.2.size ≤ 900)
  | none => true
def walB (w : Int × Int × Int × Int × List (Int × ByteArray)) : Bool :=
  (decide (0 ≤ w.1) && decide (w.1 ≤ 100000)) && (decide (-1 ≤ w.2.1) && decide (w.2.1 ≤ 4)) && decide ((w.2.2.1 = 0 ∧ w.2.2.2.1 = 0) ∨ (1 ≤ w.2.2.1 ∧ w.2.2.1 ≤ 100000 ∧ 1 ≤ w.2.2.2.1 ∧ w.2.2.2.1 ≤ 100000)) &&
    decide (w.2.2.2.1 ≤ w.1) && decide (w.2.2.2.2.length ≤ 60) && decide (w.2.2.1 + w.2.2.2.2.length ≤ 100000) && (List.range w.2.2.2.2.length).all (entP w.1 w.2.2.2.1 w.2.2.2.2)

theorem specWal {k : Nat} (hk : 9223372036854775808 ≤ k) (w : Int × Int × Int × Int × List (Int × ByteArray)) (hl : w.2.2.2.2.length ≤ 1048576) : spec_WalOk.f k w = some (walB w) := by
  obtain ⟨term, vote, base, bterm, l⟩ := w
  dsimp only at hl
  unfold spec_WalOk.f walB
  simp only [l1, based_eq, Option.bind_some]
  cases h1 : (decide (0 ≤ term) && decide (term ≤ 100000))
  · rfl
  cases h2 : (decide (-1 ≤ vote) && decide (vote ≤ 4))
  · rfl
  cases h3 : decide ((base = 0 ∧ bterm = 0) ∨ (1 ≤ base ∧ base ≤ 100000 ∧ 1 ≤ bterm ∧ bterm ≤ 100000))
  · rfl
  simp only [Bool.and_eq_true, decide_eq_true_eq] at h1 h2 h3
  simp only [Bool.not_true, cond_false, Bool.true_and]
  by_cases h4 : bterm ≤ term
  rotate_left
  · rw [decide_eq_true (show term < bterm by omega), decide_eq_false h4]; rfl
  rw [decide_eq_false (show ¬ term < bterm by omega), decide_eq_true h4, cond_false, Bool.true_and]
  by_cases h5 : l.length ≤ 60
  rotate_left
  · rw [decide_eq_true (show (60 : Int) < (l.length : Int) by omega), decide_eq_false h5]; rfl
  rw [decide_eq_false (show ¬ (60 : Int) < (l.length : Int) by omega), decide_eq_true h5, cond_false, Bool.true_and, wrap_i64 (by omega) (by omega)]
  by_cases h6 : base + l.length ≤ 100000
  rotate_left
  · rw [decide_eq_true (show (100000 : Int) < base + (l.length : Int) by omega), decide_eq_false h6]; rfl
  rw [decide_eq_false (show ¬ (100000 : Int) < base + (l.length : Int) by omega), decide_eq_true h6, cond_false, Bool.true_and]
  have key := all_iter (B := spec_WalOk.b0 k) l.length (fun i => (false, lastOf l bterm i, (i : Int), term, vote, base, bterm, l)) (entP term bterm l) (.inl false) (.inr false) (fun i hi => by
    have e1 : decide ((i : Int) < (l.length : Int)) = true := by simp; omega
    have e2 : inb? l.length (i : Int) = some i := by rw [inb_ok (by omega) (by omega), Int.toNat_natCast]
    unfold spec_WalOk.b0 entP
    dsimp only
    rw [lastOf_succ l bterm hi]
    simp (disch := omega) only [e1, cond_true, e2, Option.bind_some, List.getElem?_eq_getElem hi, wrap_i64]
    by_cases a1 : l[i].1 < 1
    · rw [decide_eq_true a1, decide_eq_false (show ¬ 1 ≤ l[i].1 by omega)]; rfl
    rw [decide_eq_false a1, decide_eq_true (show 1 ≤ l[i].1 by omega)]
    by_cases a2 : l[i].1 < lastOf l bterm i
    · rw [decide_eq_true a2, decide_eq_false (show ¬ lastOf l bterm i ≤ l[i].1 by omega)]; rfl
    rw [decide_eq_false a2, decide_eq_true (show lastOf l bterm i ≤ l[i].1 by omega)]
    by_cases a3 : term < l[i].1
    · rw [decide_eq_true a3, decide_eq_false (show ¬ l[i].1 ≤ term by omega)]; rfl
    rw [decide_eq_false a3, decide_eq_true (show l[i].1 ≤ term by omega)]
    by_cases a4 : (900 : Int) < (l[i].2.size : Int)
    · rw [decide_eq_true a4, decide_eq_false (show ¬ l[i].2.size ≤ 900 by omega)]; rfl
    rw [decide_eq_false a4, decide_eq_true (show l[i].2.size ≤ 900 by omega)]
    rfl) (by
    have e1 : decide ((l.length : Int) < (l.length : Int)) = false := by simp
    unfold spec_WalOk.b0
    dsimp only
    rw [e1]; rfl) k (by omega)
  have e0 : ((0 : Nat) : Int) = 0 := rfl
  simp only [e0, lastOf] at key
  rw [key]
  cases (List.range l.length).all (entP term bterm l) <;> rfl

theorem implWal {k : Nat} (hk : 9223372036854775808 ≤ k) (w : Int × Int × Int × Int × List (Int × ByteArray)) (hl : w.2.2.2.2.length ≤ 1048576) : impl_WalOk.f k w = some (walB w) := by
  obtain ⟨term, vote, base, bterm, l⟩ := w
  dsimp only at hl
  unfold impl_WalOk.f walB impl_isTerm.f impl_isVote.f impl_Wal_end.f
  simp only [within_eq, isBase_eq, based_eq, Option.bind_some]
  cases h1 : (decide (0 ≤ term) && decide (term ≤ 100000))
  · rfl
  cases h2 : (decide (-1 ≤ vote) && decide (vote ≤ 4))
  · rfl
  cases h3 : decide ((base = 0 ∧ bterm = 0) ∨ (1 ≤ base ∧ base ≤ 100000 ∧ 1 ≤ bterm ∧ bterm ≤ 100000))
  · rfl
  simp only [Bool.and_eq_true, decide_eq_true_eq] at h1 h2 h3
  simp only [Bool.not_true, cond_false, Bool.true_and]
  by_cases h4 : bterm ≤ term
  rotate_left
  · rw [decide_eq_true (show term < bterm by omega), decide_eq_false h4]; rfl
  rw [decide_eq_false (show ¬ term < bterm by omega), decide_eq_true h4, cond_false, Bool.true_and]
  by_cases h5 : l.length ≤ 60
  rotate_left
  · rw [decide_eq_true (show (60 : Int) < (l.length : Int) by omega), decide_eq_false h5]; rfl
  rw [decide_eq_false (show ¬ (60 : Int) < (l.length : Int) by omega), decide_eq_true h5, cond_false, Bool.true_and, wrap_i64 (by omega) (by omega)]
  by_cases h6 : base + l.length ≤ 100000
  rotate_left
  · rw [decide_eq_true (show (100000 : Int) < base + (l.length : Int) by omega), decide_eq_false h6]; rfl
  rw [decide_eq_false (show ¬ (100000 : Int) < base + (l.length : Int) by omega), decide_eq_true h6, cond_false, Bool.true_and]
  obtain ⟨d, hd⟩ : ∃ d, (if bterm > 1 then bterm else 1) = d := ⟨_, rfl⟩
  rw [hd]
  have key := all_iter (B := impl_WalOk.b0 k) l.length (fun i => (false, lastOf l d i, l, (l.length : Int), (i : Int), term, vote, base, bterm, l)) (fun i => match l[i]? with
    | some y => decide (y.2.size ≤ 900) && (decide (lastOf l d i ≤ y.1) && decide (y.1 ≤ term))
    | none => true) (.inl false) (.inr false) (fun i hi => by
    have e1 : decide ((i : Int) < (l.length : Int)) = true := by simp; omega
    have e2 : inb? l.length (i : Int) = some i := by rw [inb_ok (by omega) (by omega), Int.toNat_natCast]
    unfold impl_WalOk.b0
    dsimp only
    rw [lastOf_succ l d hi]
    simp (disch := omega) only [e1, cond_true, e2, Option.bind_some, List.getElem?_eq_getElem hi, wrap_i64, within_eq]
    by_cases a4 : (900 : Int) < (l[i].2.size : Int)
    · rw [decide_eq_true a4, decide_eq_false (show ¬ l[i].2.size ≤ 900 by omega)]; rfl
    rw [decide_eq_false a4, decide_eq_true (show l[i].2.size ≤ 900 by omega)]
    cases (decide (lastOf l d i ≤ l[i].1) && decide (l[i].1 ≤ term)) <;> rfl) (by
    have e1 : decide ((l.length : Int) < (l.length : Int)) = false := by simp
    unfold impl_WalOk.b0
    dsimp only
    rw [e1]; rfl) k (by omega)
  have same : (List.range l.length).all (entP term bterm l) = (List.range l.length).all (fun i => match l[i]? with
    | some y => decide (y.2.size ≤ 900) && (decide (lastOf l d i ≤ y.1) && decide (y.1 ≤ term))
    | none => true) := all_same fun i hi hp => by
    unfold entP
    rw [List.getElem?_eq_getElem hi]
    dsimp only
    rw [Bool.eq_iff_iff]
    simp only [Bool.and_eq_true, decide_eq_true_eq]
    cases i with
    | zero => simp only [lastOf]; rw [← hd]; split <;> omega
    | succ j =>
      have := hp j (by omega)
      unfold entP at this
      rw [List.getElem?_eq_getElem (show j < l.length by omega)] at this
      simp only [Bool.and_eq_true, decide_eq_true_eq] at this
      rw [lastOf_succ l bterm (show j < l.length by omega), lastOf_succ l d (show j < l.length by omega)]
      omega
  rw [← same] at key
  have e0 : ((0 : Nat) : Int) = 0 := rfl
  have e00 : lastOf l d 0 = d := rfl
  simp only [e0, e00] at key
  rw [key]
  cases (List.range l.length).all (entP term bterm l) <;> rfl

end Go.Proofs.YthgeebenbajknaaGreat.Rx.W
namespace Go.Proofs.YthgeebenbajknaaGreat.Rx.Y
open Go.Proofs.YthgeebenbajknaaGreat.Rx

/-! the sum of a text -/
theorem and1 {c : Int} (h0 : 0 ≤ c) (h1 : c ≤ 9223372036854775807) : bits .and .i64 c 1 = c % 2 := by
  rw [bits_and h0 h1 (by omega) (by omega)]
  have e : c.toNat &&& (1 : Int).toNat = c.toNat % 2 := Nat.and_two_pow_sub_one_eq_mod c.toNat 1
  rw [e]; omega
theorem and255 {c : Int} (h0 : 0 ≤ c) (h1 : c ≤ 9223372036854775807) : bits .and .i64 c 255 = c % 256 := by
  rw [bits_and h0 h1 (by omega) (by omega)]
  have e : c.toNat &&& (255 : Int).toNat = c.toNat % 256 := Nat.and_two_pow_sub_one_eq_mod c.toNat 8
  rw [e]; omega
theorem xor_small {a b : Int} (h0 : 0 ≤ a) (h1 : a < 4294967296) (h2 : 0 ≤ b) (h3 : b < 4294967296) : 0 ≤ bits .xor .i64 a b ∧ bits .xor .i64 a b < 4294967296 := by
  rw [bits_xor h0 (by omega) h2 (by omega)]
  have : a.toNat ^^^ b.toNat < 2 ^ 32 := Nat.xor_lt_two_pow (by omega) (by omega)
  omega

def crcN (c : Int) : Int := if c % 2 = 1 then bits .xor .i64 (c / 2) 2197175160 else c / 2
theorem crcN_ok {c : Int} (h0 : 0 ≤ c) (h1 : c < 4294967296) : 0 ≤ crcN c ∧ crcN c < 4294967296 := by
  unfold crcN
  split
  · exact xor_small (by omega) (by omega) (by omega) (by omega)
  · omega

theorem crc_spec1 (k : Nat) (s : ByteArray) (z c i : Int) (j : Nat) (h0 : 0 ≤ c) (h1 : c < 4294967296) : spec_Crc.b1 k (s, z, c, i, (j : Int)) = if j < 8 then some (.inl (s, z, crcN c, i, ((j + 1 : Nat) : Int))) else some (.inr (.inl (s, z, c, i))) := by
  unfold spec_Crc.b1 crcN
  dsimp only
  have e1 : Int.tmod c 2 = c % 2 := Int.tmod_eq_emod_of_nonneg h0
  have e2 : IntKind.wrap .i64 (Int.tdiv c 2) = c / 2 := by rw [Int.tdiv_eq_ediv_of_nonneg h0]; exact wrap_i64 (by omega) (by omega)
  rw [e1, e2]
  by_cases h : j < 8
  · rw [decide_eq_true (show (j : Int) < 8 by omega), if_pos h, wrap_i64 (by omega) (by omega)]
    by_cases hc : c % 2 = 1
    · rw [decide_eq_true hc, if_pos hc]; rfl
    · rw [decide_eq_false hc, if_neg hc]; rfl
  · rw [decide_eq_false (show ¬ (j : Int) < 8 by omega), if_neg h]; rfl

theorem crc_impl1 (k : Nat) (s : ByteArray) (z c i : Int) (j : Nat) (h0 : 0 ≤ c) (h1 : c < 4294967296) : impl_Crc.b1 k (s, z, c, i, (j : Int)) = if j < 8 then some (.inl (s, z, crcN c, i, ((j + 1 : Nat) : Int))) else some (.inr (.inl (s, z, c, i))) := by
  unfold impl_Crc.b1 crcN
  dsimp only
  have e2 : Int.fdiv c (2 ^ (min (1 : Int).toNat (IntKind.bits .i64))) = c / 2 := by
    have : (2 ^ (min (1 : Int).toNat (IntKind.bits .i64)) : Int) = 2 := rfl
    rw [this, Int.fdiv_eq_ediv_of_nonneg c (by omega)]
  rw [and1 h0 (by omega), e2]
  by_cases h : j < 8
  · rw [decide_eq_true (show (j : Int) < 8 by omega), if_pos h, wrap_i64 (by omega) (by omega)]
    by_cases hc : c % 2 = 1
    · rw [decide_eq_true hc, if_pos hc]; rfl
    · rw [decide_eq_false hc, if_neg hc]; rfl
  · rw [decide_eq_false (show ¬ (j : Int) < 8 by omega), if_neg h]; rfl

theorem crc_inner (k : Nat) (s : ByteArray) (z i : Int) : ∀ (d j kk : Nat) (c : Int), j + d = 8 → d < kk → 0 ≤ c → c < 4294967296 →
    ∃ c', iter (X := (ByteArray × Int × Int × Int) ⊕ Int) (spec_Crc.b1 k) kk (s, z, c, i, (j : Int)) = some (.inl (s, z, c', i)) ∧ iter (X := (ByteArray × Int × Int × Int) ⊕ Int) (impl_Crc.b1 k) kk (s, z, c, i, (j : Int)) = some (.inl (s, z, c', i)) ∧ 0 ≤ c' ∧ c' < 4294967296
  | 0, j, kk, c, hj, hk, h0, h1 => by
    obtain ⟨kk, rfl⟩ : ∃ m, kk = m + 1 := ⟨kk - 1, by omega⟩
    have a := crc_spec1 k s z c i j h0 h1
    have b := crc_impl1 k s z c i j h0 h1
    rw [if_neg (by omega)] at a b
    exact ⟨c, V.iter_inr a, V.iter_inr b, h0, h1⟩
  | d + 1, j, kk, c, hj, hk, h0, h1 => by
    obtain ⟨kk, rfl⟩ : ∃ m, kk = m + 1 := ⟨kk - 1, by omega⟩
    have a := crc_spec1 k s z c i j h0 h1
    have b := crc_impl1 k s z c i j h0 h1
    rw [if_pos (by omega)] at a b
    rw [V.iter_inl a, V.iter_inl b]
    obtain ⟨h2, h3⟩ := crcN_ok h0 h1
    exact crc_inner k s z i d (j + 1) kk (crcN c) (by omega) (by omega) h2 h3

theorem crc_outer {k : Nat} (hk : 9223372036854775808 ≤ k) (s : ByteArray) (hs : s.size ≤ 4611686018427387904) (z : Int) : ∀ (d i kk : Nat) (c : Int), i + d = s.size → d < kk → 0 ≤ c → c < 4294967296 →
    ∃ c', iter (X := (Int × Int) ⊕ Int) (spec_Crc.b0 k) kk (s, z, c, (i : Int)) = some (.inl (z, c')) ∧ iter (X := (Int × Int) ⊕ Int) (impl_Crc.b0 k) kk (s, z, c, (i : Int)) = some (.inl (z, c')) ∧ 0 ≤ c' ∧ c' < 4294967296
  | 0, i, kk, c, hi, hkk, h0, h1 => by
    obtain ⟨kk, rfl⟩ : ∃ m, kk = m + 1 := ⟨kk - 1, by omega⟩
    have e : decide ((i : Int) < (s.size : Int)) = false := by simp; omega
    refine ⟨c, V.iter_inr ?_, V.iter_inr ?_, h0, h1⟩
    · unfold spec_Crc.b0; dsimp only; rw [e]; rfl
    · unfold impl_Crc.b0; dsimp only; rw [e]; rfl
  | d + 1, i, kk, c, hi, hkk, h0, h1 => by
    obtain ⟨kk, rfl⟩ : ∃ m, kk = m + 1 := ⟨kk - 1, by omega⟩
    have e : decide ((i : Int) < (s.size : Int)) = true := by simp; omega
    have hb0 := V.byteAt_ge s i
    have hb1 := V.byteAt_le s i
    obtain ⟨x0, x1⟩ := xor_small (b := byteAt s i) h0 h1 (by omega) (by omega)
    obtain ⟨c', p, q, c0, c1⟩ := crc_inner k s z (i : Int) 8 0 k (bits .xor .i64 c (byteAt s i)) rfl (by omega) x0 x1
    have e0 : ((0 : Nat) : Int) = 0 := rfl
    rw [e0] at p q
    have a : spec_Crc.b0 k (s, z, c, (i : Int)) = some (.inl (s, z, c', ((i + 1 : Nat) : Int))) := by
      unfold spec_Crc.b0
      dsimp only
      rw [e, inb_ok (by omega) (by omega), Int.toNat_natCast]
      simp only [cond_true, Option.bind_some]
      rw [wrap_i64 (n := byteAt s i) (by omega) (by omega), p]
      simp only [Option.bind_some]
      unfold spec_Crc.d0
      dsimp only
      rw [wrap_i64 (by omega) (by omega)]; rfl
    have b : impl_Crc.b0 k (s, z, c, (i : Int)) = some (.inl (s, z, c', ((i + 1 : Nat) : Int))) := by
      unfold impl_Crc.b0
      dsimp only
      rw [e, inb_ok (by omega) (by omega), Int.toNat_natCast]
      simp only [cond_true, Option.bind_some]
      rw [wrap_i64 (n := byteAt s i) (by omega) (by omega), q]
      simp only [Option.bind_some]
      unfold impl_Crc.d0
      dsimp only
      rw [wrap_i64 (by omega) (by omega)]; rfl
    rw [V.iter_inl a, V.iter_inl b]
    exact crc_outer hk s hs z d (i + 1) kk c' (by omega) (by omega) c0 c1

theorem crc_same {k : Nat} (hk : 9223372036854775808 ≤ k) (s : ByteArray) (hs : s.size ≤ 4611686018427387904) : ∃ c, spec_Crc.f k s = some c ∧ impl_Crc.f k s = some c ∧ 0 ≤ c ∧ c < 4294967296 := by
  obtain ⟨c, p, q, c0, c1⟩ := crc_outer hk s hs 0 s.size 0 k 4294967295 (by omega) (by omega) (by omega) (by omega)
  have e0 : ((0 : Nat) : Int) = 0 := rfl
  rw [e0] at p q
  refine ⟨4294967295 - c, ?_, ?_, by omega, by omega⟩
  · unfold spec_Crc.f
    rw [p]
    simp only [Option.bind_some]
    unfold spec_Crc.d1
    dsimp only
    rw [wrap_i64 (by omega) (by omega)]
  · unfold impl_Crc.f
    rw [q]
    simp only [Option.bind_some]
    unfold impl_Crc.d1
    dsimp only
    rw [wrap_i64 (by omega) (by omega)]

/-! four bytes -/
theorem nums_cons (a : Int) (l : List Int) : strOfNums [a] ++ strOfNums l = strOfNums (a :: l) := by
  unfold strOfNums
  apply ByteArray.ext
  simp [ByteArray.data_append]

theorem spec_fix1 (k : Nat) (n w : Int) (z : ByteArray) (l : List Int) (i : Int) (h0 : 0 ≤ n) (h1 : n < 4294967296) (hw : i < w) (hi0 : 0 ≤ i) (hi : i ≤ 8) (hl : l.length ≤ 8) :
    spec_Fixed.b0 k (n, w, z, strOfNums l, i) = some (.inl (n / 256, w, z, strOfNums (n % 256 :: l), i + 1)) := by
  unfold spec_Fixed.b0
  dsimp only
  have e1 : Int.tmod n 256 = n % 256 := Int.tmod_eq_emod_of_nonneg h0
  have e2 : IntKind.wrap .i64 (Int.tdiv n 256) = n / 256 := by rw [Int.tdiv_eq_ediv_of_nonneg h0]; exact wrap_i64 (by omega) (by omega)
  have hz : (strOfNums [IntKind.wrap .u8 (n % 256)]).size = 1 := rfl
  rw [decide_eq_true hw, e1, e2, wrap_u8 (by omega) (by omega), cat_ok (by rw [V.size_strOfNums, V.size_strOfNums]; simp; omega), wrap_i64 (n := i + 1) (by omega) (by omega), nums_cons]
  rfl

theorem spec_fix4 {k : Nat} (hk : 9223372036854775808 ≤ k) (n : Int) (h0 : 0 ≤ n) (h1 : n < 4294967296) : spec_Fixed.f k n 4 = some (strOfNums [n / 256 / 256 / 256 % 256, n / 256 / 256 % 256, n / 256 % 256, n % 256]) := by
  unfold spec_Fixed.f
  rw [V.l1]
  have e : (⟨#[]⟩ : ByteArray) = strOfNums [] := rfl
  obtain ⟨k, rfl⟩ : ∃ m, k = m + 5 := ⟨k - 5, by omega⟩
  have key : iter (X := (Int × ByteArray × ByteArray) ⊕ ByteArray) (spec_Fixed.b0 (k + 5)) (k + 5) (n, 4, (⟨#[]⟩ : ByteArray), (⟨#[]⟩ : ByteArray), 0) = some (.inl (n / 256 / 256 / 256 / 256, ⟨#[]⟩, strOfNums [n / 256 / 256 / 256 % 256, n / 256 / 256 % 256, n / 256 % 256, n % 256])) := by
    conv => lhs; rw [show ((⟨#[]⟩ : ByteArray), (⟨#[]⟩ : ByteArray), (0 : Int)) = ((⟨#[]⟩ : ByteArray), strOfNums [], (0 : Int)) from rfl]
    rw [V.iter_inl (spec_fix1 (k + 5) n 4 ⟨#[]⟩ [] 0 h0 h1 (by omega) (by omega) (by omega) (by simp)),
      V.iter_inl (spec_fix1 (k + 5) (n / 256) 4 ⟨#[]⟩ _ (0 + 1) (by omega) (by omega) (by omega) (by omega) (by omega) (by simp)),
      V.iter_inl (spec_fix1 (k + 5) (n / 256 / 256) 4 ⟨#[]⟩ _ (0 + 1 + 1) (by omega) (by omega) (by omega) (by omega) (by omega) (by simp)),
      V.iter_inl (spec_fix1 (k + 5) (n / 256 / 256 / 256) 4 ⟨#[]⟩ _ (0 + 1 + 1 + 1) (by omega) (by omega) (by omega) (by omega) (by omega) (by simp))]
    refine V.iter_inr ?_
    unfold spec_Fixed.b0
    dsimp only
    rw [decide_eq_false (by omega)]; rfl
  rw [key, decide_eq_false (show ¬ n < 0 by omega)]
  simp only [Option.bind_some]
  unfold spec_Fixed.d0
  dsimp only
  rw [decide_eq_false (show ¬ (0 < n / 256 / 256 / 256 / 256) by omega)]
  rfl

theorem impl_fix4 {k : Nat} (hk : 9223372036854775808 ≤ k) (n : Int) (h0 : 0 ≤ n) (h1 : n < 4294967296) : impl_Fixed.f k n 4 = some (strOfNums [n / 256 / 256 / 256 % 256, n / 256 / 256 % 256, n / 256 % 256, n % 256]) := by
  unfold impl_Fixed.f
  rw [W.within_eq]
  have e1 : IntKind.wrap .i64 (8 * 4) = 32 := rfl
  have e2 : IntKind.wrap .i64 (1 * 2 ^ (min (IntKind.wrap .i64 (8 * 4)).toNat (IntKind.bits .i64))) = 4294967296 := rfl
  have step : ∀ (m : Int) (z : ByteArray) (l : List Int) (i : Nat) (y : Int), 0 ≤ m → m < 4294967296 → l.length = 4 → i < 4 → l[i]? = some y → impl_Fixed.b0 k (m, z, l, (i : Int)) = some (.inl (m / 256, z, l.set i (m % 256), (i : Int) - 1)) := by
    intro m z l i y m0 m1 hl hi hy
    unfold impl_Fixed.b0
    dsimp only
    have e3 : Int.fdiv m (2 ^ (min (8 : Int).toNat (IntKind.bits .i64))) = m / 256 := by
      have : (2 ^ (min (8 : Int).toNat (IntKind.bits .i64)) : Int) = 256 := rfl
      rw [this, Int.fdiv_eq_ediv_of_nonneg m (by omega)]
    rw [decide_eq_true (show (0 : Int) ≤ (i : Int) by omega), inb_ok (by omega) (by omega), Int.toNat_natCast, e3, and255 m0 (by omega), wrap_u8 (by omega) (by omega), wrap_i64 (n := (i : Int) - 1) (by omega) (by omega)]
    simp only [cond_true, Option.bind_some, hy]
  obtain ⟨kk, hkk⟩ : ∃ m, k = m + 5 := ⟨k - 5, by omega⟩
  have key : iter (X := (ByteArray × List Int) ⊕ ByteArray) (impl_Fixed.b0 k) k (n, (⟨#[]⟩ : ByteArray), [0, 0, 0, 0], 3) = some (.inl (⟨#[]⟩, [n / 256 / 256 / 256 % 256, n / 256 / 256 % 256, n / 256 % 256, n % 256])) := by
    have a1 := step n ⟨#[]⟩ [0, 0, 0, 0] 3 0 h0 h1 rfl (by omega) rfl
    have a2 := step (n / 256) ⟨#[]⟩ [0, 0, 0, n % 256] 2 0 (by omega) (by omega) rfl (by omega) rfl
    have a3 := step (n / 256 / 256) ⟨#[]⟩ [0, 0, n / 256 % 256, n % 256] 1 0 (by omega) (by omega) rfl (by omega) rfl
    have a4 := step (n / 256 / 256 / 256) ⟨#[]⟩ [0, n / 256 / 256 % 256, n / 256 % 256, n % 256] 0 0 (by omega) (by omega) rfl (by omega) rfl
    have b : impl_Fixed.b0 k (n / 256 / 256 / 256 / 256, (⟨#[]⟩ : ByteArray), [n / 256 / 256 / 256 % 256, n / 256 / 256 % 256, n / 256 % 256, n % 256], (-1 : Int)) = some (.inr (.inl (⟨#[]⟩, [n / 256 / 256 / 256 % 256, n / 256 / 256 % 256, n / 256 % 256, n % 256]))) := rfl
    conv => lhs; arg 2; rw [hkk]
    exact (V.iter_inl a1).trans ((V.iter_inl a2).trans ((V.iter_inl a3).trans ((V.iter_inl a4).trans (V.iter_inr b))))
  have e5 : mk? (limOf 1) 4 (0 : Int) = some [0, 0, 0, 0] := rfl
  have e6 : IntKind.wrap .i64 (4 - 1) = 3 := rfl
  rw [e2, e5, e6, decide_eq_false (show ¬ n < 0 by omega), decide_eq_false (show ¬ (4294967296 : Int) ≤ n by omega)]
  simp only [Option.bind_some]
  rw [key]
  rfl

end Go.Proofs.YthgeebenbajknaaGreat.Rx.Y
namespace Go.Proofs.YthgeebenbajknaaGreat.Rx

/-! the reference's reading of a file -/
theorem load_has {k : Nat} (hk : 9223372036854775808 ≤ k) {d : DiskT} (hr : Right d) (n : ByteArray) : ∃ r, spec_Load.f k d n = some r ∧ r.2 = decide (0 ≤ fileM d n) := by
  have hs := hr.small
  unfold spec_Load.f
  simp only [Prod.eta, specOk hk d hs, hr.ok, Option.bind_some, Bool.not_true, cond_false, specFind hk hs]
  by_cases c : fileM d n < 0
  · rw [decide_eq_true c]; exact ⟨_, rfl, by simp; omega⟩
  · obtain ⟨e1, x, e2, e3⟩ := file_at c
    rw [decide_eq_false c]
    simp only [cond_false, e1, e2, Option.bind_some]
    exact ⟨_, rfl, by simp; omega⟩

theorem plan_eq {k : Nat} (hk : 9223372036854775808 ≤ k) {d : DiskT} (hr : Right d) (a t : ByteArray) (ha : a.size ≤ 1048576) : ∃ r, spec_l6Anew.f k d a t = some r ∧ impl_plan.f k d a t = some r ∧ r.length ≤ 6 := by
  unfold spec_l6Anew.f impl_plan.f spec_l6Anew.c0 impl_plan.c0
  have hc : cat? a (⟨#[46, 110, 101, 119]⟩ : ByteArray) = some (a ++ (⟨#[46, 110, 101, 119]⟩ : ByteArray)) := cat_ok (by have : (⟨#[46, 110, 101, 119]⟩ : ByteArray).size = 4 := rfl; omega)
  obtain ⟨r, h1, h2⟩ := load_has hk hr (a ++ (⟨#[46, 110, 101, 119]⟩ : ByteArray))
  simp only [hc, Option.bind_some, h1, h2, implFile hk hr, Prod.eta]
  rw [app_ok (by unfold limOf; simp only [List.length_nil, List.length_cons]; omega)]
  cases decide (0 ≤ fileM d (a ++ (⟨#[46, 110, 101, 119]⟩ : ByteArray))) with
  | true =>
    simp only [cond_true, Option.bind_some, List.nil_append, hc]
    rw [app_ok (by unfold limOf; simp only [List.length_nil, List.length_cons]; omega)]
    exact ⟨_, rfl, rfl, by simp only [List.length_append, List.length_cons, List.length_nil]; omega⟩
  | false =>
    simp only [cond_false, Option.bind_some, List.nil_append, hc]
    rw [app_ok (by unfold limOf; simp only [List.length_nil, List.length_cons]; omega)]
    exact ⟨_, rfl, rfl, by simp only [List.nil_append, List.length_cons, List.length_nil]; omega⟩

/-! records -/
abbrev RecT := Int × Int × Int × Int × ByteArray
theorem isBase_val (k : Nat) (a b : Int) : impl_isBase.f k a b = some (decide ((a = 0 ∧ b = 0) ∨ (1 ≤ a ∧ a ≤ 100000 ∧ 1 ≤ b ∧ b ≤ 100000))) := by rw [W.isBase_eq, W.based_eq]
theorem bif4 {p q s : Bool} {x y : Bool} : (bif p then (bif q then (bif x then some y else some false) else some false) else some false : Option Bool) = bif p then (bif q then (bif y then some x else some false) else some false) else some false := by
  cases p <;> cases q <;> cases x <;> cases y <;> rfl
theorem recOk_eq (k : Nat) (r : RecT) : impl_RecOk.f k r = spec_RecOk.f k r ∧ ∃ b, spec_RecOk.f k r = some b := by
  unfold impl_RecOk.f spec_RecOk.f impl_isTerm.f impl_isVote.f
  simp only [V.l1, W.within_eq, W.based_eq, isBase_val, Option.bind_some]
  by_cases h1 : r.1 = 1
  · simp only [decide_eq_true h1, cond_true]
    generalize (decide (0 ≤ r.2.1) && decide (r.2.1 ≤ 100000)) = p
    generalize (decide (-1 ≤ r.2.2.2.1) && decide (r.2.2.2.1 ≤ 4)) = q
    cases p <;> cases q <;> cases decide (r.2.2.1 = 0) <;> first | exact ⟨rfl, _, rfl⟩ | exact ⟨trivial, _, rfl⟩
  simp only [decide_eq_false h1, cond_false]
  by_cases h2 : r.1 = 2
  · simp only [decide_eq_true h2, cond_true]
    generalize (decide (1 ≤ r.2.1) && decide (r.2.1 ≤ 100000)) = p
    generalize (decide (1 ≤ r.2.2.1) && decide (r.2.2.1 ≤ 100000)) = q
    cases p <;> cases q <;> cases decide (r.2.2.2.1 = 0) <;> cases decide ((r.2.2.2.2.size : Int) ≤ 900) <;> first | exact ⟨rfl, _, rfl⟩ | exact ⟨trivial, _, rfl⟩
  simp only [decide_eq_false h2, cond_false]
  by_cases h3 : r.1 = 3
  · simp only [decide_eq_true h3, cond_true, decide_true, Bool.true_and, Bool.and_true]
    generalize (decide (1 ≤ r.2.2.1) && decide (r.2.2.1 ≤ 100000)) = q
    cases q <;> cases decide (r.2.1 = 0) <;> cases decide (r.2.2.2.1 = 0) <;> cases decide (r.2.2.2.2 = ⟨#[]⟩) <;> first | exact ⟨rfl, _, rfl⟩ | exact ⟨trivial, _, rfl⟩
  simp only [decide_eq_false h3, cond_false]
  by_cases h4 : r.1 = 4
  · simp only [decide_eq_true h4, cond_true]
    generalize decide ((r.2.2.1 = 0 ∧ r.2.1 = 0) ∨ (1 ≤ r.2.2.1 ∧ r.2.2.1 ≤ 100000 ∧ 1 ≤ r.2.1 ∧ r.2.1 ≤ 100000)) = p
    cases p <;> cases decide (r.2.2.2.1 = 0) <;> first | exact ⟨rfl, _, rfl⟩ | exact ⟨trivial, _, rfl⟩
  simp only [decide_eq_false h4, cond_false]
  exact ⟨trivial, _, rfl⟩

theorem showRec_same {k : Nat} (hk : 9223372036854775808 ≤ k) (r : RecT) (hd : r.2.2.2.2.size ≤ 1048576) : ∃ s, spec_ShowRec.f k r = some s ∧ impl_ShowRec.f k r = some s := by
  obtain ⟨h1, b, h2⟩ := recOk_eq k r
  unfold spec_ShowRec.f impl_ShowRec.f
  rw [h1, h2, V.var_eq]
  simp only [Option.bind_some]
  cases b with
  | false => exact ⟨_, rfl, rfl⟩
  | true =>
    simp only [Bool.not_true, cond_false]
    obtain ⟨s1, e1, z1⟩ := V.var_some hk r.2.1
    obtain ⟨s2, e2, z2⟩ := V.var_some hk r.2.2.1
    obtain ⟨s3, e3, z3⟩ := V.var_some hk (IntKind.wrap .i64 (r.2.2.2.1 + 1))
    have hz : (strOfNums [IntKind.wrap .u8 r.1]).size = 1 := by rw [V.size_strOfNums]; rfl
    rw [e1, e2, e3]
    simp only [Option.bind_some]
    rw [cat_ok (by omega)]
    simp only [Option.bind_some]
    rw [cat_ok (by simp only [ByteArray.size_append]; omega)]
    simp only [Option.bind_some]
    rw [cat_ok (by simp only [ByteArray.size_append]; omega)]
    simp only [Option.bind_some]
    rw [cat_ok (by simp only [ByteArray.size_append]; omega)]
    exact ⟨_, rfl, rfl⟩

theorem frame_same {k : Nat} (hk : 9223372036854775808 ≤ k) (s : ByteArray) : ∃ f, spec_Frame.f k s = some f ∧ impl_Frame.f k s = some f ∧ f.size ≤ 2008 := by
  unfold spec_Frame.f impl_Frame.f
  rw [W.within_eq]
  simp only [Option.bind_some]
  by_cases c1 : (s.size : Int) = 0
  · have e : (decide (1 ≤ (s.size : Int)) && decide ((s.size : Int) ≤ 2000)) = false := by simp; omega
    rw [decide_eq_true c1, e]
    exact ⟨_, rfl, rfl, Nat.zero_le _⟩
  · by_cases c2 : 2000 < (s.size : Int)
    · have e : (decide (1 ≤ (s.size : Int)) && decide ((s.size : Int) ≤ 2000)) = false := by simp; omega
      rw [decide_eq_false c1, decide_eq_true c2, e]
      exact ⟨_, rfl, rfl, Nat.zero_le _⟩
    · have e : (decide (1 ≤ (s.size : Int)) && decide ((s.size : Int) ≤ 2000)) = true := by simp; omega
      rw [decide_eq_false c1, decide_eq_false c2, e]
      simp only [cond_false, Bool.not_true]
      rw [Y.spec_fix4 hk (s.size : Int) (by omega) (by omega), Y.impl_fix4 hk (s.size : Int) (by omega) (by omega)]
      simp only [Option.bind_some]
      obtain ⟨h, hh⟩ : ∃ h, strOfNums [(s.size : Int) / 256 / 256 / 256 % 256, (s.size : Int) / 256 / 256 % 256, (s.size : Int) / 256 % 256, (s.size : Int) % 256] = h := ⟨_, rfl⟩
      have hz : h.size = 4 := by rw [← hh, V.size_strOfNums]; rfl
      rw [hh, cat_ok (by omega)]
      simp only [Option.bind_some]
      obtain ⟨c, p, q, c0, c3⟩ := Y.crc_same hk (h ++ s) (by simp only [ByteArray.size_append]; omega)
      rw [p, q]
      simp only [Option.bind_some]
      rw [Y.spec_fix4 hk c c0 c3, Y.impl_fix4 hk c c0 c3]
      simp only [Option.bind_some]
      obtain ⟨g, hg⟩ : ∃ g, strOfNums [c / 256 / 256 / 256 % 256, c / 256 / 256 % 256, c / 256 % 256, c % 256] = g := ⟨_, rfl⟩
      have gz : g.size = 4 := by rw [← hg, V.size_strOfNums]; rfl
      rw [hg, cat_ok (by omega)]
      simp only [Option.bind_some]
      rw [cat_ok (by simp only [ByteArray.size_append]; omega)]
      exact ⟨_, rfl, rfl, by simp only [ByteArray.size_append]; omega⟩

theorem framed_same {k : Nat} (hk : 9223372036854775808 ≤ k) (r : RecT) (hd : r.2.2.2.2.size ≤ 1048576) : ∃ s f, spec_ShowRec.f k r = some s ∧ spec_Frame.f k s = some f ∧ impl_framed.f k r = some f ∧ f.size ≤ 2008 := by
  obtain ⟨s, h1, h2⟩ := showRec_same hk r hd
  obtain ⟨f, h3, h4, h5⟩ := frame_same hk s
  refine ⟨s, f, h1, h3, ?_, h5⟩
  unfold impl_framed.f
  rw [h2]
  simp only [Option.bind_some]
  rw [h4]
  rfl

/-! a log as a text -/
abbrev WalT := Int × Int × Int × Int × List (Int × ByteArray)
theorem wal_parts {w : WalT} (h : W.walB w = true) : 0 ≤ w.2.2.1 ∧ w.2.2.1 ≤ 100000 ∧ w.2.2.2.2.length ≤ 60 := by
  unfold W.walB at h
  simp only [Bool.and_eq_true, decide_eq_true_eq] at h
  omega
theorem wal_loop {k : Nat} (hk : 9223372036854775808 ≤ k) {w : WalT} (h0 : 0 ≤ w.2.2.1) (h1 : w.2.2.1 ≤ 100000) (hl : w.2.2.2.2.length ≤ 60) (hd : ∀ x ∈ w.2.2.2.2, x.2.size ≤ 1048576) :
    ∀ (m i fuel : Nat) (o : ByteArray), i + m = w.2.2.2.2.length → m < fuel → o.size ≤ (i + 2) * 2008 →
      ∃ t, iter (spec_WalText.b0 k) fuel (⟨#[]⟩, o, (i : Int), w) = some (.inl (⟨#[]⟩, t)) ∧ iter (impl_WalText.b0 k) fuel (⟨#[]⟩, o, w.2.2.2.2, (w.2.2.2.2.length : Int), (i : Int), w) = some (.inl (⟨#[]⟩, t)) := by
  intro m
  induction m with
  | zero =>
    intro i fuel o hi hf ho
    obtain ⟨fuel, rfl⟩ : ∃ f, fuel = f + 1 := ⟨fuel - 1, by omega⟩
    have e1 : decide ((i : Int) < (w.2.2.2.2.length : Int)) = false := by simp; omega
    refine ⟨o, ?_, ?_⟩
    · simp only [iter, spec_WalText.b0, e1, cond_false, Option.bind_some]
    · simp only [iter, impl_WalText.b0, e1, cond_false, Option.bind_some]
  | succ m ih =>
    intro i fuel o hi hf ho
    obtain ⟨fuel, rfl⟩ : ∃ f, fuel = f + 1 := ⟨fuel - 1, by omega⟩
    have hlt : i < w.2.2.2.2.length := by omega
    have e1 : decide ((i : Int) < (w.2.2.2.2.length : Int)) = true := by simp; omega
    have e3 : inb? w.2.2.2.2.length (i : Int) = some i := by rw [inb_ok (by omega) (by omega), Int.toNat_natCast]
    have hx := hd _ (List.getElem_mem hlt)
    obtain ⟨s, f, a1, a2, a3, a4⟩ := framed_same hk (2, w.2.2.2.2[i].1, w.2.2.1 + (i : Int) + 1, 0, w.2.2.2.2[i].2) hx
    have w1 : IntKind.wrap .i64 (w.2.2.1 + 1) = w.2.2.1 + 1 := wrap_i64 (by omega) (by omega)
    have w2 : IntKind.wrap .i64 (w.2.2.1 + 1 + (i : Int)) = w.2.2.1 + (i : Int) + 1 := by rw [wrap_i64 (by omega) (by omega)]; omega
    have w3 : IntKind.wrap .i64 (w.2.2.1 + (i : Int)) = w.2.2.1 + (i : Int) := wrap_i64 (by omega) (by omega)
    have w4 : IntKind.wrap .i64 (w.2.2.1 + (i : Int) + 1) = w.2.2.1 + (i : Int) + 1 := wrap_i64 (by omega) (by omega)
    have w5 : IntKind.wrap .i64 ((i : Int) + 1) = ((i + 1 : Nat) : Int) := by rw [wrap_i64 (by omega) (by omega)]; rfl
    have hcat : cat? o f = some (o ++ f) := cat_ok (by omega)
    obtain ⟨t, b1, b2⟩ := ih (i + 1) fuel (o ++ f) (by omega) (by omega) (by simp only [ByteArray.size_append]; omega)
    refine ⟨t, ?_, ?_⟩
    · rw [← b1]
      conv => lhs; unfold iter
      simp only [spec_WalText.b0, e1, cond_true, e3, Option.bind_some, List.getElem?_eq_getElem hlt, w1, w2, a1, a2, hcat, w5, Prod.eta]
    · rw [← b2]
      conv => lhs; unfold iter
      simp only [impl_WalText.b0, e1, cond_true, e3, Option.bind_some, List.getElem?_eq_getElem hlt, w3, w4, a3, hcat, w5, Prod.eta]

theorem walText_same {k : Nat} (hk : 9223372036854775808 ≤ k) (w : WalT) (hl : w.2.2.2.2.length ≤ 1048576) (hd : ∀ x ∈ w.2.2.2.2, x.2.size ≤ 1048576) : ∃ t, spec_WalText.f k w = some t ∧ impl_WalText.f k w = some t := by
  unfold spec_WalText.f impl_WalText.f
  rw [W.specWal hk w hl, W.implWal hk w hl]
  simp only [Option.bind_some]
  cases hb : W.walB w with
  | false => exact ⟨_, rfl, rfl⟩
  | true =>
    obtain ⟨p1, p2, p3⟩ := wal_parts hb
    simp only [Bool.not_true, cond_false]
    obtain ⟨s, f, a1, a2, a3, a4⟩ := framed_same hk (4, w.2.2.2.1, w.2.2.1, 0, ⟨#[]⟩) (Nat.zero_le _)
    obtain ⟨s', g, b1, b2, b3, b4⟩ := framed_same hk (1, w.1, 0, w.2.1, ⟨#[]⟩) (Nat.zero_le _)
    have hcat : cat? f g = some (f ++ g) := cat_ok (by omega)
    simp only [a1, a2, a3, b1, b2, b3, Option.bind_some, hcat, Prod.eta]
    obtain ⟨t, c1, c2⟩ := wal_loop hk p1 p2 p3 hd w.2.2.2.2.length 0 k (f ++ g) (by omega) (by omega) (by simp only [ByteArray.size_append]; omega)
    have e0 : ((0 : Nat) : Int) = 0 := rfl
    rw [e0] at c1 c2
    rw [c1, c2]
    exact ⟨t, rfl, rfl⟩

theorem planLog_eq {k : Nat} (hk : 9223372036854775808 ≤ k) {d : DiskT} (hs : Small d) (w : WalT) (hl : w.2.2.2.2.length ≤ 1048576) (hd : ∀ x ∈ w.2.2.2.2, x.2.size ≤ 1048576) :
    ∃ r, spec_PlanLog.f k d w = some r ∧ impl_PlanLog.f k d w = some r ∧ r.length ≤ 6 := by
  unfold spec_PlanLog.f impl_PlanLog.f
  simp only [Prod.eta, specOk hk d hs, implOk hk d hs, ← disk_same, Option.bind_some, W.specWal hk w hl, W.implWal hk w hl]
  cases hd' : diskS d with
  | false => exact ⟨_, rfl, rfl, by simp⟩
  | true =>
    have hr : Right d := ⟨hs, hd'⟩
    simp only [Bool.not_true, cond_false]
    cases W.walB w with
    | false => exact ⟨_, rfl, rfl, by simp⟩
    | true =>
      simp only [Bool.not_true, cond_false]
      obtain ⟨t, h1, h2⟩ := walText_same hk w hl hd
      obtain ⟨r, h3, h4, h5⟩ := plan_eq hk hr ⟨#[108, 111, 103]⟩ t (by show 3 ≤ _; omega)
      rw [h1, h2]
      simp only [Option.bind_some]
      rw [h3, h4]
      exact ⟨r, rfl, rfl, h5⟩
end Go.Proofs.YthgeebenbajknaaGreat.Rx
