/- The calls of a disk: the reference's and the program's are the same. No condition beside those that each theorem states. -/
import Derived.Test.YtkolofaifjdjjaaRxPlainA
import Derived.Test.YtkolofaifjdjjaaRxFnsB
set_option linter.unusedVariables false
set_option linter.unusedSimpArgs false
namespace Go.Proofs.Ytkolofaifjdjjaa.Rx

/-- a right disk -/
structure Right (d : DiskT) : Prop where
  small : Small d
  ok : diskS d = true
theorem Right.ok' {d : DiskT} (h : Right d) : diskI d = true := by rw [← disk_same]; exact h.ok
theorem Right.parts {d : DiskT} (h : Right d) : 0 ≤ d.1 ∧ d.1 ≤ 1048576 ∧ 1 ≤ d.2.1 ∧ d.2.1 ≤ 1000000 ∧ d.2.2.1.length ≤ 10 ∧ d.2.2.2.2.length ≤ 20 ∧ d.2.2.2.1.length ≤ 10 ∧ bytesM d.2.2.1 ≤ d.1 ∧
    (List.range d.2.2.1.length).all (pIS d) = true ∧ (List.range d.2.2.2.1.length).all (pD d) = true ∧ (List.range d.2.2.2.2.length).all (pMS d) = true := by
  have := h.ok
  unfold diskS rg at this
  simp only [Bool.and_eq_true, decide_eq_true_eq] at this
  obtain ⟨h1, h2, h3, h4, h5, h6, h7, h8, h9⟩ := this
  exact ⟨h1.1, h1.2, h2.1, h2.2, by omega, by omega, by omega, h6, h7, h8, h9⟩
theorem Right.links {d : DiskT} (h : Right d) (n : Nat) : linksI d.2.2.2.1 (d.2.2.2.2.take n) = linksS d.2.2.2.1 (d.2.2.2.2.take n) ∧ Srt (linksS d.2.2.2.1 (d.2.2.2.2.take n)) := by
  obtain ⟨_, _, _, _, _, _, _, _, _, h8, h9⟩ := h.parts
  by_cases hn : n ≤ d.2.2.2.2.length
  · exact links_same h8 n hn fun j hj => range_all.1 h9 j (by omega)
  · rw [List.take_of_length_le (show d.2.2.2.2.length ≤ n by omega)]
    have := links_same h8 d.2.2.2.2.length (Nat.le_refl _) fun j hj => range_all.1 h9 j hj
    rwa [List.take_length] at this

/-- the names behind the first moves -/
def namesM (d : DiskT) (n : Nat) : List LinkT := linksS d.2.2.2.1 (d.2.2.2.2.take n)
theorem namesM_len (d : DiskT) (n : Nat) : (namesM d n).length ≤ d.2.2.2.1.length + d.2.2.2.2.length := by
  unfold namesM
  have := linksS_len (d.2.2.2.2.take n) d.2.2.2.1
  rw [List.length_take] at this
  omega

theorem foldl_links (dir : List LinkT) (ms : List MoveT) : ms.foldl (fun l m => (applyS l m).1) dir = linksS dir ms := rfl
theorem foldl_linksI (dir : List LinkT) (ms : List MoveT) : ms.foldl (fun l m => (applyI l m).1) dir = linksI dir ms := rfl

theorem specNames {k : Nat} (hk : 9223372036854775808 ≤ k) {d : DiskT} (hs : Small d) (n : Int) : spec_l4Names.f k d n = some (namesM d n.toNat) := by
  have hd := hs.dir
  have hm := hs.mov
  unfold spec_l4Names.f
  rw [app_ok (by unfold limOf; simp only [List.length_nil]; omega)]
  simp only [Option.bind_some, List.nil_append, Prod.eta]
  obtain ⟨ms, hms⟩ : ∃ ms, d.2.2.2.2.take n.toNat = ms := ⟨_, rfl⟩
  have hl : ms.length = min n.toNat d.2.2.2.2.length := by rw [← hms, List.length_take]
  have hat : ∀ i (hi : i < ms.length), d.2.2.2.2[i]? = some ms[i] := fun i hi => by
    rw [← List.getElem?_eq_getElem hi, ← hms, List.getElem?_take, if_pos (by omega)]
  have key := iter_foldl (B := spec_l4Names.b0 k) ms (fun i a => (n, [], a, (i : Int), d)) (fun l m => (applyS l m).1) (fun a => .inl ([], a)) d.2.2.2.1 (fun i hi => by
    have e1 : decide ((i : Int) < n) = true := by simp; omega
    have e2 : decide ((i : Int) < (d.2.2.2.2.length : Int)) = true := by simp; omega
    have e3 : inb? d.2.2.2.2.length (i : Int) = some i := by rw [inb_ok (by omega) (by omega), Int.toNat_natCast]
    have hll := linksS_len (ms.take i) d.2.2.2.1
    rw [List.length_take] at hll
    obtain ⟨n1, n2⟩ := hs.movN ms[i] (List.mem_of_getElem? (hat i hi))
    simp only [foldl_links]
    unfold spec_l4Names.b0
    dsimp only
    simp only [e1, e2, cond_true, e3, Option.bind_some, hat i hi, Prod.eta]
    rw [specApply hk _ _ (by omega) n1 n2]
    simp only [Option.bind_some]
    rw [wrap_i64 (by omega) (by omega)]
    rfl) (by
    unfold spec_l4Names.b0
    dsimp only
    by_cases c : (ms.length : Int) < n
    · have e1 : decide ((ms.length : Int) < n) = true := decide_eq_true c
      have e2 : decide ((ms.length : Int) < (d.2.2.2.2.length : Int)) = false := by simp; omega
      rw [e1, e2]; rfl
    · have e1 : decide ((ms.length : Int) < n) = false := decide_eq_false c
      rw [e1]; rfl) k (by omega)
  have e0 : ((0 : Nat) : Int) = 0 := rfl
  simp only [e0] at key
  rw [key]
  simp only [Option.bind_some, foldl_links]
  rw [← hms]
  rfl

theorem implNames {k : Nat} (hk : 9223372036854775808 ≤ k) {d : DiskT} (hr : Right d) (n : Int) (h0 : 0 ≤ n) (h1 : n ≤ d.2.2.2.2.length) : impl_Disk_names.f k d n = some (namesM d n.toNat) := by
  have hd := hr.small.dir
  have hm := hr.small.mov
  have hL := (hr.links n.toNat).1
  unfold impl_Disk_names.f impl_copyLinks.f
  rw [app_ok (by unfold limOf; simp only [List.length_nil]; omega)]
  simp only [Option.bind_some, List.nil_append]
  rw [cut_ok (by omega) (by omega) (by omega)]
  simp only [Option.bind_some, Int.toNat_zero, List.drop_zero]
  unfold namesM
  rw [← hL]
  obtain ⟨ms, hms⟩ : ∃ ms, d.2.2.2.2.take n.toNat = ms := ⟨_, rfl⟩
  have hl : ms.length = min n.toNat d.2.2.2.2.length := by rw [← hms, List.length_take]
  rw [hms]
  have key := iter_foldl (B := impl_Disk_names.b0 k) ms (fun i a => ([], a, ms, (ms.length : Int), (i : Int))) (fun l m => (applyI l m).1) (fun a => .inl ([], a)) d.2.2.2.1 (fun i hi => by
    have e1 : decide ((i : Int) < (ms.length : Int)) = true := by simp; omega
    have e3 : inb? ms.length (i : Int) = some i := by rw [inb_ok (by omega) (by omega), Int.toNat_natCast]
    have hll := linksI_len (ms.take i) d.2.2.2.1
    rw [List.length_take] at hll
    obtain ⟨n1, n2⟩ := hr.small.movN ms[i] (List.mem_of_mem_take (by rw [hms]; exact List.getElem_mem hi))
    simp only [foldl_linksI]
    unfold impl_Disk_names.b0
    dsimp only
    simp only [e1, cond_true, e3, Option.bind_some, List.getElem?_eq_getElem hi, Prod.eta]
    rw [implApply hk _ _ (by omega) n2]
    simp only [Option.bind_some]
    rw [wrap_i64 (by omega) (by omega)]
    rfl) (by
    have e1 : decide ((ms.length : Int) < (ms.length : Int)) = false := by simp
    unfold impl_Disk_names.b0
    dsimp only
    rw [e1]; rfl) k (by omega)
  have e0 : ((0 : Nat) : Int) = 0 := rfl
  simp only [e0] at key
  rw [key]
  rfl

def nowM (d : DiskT) : List LinkT := namesM d d.2.2.2.2.length
theorem specNow {k : Nat} (hk : 9223372036854775808 ≤ k) {d : DiskT} (hs : Small d) : spec_l4Names.f k d (d.2.2.2.2.length : Int) = some (nowM d) := specNames hk hs _
theorem implNow {k : Nat} (hk : 9223372036854775808 ≤ k) {d : DiskT} (hr : Right d) : impl_Disk_now.f k d = some (nowM d) := by
  unfold impl_Disk_now.f
  simp only [Prod.eta]
  rw [implNames hk hr _ (by omega) (by omega)]
  rfl

/-- the place of a name's inode, or -1 -/
def fileM (d : DiskT) (n : ByteArray) : Int := bif decide (at? (nowM d) n < 0) then -1 else idxOf (fun x => decide (x.1 = idAt (nowM d) n)) d.2.2.1
theorem fileM_lt (d : DiskT) (n : ByteArray) : -1 ≤ fileM d n ∧ fileM d n < d.2.2.1.length := by
  unfold fileM
  have := idxOf_lt (fun x : InodeT => decide (x.1 = idAt (nowM d) n)) d.2.2.1
  cases decide (at? (nowM d) n < 0) with
  | true => simp only [cond_true]; omega
  | false => simpa using this

theorem nowM_len {d : DiskT} (hs : Small d) : (nowM d).length ≤ 4194304 := by
  have := namesM_len d d.2.2.2.2.length
  have := hs.dir
  have := hs.mov
  unfold nowM
  omega

theorem specFind {k : Nat} (hk : 9223372036854775808 ≤ k) {d : DiskT} (hs : Small d) (n : ByteArray) : spec_l4Find.f k d n = some (fileM d n) := by
  unfold spec_l4Find.f fileM
  simp only [Prod.eta, specNow hk hs, Option.bind_some, specAt hk _ n (nowM_len hs)]
  have hat : idxOf (fun x => decide (x.1 = n)) (nowM d) = at? (nowM d) n := rfl
  rw [hat]
  by_cases c : at? (nowM d) n < 0
  · rw [decide_eq_true c]; rfl
  · obtain ⟨e1, x, e2, e3⟩ := idAt_get (l := nowM d) (n := n) (by omega)
    rw [decide_eq_false c]
    simp only [cond_false, e1, e2, Option.bind_some, specInode hk d _ hs.ino, e3]
theorem implFile {k : Nat} (hk : 9223372036854775808 ≤ k) {d : DiskT} (hr : Right d) (n : ByteArray) : impl_Disk_file.f k d n = some (fileM d n) := by
  unfold impl_Disk_file.f fileM
  simp only [Prod.eta, implNow hk hr, Option.bind_some, implAt hk _ n (nowM_len hr.small)]
  have hat : idxOf (fun x => decide (x.1 = n)) (nowM d) = at? (nowM d) n := rfl
  rw [hat]
  by_cases c : at? (nowM d) n < 0
  · rw [decide_eq_true c]; rfl
  · obtain ⟨e1, x, e2, e3⟩ := idAt_get (l := nowM d) (n := n) (by omega)
    rw [decide_eq_false c]
    simp only [cond_false, e1, e2, Option.bind_some, implInode hk d _ hr.small.ino, e3]

/-- a result's rows are not too long to be marked -/
def Fits (d : DiskT) : Prop := d.2.2.1.length ≤ 4194304 ∧ d.2.2.2.1.length ≤ 4194304 ∧ d.2.2.2.2.length ≤ 4194304
theorem Small.fits {d : DiskT} (h : Small d) : Fits d := ⟨by have := h.ino; omega, by have := h.dir; omega, by have := h.mov; omega⟩

theorem specCopy {k : Nat} {d : DiskT} (hs : Small d) : spec_l4Copy.f k d = some d := by
  have h1 := hs.ino; have h2 := hs.dir; have h3 := hs.mov
  unfold spec_l4Copy.f
  rw [app_ok (by unfold limOf; simp only [List.length_nil]; omega), app_ok (by unfold limOf; simp only [List.length_nil]; omega), app_ok (by unfold limOf; simp only [List.length_nil]; omega)]
  rfl
theorem implCopy {k : Nat} {d : DiskT} (hs : Small d) : impl_copyDisk.f k d = some d := by
  have h1 := hs.ino; have h2 := hs.dir; have h3 := hs.mov
  unfold impl_copyDisk.f impl_copyLinks.f
  rw [app_ok (by unfold limOf; simp only [List.length_nil]; omega), app_ok (by unfold limOf; simp only [List.length_nil]; omega), app_ok (by unfold limOf; simp only [List.length_nil]; omega)]
  rfl

/-! the calls -/
theorem specList {k : Nat} (hk : 9223372036854775808 ≤ k) {d : DiskT} (hs : Small d) : spec_List.f k d = some (bif diskS d then (nowM d).map (·.1) else []) := by
  unfold spec_List.f
  simp only [Prod.eta, specOk hk d hs, Option.bind_some, specNow hk hs]
  cases diskS d with
  | false => rfl
  | true =>
    simp only [Bool.not_true, cond_false, cond_true]
    have hl := nowM_len hs
    obtain ⟨l, hl'⟩ : ∃ l, nowM d = l := ⟨_, rfl⟩
    rw [hl'] at hl ⊢
    have hf : ∀ (l : List LinkT) (a : List ByteArray), l.foldl (fun a x => a ++ [x.1]) a = a ++ l.map (·.1) := fun l => by
      induction l with
      | nil => intro a; simp
      | cons x l ih => intro a; rw [List.foldl_cons, ih]; simp
    have key := iter_foldl (B := spec_List.b0 k) l (fun i a => ([], a, l, (i : Int))) (fun a x => a ++ [x.1]) (fun a => .inl ([], a)) [] (fun i hi => by
      have e1 : decide ((i : Int) < (l.length : Int)) = true := by simp; omega
      have e2 : inb? l.length (i : Int) = some i := by rw [inb_ok (by omega) (by omega), Int.toNat_natCast]
      rw [hf]
      unfold spec_List.b0
      dsimp only
      simp only [e1, cond_true, e2, Option.bind_some, List.getElem?_eq_getElem hi]
      rw [wrap_i64 (by omega) (by omega), app_ok (by unfold limOf; simp only [List.nil_append, List.length_map, List.length_take, List.length_cons, List.length_nil]; omega)]
      rfl) (by
      have e1 : decide ((l.length : Int) < (l.length : Int)) = false := by simp
      unfold spec_List.b0
      dsimp only
      rw [e1]; rfl) k (by omega)
    have e0 : ((0 : Nat) : Int) = 0 := rfl
    simp only [e0] at key
    rw [key, hf]
    rfl
theorem implList {k : Nat} (hk : 9223372036854775808 ≤ k) {d : DiskT} (hs : Small d) : impl_List.f k d = some (bif diskS d then (nowM d).map (·.1) else []) := by
  unfold impl_List.f
  simp only [Prod.eta, implOk hk d hs, Option.bind_some, ← disk_same]
  cases hd : diskS d with
  | false => rfl
  | true =>
    have hr : Right d := ⟨hs, hd⟩
    simp only [Bool.not_true, cond_false, cond_true, implNow hk hr, Option.bind_some]
    have hl := nowM_len hs
    obtain ⟨l, hl'⟩ : ∃ l, nowM d = l := ⟨_, rfl⟩
    rw [hl'] at hl ⊢
    have hf : ∀ (l : List LinkT) (a : List ByteArray), l.foldl (fun a x => a ++ [x.1]) a = a ++ l.map (·.1) := fun l => by
      induction l with
      | nil => intro a; simp
      | cons x l ih => intro a; rw [List.foldl_cons, ih]; simp
    have key := iter_foldl (B := impl_List.b0 k) l (fun i a => ([], a, l, (l.length : Int), (i : Int))) (fun a x => a ++ [x.1]) (fun a => .inl ([], a)) [] (fun i hi => by
      have e1 : decide ((i : Int) < (l.length : Int)) = true := by simp; omega
      have e2 : inb? l.length (i : Int) = some i := by rw [inb_ok (by omega) (by omega), Int.toNat_natCast]
      rw [hf]
      unfold impl_List.b0
      dsimp only
      simp only [e1, cond_true, e2, Option.bind_some, List.getElem?_eq_getElem hi]
      rw [wrap_i64 (by omega) (by omega), app_ok (by unfold limOf; simp only [List.nil_append, List.length_map, List.length_take, List.length_cons, List.length_nil]; omega)]
      rfl) (by
      have e1 : decide ((l.length : Int) < (l.length : Int)) = false := by simp
      unfold impl_List.b0
      dsimp only
      rw [e1]; rfl) k (by omega)
    have e0 : ((0 : Nat) : Int) = 0 := rfl
    simp only [e0] at key
    rw [key, hf]
    rfl
end Go.Proofs.Ytkolofaifjdjjaa.Rx
namespace Go.Proofs.Ytkolofaifjdjjaa.Rx

theorem bytesM_amt (l : List InodeT) : bytesM l = amtI l := by unfold bytesM; rw [bytes_fold]; simp
theorem amtI_mem {l : List InodeT} {x : InodeT} (h : x ∈ l) : x.2.1.size ≤ amtI l := by
  obtain ⟨i, hi, rfl⟩ := List.getElem_of_mem h
  have := amtI_at hi
  omega

/-- the place of an inode that is there -/
theorem file_at {d : DiskT} {n : ByteArray} (h : ¬ fileM d n < 0) : inb? d.2.2.1.length (fileM d n) = some (fileM d n).toNat ∧ ∃ x, d.2.2.1[(fileM d n).toNat]? = some x ∧ x ∈ d.2.2.1 := by
  obtain ⟨h1, h2⟩ := fileM_lt d n
  have hlt : (fileM d n).toNat < d.2.2.1.length := by omega
  exact ⟨inb_ok (by omega) h2, _, List.getElem?_eq_getElem hlt, List.getElem_mem hlt⟩

theorem fits0 : Fits (0, 0, [], [], []) := ⟨Nat.zero_le _, Nat.zero_le _, Nat.zero_le _⟩

theorem load_eq {k : Nat} (hk : 9223372036854775808 ≤ k) {d : DiskT} (hs : Small d) (n : ByteArray) : ∃ r, spec_Load.f k d n = some r ∧ impl_Load.f k d n = some r ∧ r.1.size ≤ 1048576 := by
  unfold spec_Load.f impl_Load.f
  simp only [Prod.eta, specOk hk d hs, implOk hk d hs, ← disk_same, Option.bind_some]
  cases hd : diskS d with
  | false => exact ⟨_, rfl, rfl, Nat.zero_le _⟩
  | true =>
    have hr : Right d := ⟨hs, hd⟩
    simp only [Bool.not_true, cond_false, specFind hk hs, implFile hk hr, Option.bind_some]
    by_cases c : fileM d n < 0
    · rw [decide_eq_true c]; exact ⟨_, rfl, rfl, Nat.zero_le _⟩
    · obtain ⟨e1, x, e2, e3⟩ := file_at c
      rw [decide_eq_false c]
      simp only [cond_false, e1, e2, Option.bind_some]
      exact ⟨_, rfl, rfl, by have := amtI_mem e3; have := hs.amt; simp only; omega⟩

theorem eqd (a b : Int) (h : a ≤ b) : decide (a = b) = decide (b ≤ a) := by
  by_cases c : b ≤ a
  · have : a = b := by omega
    simp [this]
  · have : ¬ a = b := by omega
    simp [c, this]

theorem make_eq {k : Nat} (hk : 9223372036854775808 ≤ k) {d : DiskT} (hs : Small d) (n : ByteArray) (hn : n.size ≤ 1048576) : ∃ r, spec_Make.f k d n = some r ∧ impl_Make.f k d n = some r ∧ Fits r.1 := by
  unfold spec_Make.f impl_Make.f
  simp only [Prod.eta, specOk hk d hs, implOk hk d hs, ← disk_same, Option.bind_some]
  have hf := hs.fits
  cases hd : diskS d with
  | false => exact ⟨_, rfl, rfl, fits0⟩
  | true =>
    have hr : Right d := ⟨hs, hd⟩
    obtain ⟨_, _, p3, p4, p5, p6, p7, _⟩ := hr.parts
    simp only [Bool.not_true, cond_false, specFind hk hs, implFile hk hr, Option.bind_some, specCopy hs, implCopy hs, specName hk n hn, implName hk n hn, Prod.eta]
    rw [eqd (d.2.2.1.length : Int) 10 (by omega), eqd (d.2.2.2.2.length : Int) 20 (by omega), eqd d.2.1 1000000 p4]
    rw [app_ok (by unfold limOf; simp only [List.length_cons, List.length_nil]; omega), app_ok (by unfold limOf; simp only [List.length_cons, List.length_nil]; omega)]
    simp only [Option.bind_some]
    cases nameB n with
    | false => exact ⟨_, rfl, rfl, hf⟩
    | true =>
    cases decide (0 ≤ fileM d n) with
    | true => exact ⟨_, rfl, rfl, hf⟩
    | false =>
    cases decide (10 ≤ (d.2.2.1.length : Int)) with
    | true => exact ⟨_, rfl, rfl, hf⟩
    | false =>
    cases decide (20 ≤ (d.2.2.2.2.length : Int)) with
    | true => exact ⟨_, rfl, rfl, hf⟩
    | false =>
    cases decide (1000000 ≤ d.2.1) with
    | true => exact ⟨_, rfl, rfl, hf⟩
    | false => exact ⟨_, rfl, rfl, by unfold Fits; simp only [List.length_append, List.length_cons, List.length_nil]; omega⟩

theorem sync_eq {k : Nat} (hk : 9223372036854775808 ≤ k) {d : DiskT} (hs : Small d) (n : ByteArray) (hn : n.size ≤ 1048576) : ∃ r, spec_Sync.f k d n = some r ∧ impl_Sync.f k d n = some r ∧ Fits r.1 := by
  unfold spec_Sync.f impl_Sync.f spec_l4Named.f
  simp only [Prod.eta, specOk hk d hs, implOk hk d hs, ← disk_same, Option.bind_some]
  have hf := hs.fits
  cases hd : diskS d with
  | false => exact ⟨_, rfl, rfl, fits0⟩
  | true =>
    have hr : Right d := ⟨hs, hd⟩
    simp only [Bool.not_true, cond_false, specFind hk hs, implFile hk hr, Option.bind_some, specCopy hs, implCopy hs, specName hk n hn, implName hk n hn, Prod.eta]
    cases nameB n with
    | false => exact ⟨_, rfl, rfl, hf⟩
    | true =>
    by_cases c : fileM d n < 0
    · rw [decide_eq_true c]; exact ⟨_, rfl, rfl, hf⟩
    · obtain ⟨e1, x, e2, e3⟩ := file_at c
      rw [decide_eq_false c]
      simp only [Bool.not_true, cond_false, Option.bind_some, decide_true, cond_true, e1, e2]
      exact ⟨_, rfl, rfl, by unfold Fits at hf ⊢; simpa using hf⟩

theorem add_eq {k : Nat} (hk : 9223372036854775808 ≤ k) {d : DiskT} (hs : Small d) (n t : ByteArray) (hn : n.size ≤ 1048576) (ht : t.size ≤ 1048576) : ∃ r, spec_Add.f k d n t = some r ∧ impl_Add.f k d n t = some r ∧ Fits r.1 := by
  unfold spec_Add.f impl_Add.f spec_l4Named.f spec_Add.c0
  simp only [Prod.eta, specOk hk d hs, implOk hk d hs, ← disk_same, Option.bind_some]
  have hf := hs.fits
  cases hd : diskS d with
  | false => exact ⟨_, rfl, rfl, fits0⟩
  | true =>
    have hr : Right d := ⟨hs, hd⟩
    obtain ⟨p1, p2, _⟩ := hr.parts
    have ha := hs.amt
    have hb := bytesM_amt d.2.2.1
    simp only [Bool.not_true, cond_false, specFind hk hs, implFile hk hr, Option.bind_some, specCopy hs, implCopy hs, specName hk n hn, implName hk n hn, Prod.eta, specBytes hk d hs, implBytes hk d hs]
    rw [wrap_i64 (by omega) (by omega), wrap_i64 (by omega) (by omega)]
    have z1 : decide ((1 : Int) = 0) = false := rfl
    have z2 : decide ((2 : Int) = 0) = false := rfl
    have z4 : decide ((4 : Int) = 0) = false := rfl
    cases nameB n with
    | false =>
      simp only [Bool.not_false, cond_true, Option.bind_some, z1, cond_false, specCopy hs, Prod.eta]
      exact ⟨_, rfl, rfl, hf⟩
    | true =>
    by_cases c : fileM d n < 0
    · rw [decide_eq_true c]
      simp only [Bool.not_true, cond_false, cond_true, Option.bind_some, z2, specCopy hs, Prod.eta]
      exact ⟨_, rfl, rfl, hf⟩
    · obtain ⟨e1, x, e2, e3⟩ := file_at c
      have hx := amtI_mem e3
      rw [decide_eq_false c]
      simp only [Bool.not_true, cond_false, Option.bind_some, decide_true, cond_true]
      by_cases c2 : d.1 - bytesM d.2.2.1 < (t.size : Int)
      · have c3 : d.1 < bytesM d.2.2.1 + (t.size : Int) := by omega
        rw [decide_eq_true c2, decide_eq_true c3]
        simp only [cond_true, Option.bind_some, z4, cond_false, specCopy hs, Prod.eta]
        exact ⟨_, rfl, rfl, hf⟩
      · have c3 : ¬ d.1 < bytesM d.2.2.1 + (t.size : Int) := by omega
        rw [decide_eq_false c2, decide_eq_false c3]
        simp only [cond_false, Option.bind_some, specCopy hs, specFind hk hs, decide_true, cond_true, e1, e2, Prod.eta]
        rw [cat_ok (by omega)]
        exact ⟨_, rfl, rfl, by unfold Fits at hf ⊢; simpa using hf⟩

/-- a disk with one more move, with a code -/
theorem moved_eq {k : Nat} (hk : 9223372036854775808 ≤ k) {d : DiskT} (hr : Right d) (m : MoveT) (ok : Bool) (code : Int) (hc : code = if ok = false then 1 else if fileM d m.2.1 < 0 then 2 else 0) :
    ∃ r, spec_l4Moved.f k d m code = some r ∧ impl_moved.f k d m ok = some r ∧ Fits r.1 := by
  have hs := hr.small
  have hf := hs.fits
  obtain ⟨_, _, p3, p4, p5, p6, p7, _⟩ := hr.parts
  unfold spec_l4Moved.f impl_moved.f spec_l4Moved.c0
  simp only [Prod.eta, implOk hk d hs, hr.ok', Option.bind_some, Bool.not_true, cond_false, implCopy hs, implFile hk hr]
  rw [eqd (d.2.2.2.2.length : Int) 20 (by omega)]
  cases ok with
  | false =>
    simp only [if_true] at hc
    subst hc
    refine ⟨(d, 1), ?_, rfl, hf⟩
    have e : decide ((1 : Int) = 0) = false := rfl
    simp only [e, cond_false, Option.bind_some, specCopy hs, Prod.eta]
  | true =>
    simp only [Bool.true_eq_false, if_false] at hc
    by_cases c : fileM d m.2.1 < 0
    · rw [if_pos c] at hc
      subst hc
      refine ⟨(d, 2), ?_, ?_, hf⟩
      · have e : decide ((2 : Int) = 0) = false := rfl
        simp only [e, cond_false, Option.bind_some, specCopy hs, Prod.eta]
      · rw [decide_eq_true c]; rfl
    · rw [if_neg c] at hc
      subst hc
      rw [decide_eq_false c]
      simp only [Bool.not_true, cond_false, decide_true, cond_true]
      cases decide (20 ≤ (d.2.2.2.2.length : Int)) with
      | true =>
        have e : decide ((4 : Int) = 0) = false := rfl
        simp only [cond_true, Option.bind_some, specCopy hs, Prod.eta, e, cond_false]
        exact ⟨_, rfl, rfl, hf⟩
      | false =>
        simp only [cond_false, Option.bind_some, specCopy hs, Prod.eta, decide_true, cond_true]
        rw [app_ok (by unfold limOf; simp only [List.length_cons, List.length_nil]; omega)]
        exact ⟨_, rfl, rfl, by unfold Fits; simp only [List.length_append, List.length_cons, List.length_nil]; omega⟩

theorem named_eq {k : Nat} (hk : 9223372036854775808 ≤ k) {d : DiskT} (hs : Small d) (n : ByteArray) (hn : n.size ≤ 1048576) : spec_l4Named.f k d n = some (if nameB n = false then 1 else if fileM d n < 0 then 2 else 0) := by
  unfold spec_l4Named.f
  simp only [Prod.eta, specFind hk hs, specName hk n hn, Option.bind_some]
  cases nameB n with
  | false => rfl
  | true =>
    by_cases c : fileM d n < 0 <;> simp [c]

theorem drop_eq {k : Nat} (hk : 9223372036854775808 ≤ k) {d : DiskT} (hs : Small d) (n : ByteArray) (hn : n.size ≤ 1048576) : ∃ r, spec_Drop.f k d n = some r ∧ impl_Drop.f k d n = some r ∧ Fits r.1 := by
  unfold spec_Drop.f impl_Drop.f
  simp only [Prod.eta, specOk hk d hs, Option.bind_some, named_eq hk hs n hn, implName hk n hn]
  cases hd : diskS d with
  | false =>
    unfold impl_moved.f
    simp only [Prod.eta, implOk hk d hs, ← disk_same, Option.bind_some, hd]
    exact ⟨_, rfl, rfl, fits0⟩
  | true =>
    have hr : Right d := ⟨hs, hd⟩
    obtain ⟨r, h1, h2, h3⟩ := moved_eq hk hr (3, n, ⟨#[]⟩, 0) (nameB n) _ rfl
    simp only [Bool.not_true, cond_false]
    rw [h2]
    simp only at h1
    rw [h1]
    exact ⟨r, rfl, rfl, h3⟩

theorem rename_eq {k : Nat} (hk : 9223372036854775808 ≤ k) {d : DiskT} (hs : Small d) (n t : ByteArray) (hn : n.size ≤ 1048576) (ht : t.size ≤ 1048576) : ∃ r, spec_Rename.f k d n t = some r ∧ impl_Rename.f k d n t = some r ∧ Fits r.1 := by
  unfold spec_Rename.f impl_Rename.f spec_Rename.c0
  simp only [Prod.eta, specOk hk d hs, Option.bind_some, named_eq hk hs n hn, implName hk n hn, specName hk t ht, implName hk t ht]
  cases hd : diskS d with
  | false =>
    refine ⟨((0, 0, [], [], []), 1), rfl, ?_, fits0⟩
    have : ∀ m ok, impl_moved.f k d m ok = some ((0, 0, [], [], []), 1) := fun m ok => by
      unfold impl_moved.f
      simp only [Prod.eta, implOk hk d hs, ← disk_same, Option.bind_some, hd]
      rfl
    simp only [this, Option.bind_some]
    cases nameB n <;> cases nameB t <;> rfl
  | true =>
    have hr : Right d := ⟨hs, hd⟩
    obtain ⟨r, h1, h2, h3⟩ := moved_eq hk hr (2, n, t, 0) (nameB n && (nameB t && !decide (n = t))) _ rfl
    refine ⟨r, ?_, ?_, h3⟩
    · simp only [Bool.not_true, cond_false]
      have e : ∀ c1 : Int, c1 = (if (nameB n && (nameB t && !decide (n = t))) = false then (1 : Int) else if fileM d n < 0 then 2 else 0) → (spec_l4Moved.f k d (2, n, t, 0) c1).bind (fun r1 => some r1) = some r := fun c1 h => by
        rw [h]; simp only at h1; rw [h1]; rfl
      cases hnt : nameB t with
      | false =>
        simp only [Bool.not_false, cond_true, Option.bind_some]
        exact e 1 (by simp [hnt])
      | true =>
        simp only [Bool.not_true, cond_false]
        by_cases c : n = t
        · rw [decide_eq_true c]
          simp only [cond_true, Option.bind_some]
          exact e 1 (by simp [c])
        · rw [decide_eq_false c]
          simp only [cond_false, Option.bind_some]
          exact e _ (by simp [hnt, c])
    · cases hnn : nameB n with
      | false =>
        rw [hnn] at h2
        simp only [cond_false, Bool.false_and] at h2 ⊢
        rw [h2]; rfl
      | true =>
        cases hnt : nameB t with
        | false =>
          rw [hnn, hnt] at h2
          simp only [cond_false, cond_true, Bool.false_and, Bool.true_and] at h2 ⊢
          rw [h2]; rfl
        | true =>
          rw [hnn, hnt] at h2
          simp only [cond_true, Bool.true_and] at h2 ⊢
          rw [h2]; rfl
end Go.Proofs.Ytkolofaifjdjjaa.Rx
namespace Go.Proofs.Ytkolofaifjdjjaa.Rx

/-- the inodes that a link names -/
def sweptM (dir : List LinkT) (l : List InodeT) : List InodeT := l.filter fun x => linkB dir x.1
theorem sweptM_len (dir : List LinkT) (l : List InodeT) : (sweptM dir l).length ≤ l.length := List.length_filter_le _ _

theorem specSettled {k : Nat} (hk : 9223372036854775808 ≤ k) (d : DiskT) (dir : List LinkT) (l : List InodeT) (hd : dir.length ≤ 4194304) (hl : l.length ≤ 4194304) : spec_l4Settled.f k d dir l = some (d.1, d.2.1, sweptM dir l, dir, []) := by
  unfold spec_l4Settled.f
  have key := iter_foldl (B := spec_l4Settled.b0 k) l (fun i a => (l, (i : Int), (0, 0, [], [], []), d.1, d.2.1, a, dir, [])) (fun a x => bif linkB dir x.1 then a ++ [x] else a) (fun a => .inl ((0, 0, [], [], []), d.1, d.2.1, a, dir, [])) [] (fun i hi => by
    have e1 : decide ((i : Int) < (l.length : Int)) = true := by simp; omega
    have e2 : inb? l.length (i : Int) = some i := by rw [inb_ok (by omega) (by omega), Int.toNat_natCast]
    rw [foldl_filter]
    have hlen := List.length_filter_le (fun x : InodeT => linkB dir x.1) (l.take i)
    rw [List.length_take] at hlen
    unfold spec_l4Settled.b0
    dsimp only
    simp only [e1, cond_true, e2, Option.bind_some, List.getElem?_eq_getElem hi, specLinked hk dir _ hd]
    have eL : (dir.any fun y => decide (y.2 = l[i].1)) = linkB dir l[i].1 := rfl
    rw [eL, wrap_i64 (by omega) (by omega), app_ok (by unfold limOf; simp only [List.length_append, List.length_nil, List.length_cons]; omega)]
    cases linkB dir l[i].1 <;> rfl) (by
    have e1 : decide ((l.length : Int) < (l.length : Int)) = false := by simp
    unfold spec_l4Settled.b0
    dsimp only
    rw [e1]; rfl) k (by omega)
  have e0 : ((0 : Nat) : Int) = 0 := rfl
  simp only [e0] at key
  rw [key, foldl_filter]
  rfl

theorem implLinkedIn {k : Nat} (hk : 9223372036854775808 ≤ k) (dir : List LinkT) (x : InodeT) (hd : dir.length ≤ 4194304) : slices_ContainsFunc_Link_108.f k dir x = some (linkB dir x.1) := by
  unfold slices_ContainsFunc_Link_108.f slices_IndexFunc_Link_108.f linkB
  rw [any_idx]
  have key := iter_find (B := slices_IndexFunc_Link_108.b0 k) dir (fun i => (dir, 0, (dir.length : Int), (i : Int), x)) (fun y => decide (y.2 = x.1)) (fun i => .inr (i : Int)) (.inl 0) (fun i hi => by
    have e1 : decide ((i : Int) < (dir.length : Int)) = true := by simp; omega
    have e2 : inb? dir.length (i : Int) = some i := by rw [inb_ok (by omega) (by omega), Int.toNat_natCast]
    unfold slices_IndexFunc_Link_108.b0 impl_swept_in_1.f
    dsimp only
    simp only [e1, cond_true, e2, Option.bind_some, List.getElem?_eq_getElem hi]
    rw [wrap_i64 (by omega) (by omega)]
    rfl) (by
    have e1 : decide ((dir.length : Int) < (dir.length : Int)) = false := by simp
    unfold slices_IndexFunc_Link_108.b0
    dsimp only
    rw [e1]; rfl) k (by omega)
  have e0 : ((0 : Nat) : Int) = 0 := rfl
  simp only [e0] at key
  simp only [Prod.eta]
  rw [key]
  unfold idxOf
  cases dir.findIdx? (fun y => decide (y.2 = x.1)) with
  | none => rfl
  | some i => simp

theorem implSwept {k : Nat} (hk : 9223372036854775808 ≤ k) (d : DiskT) (hd : d.2.2.2.1.length ≤ 4194304) (hl : d.2.2.1.length ≤ 4194304) : impl_swept.f k d = some (d.1, d.2.1, sweptM d.2.2.2.1 d.2.2.1, d.2.2.2.1, d.2.2.2.2) := by
  have hp : ∀ (c : Int × Int × Unit × List LinkT × List MoveT) (x : InodeT), c.2.2.2.1 = d.2.2.2.1 → impl_swept_in.f k x c = some (!linkB d.2.2.2.1 x.1) := fun c x hc => by
    unfold impl_swept_in.f
    simp only [Prod.eta, hc, implLinkedIn hk _ x hd, Option.bind_some]
  unfold impl_swept.f slices_DeleteFunc_Inode_106.f
  have hi : slices_IndexFunc_Inode_106.f k d.2.2.1 (d.1, d.2.1, (), d.2.2.2.1, d.2.2.2.2) = some (idxOf (fun x => !linkB d.2.2.2.1 x.1) d.2.2.1) := by
    unfold slices_IndexFunc_Inode_106.f idxOf
    have key := iter_find (B := slices_IndexFunc_Inode_106.b0 k) d.2.2.1 (fun i => (d.2.2.1, 0, (d.2.2.1.length : Int), (i : Int), d.1, d.2.1, (), d.2.2.2.1, d.2.2.2.2)) (fun x => !linkB d.2.2.2.1 x.1) (fun i => .inr (i : Int)) (.inl 0) (fun i hi => by
      have e1 : decide ((i : Int) < (d.2.2.1.length : Int)) = true := by simp; omega
      have e2 : inb? d.2.2.1.length (i : Int) = some i := by rw [inb_ok (by omega) (by omega), Int.toNat_natCast]
      unfold slices_IndexFunc_Inode_106.b0
      dsimp only
      simp only [e1, cond_true, e2, Option.bind_some, List.getElem?_eq_getElem hi, Prod.eta, hp (d.1, d.2.1, (), d.2.2.2.1, d.2.2.2.2) _ rfl]
      rw [wrap_i64 (by omega) (by omega)]
      rfl) (by
      have e1 : decide ((d.2.2.1.length : Int) < (d.2.2.1.length : Int)) = false := by simp
      unfold slices_IndexFunc_Inode_106.b0
      dsimp only
      rw [e1]; rfl) k (by omega)
    have e0 : ((0 : Nat) : Int) = 0 := rfl
    simp only [e0] at key
    rw [key]
    cases d.2.2.1.findIdx? (fun x => !linkB d.2.2.2.1 x.1) <;> rfl
  rw [hi, delG_eq (q := fun x : InodeT => !linkB d.2.2.2.1 x.1) (fun x _ => hp _ x rfl) (by omega)]
  simp only [Bool.not_not, Option.bind_some]
  rfl

theorem syncdir_eq {k : Nat} (hk : 9223372036854775808 ≤ k) {d : DiskT} (hs : Small d) : ∃ r, spec_SyncDir.f k d = some r ∧ impl_SyncDir.f k d = some r ∧ Fits r.1 := by
  unfold spec_SyncDir.f impl_SyncDir.f
  simp only [Prod.eta, specOk hk d hs, implOk hk d hs, ← disk_same, Option.bind_some]
  have hf := hs.fits
  cases hd : diskS d with
  | false => exact ⟨_, rfl, rfl, fits0⟩
  | true =>
    have hr : Right d := ⟨hs, hd⟩
    have hn := nowM_len hs
    have hi := hs.ino
    simp only [Bool.not_true, cond_false, specNow hk hs, implNow hk hr, Option.bind_some, implCopy hs, specSettled hk d _ d.2.2.1 hn (by omega)]
    rw [implSwept hk (d.1, d.2.1, d.2.2.1, nowM d, []) hn (by simp only; omega)]
    exact ⟨_, rfl, rfl, by have := sweptM_len (nowM d) d.2.2.1; unfold Fits at hf ⊢; simp only [List.length_nil]; omega⟩

/-! a crash -/
def moreM (cuts : List Int) (x : InodeT) (i : Nat) : Int := match cuts[i]? with
  | some c => if (if (x.2.1.size : Int) - x.2.2 < c then (x.2.1.size : Int) - x.2.2 else c) > 0 then (if (x.2.1.size : Int) - x.2.2 < c then (x.2.1.size : Int) - x.2.2 else c) else 0
  | none => 0
def cutM (cuts : List Int) (x : InodeT) (i : Nat) : InodeT := (x.1, x.2.1.extract 0 (x.2.2 + moreM cuts x i).toNat, x.2.2 + moreM cuts x i)
def cutsM (cuts : List Int) (l : List InodeT) : List InodeT := l.mapIdx fun i x => cutM cuts x i

theorem cutsM_len (cuts : List Int) (l : List InodeT) : (cutsM cuts l).length = l.length := by unfold cutsM; simp
theorem cutsM_get {cuts : List Int} {l : List InodeT} {i : Nat} (hi : i < l.length) : (cutsM cuts l)[i]'(by rw [cutsM_len]; exact hi) = cutM cuts l[i] i := by unfold cutsM; simp
theorem moreM_range {cuts : List Int} {x : InodeT} {i : Nat} (h : x.2.2 ≤ x.2.1.size) : 0 ≤ moreM cuts x i ∧ moreM cuts x i ≤ (x.2.1.size : Int) - x.2.2 := by
  unfold moreM
  split
  · repeat' split
    all_goals omega
  · omega

theorem Right.sure {d : DiskT} (h : Right d) {i : Nat} (hi : i < d.2.2.1.length) : 0 ≤ d.2.2.1[i].2.2 ∧ d.2.2.1[i].2.2 ≤ d.2.2.1[i].2.1.size := by
  obtain ⟨_, _, _, _, _, _, _, _, h7, _⟩ := h.parts
  have := range_all.1 h7 i hi
  unfold pIS rg at this
  rw [List.getElem?_eq_getElem hi] at this
  simp only [Bool.and_eq_true, decide_eq_true_eq] at this
  exact this.2.1

abbrev zD : DiskT := (0, 0, [], [], [])

theorem spec_cut {k : Nat} (keep : Int) (cuts : List Int) (a : List InodeT) (i : Nat) (d : DiskT) (x : InodeT) (hx0 : 0 ≤ x.2.2) (hx1 : x.2.2 ≤ x.2.1.size) (hx2 : x.2.1.size ≤ 1048576) (ha : a.length ≤ 1048576) (hi : i ≤ 1048576) (m0 : Int)
    (hm : m0 = match cuts[i]? with | some c => if 0 < c then c else 0 | none => 0) :
    spec_Crash.c0 k (keep, cuts, a, (i : Int), m0, d, zD, x) = some (.inl (keep, cuts, a ++ [cutM cuts x i], ((i + 1 : Nat) : Int), d, zD)) := by
  have fin : ∀ m : Int, 0 ≤ m → m ≤ (x.2.1.size : Int) - x.2.2 → m = moreM cuts x i → spec_Crash.c1 k (keep, cuts, a, (i : Int), m, d, zD, x) = some (.inl (keep, cuts, a ++ [cutM cuts x i], ((i + 1 : Nat) : Int), d, zD)) := fun m h0 h1 h2 => by
    unfold spec_Crash.c1
    dsimp only
    rw [wrap_i64 (by omega) (by omega), cut_ok (by omega) (by omega) (by omega)]
    simp only [Option.bind_some, Int.toNat_zero, Prod.eta]
    rw [app_ok (by unfold limOf; simp only [List.length_cons, List.length_nil]; omega)]
    simp only [Option.bind_some]
    rw [wrap_i64 (by omega) (by omega)]
    unfold cutM
    rw [← h2]
    have hz : ((x.2.1.extract 0 (x.2.2 + m).toNat).size : Int) = x.2.2 + m := by rw [ByteArray.size_extract]; omega
    rw [hz]
    rfl
  have h0 : 0 ≤ m0 := by
    rw [hm]
    split
    · split <;> omega
    · omega
  have hq : moreM cuts x i = if (x.2.1.size : Int) - x.2.2 < m0 then (x.2.1.size : Int) - x.2.2 else m0 := by
    rw [hm]
    unfold moreM
    cases cuts[i]? with
    | none => simp only; split <;> omega
    | some c =>
      simp only
      repeat' split
      all_goals omega
  unfold spec_Crash.c0
  dsimp only
  rw [wrap_i64 (by omega) (by omega)]
  by_cases c : (x.2.1.size : Int) - x.2.2 < m0
  · rw [decide_eq_true c]
    simp only [cond_true, Option.bind_some, Prod.eta]
    exact fin _ (by omega) (by omega) (by rw [hq, if_pos c])
  · rw [decide_eq_false c]
    simp only [cond_false, Option.bind_some, Prod.eta]
    exact fin _ h0 (by omega) (by rw [hq, if_neg c])

theorem take_cuts (cuts : List Int) (l : List InodeT) {i : Nat} (hi : i < l.length) : (cutsM cuts l).take (i + 1) = (cutsM cuts l).take i ++ [cutM cuts l[i] i] := by
  rw [List.take_add_one, List.getElem?_eq_getElem (by rw [cutsM_len]; exact hi), cutsM_get hi]; rfl

theorem spec_crash {k : Nat} (hk : 9223372036854775808 ≤ k) {d : DiskT} (hr : Right d) (keep : Int) (cuts : List Int) (hc : cuts.length ≤ 1048576) :
    spec_Crash.f k d keep cuts = some (d.1, d.2.1, sweptM (namesM d keep.toNat) (cutsM cuts d.2.2.1), namesM d keep.toNat, []) := by
  have hs := hr.small
  have hl := hs.ino
  unfold spec_Crash.f
  simp only [Prod.eta, specOk hk d hs, Option.bind_some, hr.ok, Bool.not_true, cond_false]
  have key := iter_upto (B := spec_Crash.b0 k) d.2.2.1.length (fun i => (keep, cuts, (cutsM cuts d.2.2.1).take i, (i : Int), d, zD)) (.inl (keep, cutsM cuts d.2.2.1, d, zD)) (fun i hi => by
    have e1 : decide ((i : Int) < (d.2.2.1.length : Int)) = true := by simp; omega
    have e2 : inb? d.2.2.1.length (i : Int) = some i := by rw [inb_ok (by omega) (by omega), Int.toNat_natCast]
    obtain ⟨s0, s1⟩ := hr.sure hi
    have hx2 : d.2.2.1[i].2.1.size ≤ 1048576 := by have := amtI_mem (List.getElem_mem hi); have := hs.amt; omega
    have hal : ((cutsM cuts d.2.2.1).take i).length ≤ 1048576 := by rw [List.length_take, cutsM_len]; omega
    have step := fun m0 hm => spec_cut (k := k) keep cuts ((cutsM cuts d.2.2.1).take i) i d d.2.2.1[i] s0 s1 hx2 hal (by omega) m0 hm
    rw [← take_cuts cuts d.2.2.1 hi] at step
    unfold spec_Crash.b0
    dsimp only
    simp only [e1, cond_true, e2, Option.bind_some, List.getElem?_eq_getElem hi, Prod.eta]
    by_cases c : i < cuts.length
    · have e3 : decide ((i : Int) < (cuts.length : Int)) = true := by simp; omega
      have e4 : inb? cuts.length (i : Int) = some i := by rw [inb_ok (by omega) (by omega), Int.toNat_natCast]
      rw [e3]
      simp only [cond_true, e4, Option.bind_some, List.getElem?_eq_getElem c]
      by_cases c2 : 0 < cuts[i]
      · rw [decide_eq_true c2]
        simp only [cond_true, Option.bind_some]
        rw [step _ (by rw [List.getElem?_eq_getElem c]; simp only; rw [if_pos c2])]
      · rw [decide_eq_false c2]
        simp only [cond_false, Option.bind_some]
        rw [step _ (by rw [List.getElem?_eq_getElem c]; simp only; rw [if_neg c2])]
    · have e3 : decide ((i : Int) < (cuts.length : Int)) = false := by simp; omega
      rw [e3]
      simp only [cond_false, Option.bind_some]
      rw [step _ (by rw [List.getElem?_eq_none (by omega)])]) (by
    have e1 : decide ((d.2.2.1.length : Int) < (d.2.2.1.length : Int)) = false := by simp
    have e2 : (cutsM cuts d.2.2.1).take d.2.2.1.length = cutsM cuts d.2.2.1 := List.take_of_length_le (by rw [cutsM_len]; omega)
    unfold spec_Crash.b0
    dsimp only
    rw [e1, e2]; rfl) k (by omega)
  have e0 : ((0 : Nat) : Int) = 0 := rfl
  simp only [e0, List.take_zero] at key
  rw [key]
  simp only [Option.bind_some]
  unfold spec_Crash.d0
  have hn := namesM_len d keep.toNat
  have hdl := hs.dir
  have hml := hs.mov
  simp only [Prod.eta, specNames hk hs, Option.bind_some]
  rw [specSettled hk d _ _ (by omega) (by rw [cutsM_len]; omega)]
  rfl

theorem impl_cut {k : Nat} (cuts : List Int) (ino : List InodeT) (n : Int) (L : List InodeT) (o : DiskT) (i : Nat) (x : InodeT) (hx0 : 0 ≤ x.2.2) (hx1 : x.2.2 ≤ x.2.1.size) (hx2 : x.2.1.size ≤ 1048576) (hL : L[i]? = some x) (hi : i ≤ 1048576) (m : Int)
    (hm : m = moreM cuts x i) :
    impl_Crash.c0 k (cuts, (i : Int), m, ino, n, (i : Int), zD, (o.1, o.2.1, L, o.2.2.2.1, o.2.2.2.2), x) = some (.inl (cuts, ino, n, ((i + 1 : Nat) : Int), zD, (o.1, o.2.1, L.set i (cutM cuts x i), o.2.2.2.1, o.2.2.2.2))) := by
  obtain ⟨m1, m2⟩ := moreM_range (cuts := cuts) (x := x) (i := i) hx1
  have hlt := (List.getElem?_eq_some_iff.1 hL).1
  have e2 : inb? L.length (i : Int) = some i := by rw [inb_ok (by omega) (by omega), Int.toNat_natCast]
  unfold impl_Crash.c0
  dsimp only
  rw [wrap_i64 (n := x.2.2 + m) (by omega) (by omega), cut_ok (by omega) (by omega) (by omega)]
  simp only [Option.bind_some, Int.toNat_zero, e2, hL, List.length_set, List.getElem?_set_self hlt, List.set_set]
  rw [wrap_i64 (by omega) (by omega)]
  unfold cutM
  rw [← hm]
  rfl

theorem cpU_at {α : Type} (a l : List α) (hl : l.length = a.length) {i : Nat} (hi : i < a.length) : (cpU a l i)[i]? = l[i]? := by
  rw [cpU_get a l hl i i (by omega), if_neg (by omega)]

theorem impl_crash {k : Nat} (hk : 9223372036854775808 ≤ k) {d : DiskT} (hr : Right d) (keep : Int) (cuts : List Int) (hc : cuts.length ≤ 1048576) :
    impl_Crash.f k d keep cuts = some (d.1, d.2.1, sweptM (namesM d keep.toNat) (cutsM cuts d.2.2.1), namesM d keep.toNat, []) := by
  have hs := hr.small
  have hl := hs.ino
  have hml := hs.mov
  have hdl := hs.dir
  unfold impl_Crash.f
  simp only [Prod.eta, implOk hk d hs, Option.bind_some, hr.ok', Bool.not_true, cond_false, implCopy hs]
  obtain ⟨n, hn⟩ : ∃ n : Int, (if (if (d.2.2.2.2.length : Int) < keep then (d.2.2.2.2.length : Int) else keep) > 0 then (if (d.2.2.2.2.length : Int) < keep then (d.2.2.2.2.length : Int) else keep) else 0) = n := ⟨_, rfl⟩
  have hn0 : 0 ≤ n := by rw [← hn]; (repeat' split) <;> omega
  have hn1 : n ≤ d.2.2.2.2.length := by rw [← hn]; (repeat' split) <;> omega
  have hn2 : n.toNat = min keep.toNat d.2.2.2.2.length := by rw [← hn]; (repeat' split) <;> omega
  rw [hn, implNames hk hr n hn0 hn1]
  have hnm : namesM d n.toNat = namesM d keep.toNat := by
    unfold namesM
    rw [hn2, List.take_eq_take_min (i := keep.toNat)]
  rw [hnm]
  simp only [Option.bind_some]
  obtain ⟨N, hN⟩ : ∃ N, namesM d keep.toNat = N := ⟨_, rfl⟩
  have hNl : N.length ≤ 4194304 := by rw [← hN]; have := namesM_len d keep.toNat; omega
  rw [hN]
  have hcl := cutsM_len cuts d.2.2.1
  have key := iter_upto (B := impl_Crash.b0 k) d.2.2.1.length (fun i => (cuts, d.2.2.1, (d.2.2.1.length : Int), (i : Int), zD, d.1, d.2.1, cpU (cutsM cuts d.2.2.1) d.2.2.1 i, N, [])) (.inl (zD, d.1, d.2.1, cutsM cuts d.2.2.1, N, [])) (fun i hi => by
    have e1 : decide ((i : Int) < (d.2.2.1.length : Int)) = true := by simp; omega
    have e2 : inb? d.2.2.1.length (i : Int) = some i := by rw [inb_ok (by omega) (by omega), Int.toNat_natCast]
    obtain ⟨s0, s1⟩ := hr.sure hi
    have hx2 : d.2.2.1[i].2.1.size ≤ 1048576 := by have := amtI_mem (List.getElem_mem hi); have := hs.amt; omega
    have hL : (cpU (cutsM cuts d.2.2.1) d.2.2.1 i)[i]? = some d.2.2.1[i] := by
      rw [cpU_at _ _ hcl.symm (by rw [hcl]; exact hi), List.getElem?_eq_getElem hi]
    have step := fun m (hm : m = moreM cuts d.2.2.1[i] i) => impl_cut (k := k) cuts d.2.2.1 (d.2.2.1.length : Int) (cpU (cutsM cuts d.2.2.1) d.2.2.1 i) (d.1, d.2.1, [], N, []) i d.2.2.1[i] s0 s1 hx2 hL (by omega) m hm
    rw [cpU_succ _ _ (by rw [hcl]; exact hi), cutsM_get hi]
    unfold impl_Crash.b0
    dsimp only
    simp only [e1, cond_true, e2, Option.bind_some, List.getElem?_eq_getElem hi, Prod.eta]
    by_cases c : i < cuts.length
    · have e3 : decide ((i : Int) < (cuts.length : Int)) = true := by simp; omega
      have e4 : inb? cuts.length (i : Int) = some i := by rw [inb_ok (by omega) (by omega), Int.toNat_natCast]
      rw [e3]
      simp only [cond_true, e4, Option.bind_some, List.getElem?_eq_getElem c]
      rw [wrap_i64 (n := (d.2.2.1[i].2.1.size : Int) - d.2.2.1[i].2.2) (by omega) (by omega)]
      rw [step _ (by unfold moreM; rw [List.getElem?_eq_getElem c])]
    · have e3 : decide ((i : Int) < (cuts.length : Int)) = false := by simp; omega
      rw [e3]
      simp only [cond_false, Option.bind_some]
      rw [step _ (by unfold moreM; rw [List.getElem?_eq_none (by omega)])]) (by
    have e1 : decide ((d.2.2.1.length : Int) < (d.2.2.1.length : Int)) = false := by simp
    have e2 := cpU_all (cutsM cuts d.2.2.1) d.2.2.1 hcl.symm
    rw [hcl] at e2
    unfold impl_Crash.b0
    dsimp only
    rw [e1, e2]; rfl) k (by omega)
  have e0 : ((0 : Nat) : Int) = 0 := rfl
  simp only [e0, cpU] at key
  rw [key]
  simp only [Option.bind_some]
  unfold impl_Crash.d0
  dsimp only
  rw [implSwept hk (d.1, d.2.1, cutsM cuts d.2.2.1, N, []) hNl (by simp only; omega)]
  rfl

theorem crash_eq {k : Nat} (hk : 9223372036854775808 ≤ k) {d : DiskT} (hs : Small d) (keep : Int) (cuts : List Int) (hc : cuts.length ≤ 1048576) : ∃ r, spec_Crash.f k d keep cuts = some r ∧ impl_Crash.f k d keep cuts = some r ∧ Fits r := by
  cases hd : diskS d with
  | false =>
    refine ⟨zD, ?_, ?_, fits0⟩
    · unfold spec_Crash.f
      simp only [Prod.eta, specOk hk d hs, Option.bind_some, hd]; rfl
    · unfold impl_Crash.f
      simp only [Prod.eta, implOk hk d hs, Option.bind_some, ← disk_same, hd]; rfl
  | true =>
    have hr : Right d := ⟨hs, hd⟩
    refine ⟨_, spec_crash hk hr keep cuts hc, impl_crash hk hr keep cuts hc, ?_⟩
    have h1 := sweptM_len (namesM d keep.toNat) (cutsM cuts d.2.2.1)
    rw [cutsM_len] at h1
    have h2 := namesM_len d keep.toNat
    have h3 := hs.ino; have h4 := hs.dir; have h5 := hs.mov
    unfold Fits
    simp only [List.length_nil]
    omega

/-! a step -/
theorem step_eq {k : Nat} (hk : 9223372036854775808 ≤ k) {d : DiskT} (hs : Small d) (s : Int × ByteArray × ByteArray × ByteArray) (h1 : s.2.1.size ≤ 1048576) (h2 : s.2.2.1.size ≤ 1048576) (h3 : s.2.2.2.size ≤ 1048576) :
    ∃ r, spec_DoStep.f k d s = some r ∧ impl_DoStep.f k d s = some r ∧ Fits r.1 := by
  unfold spec_DoStep.f impl_DoStep.f
  simp only [Prod.eta, specOk hk d hs, implOk hk d hs, ← disk_same, Option.bind_some]
  obtain ⟨r1, a1, b1, c1⟩ := make_eq hk hs s.2.1 h1
  obtain ⟨r2, a2, b2, c2⟩ := add_eq hk hs s.2.1 s.2.2.2 h1 h3
  obtain ⟨r3, a3, b3, c3⟩ := sync_eq hk hs s.2.1 h1
  obtain ⟨r4, a4, b4, c4⟩ := rename_eq hk hs s.2.1 s.2.2.1 h1 h2
  obtain ⟨r5, a5, b5, c5⟩ := drop_eq hk hs s.2.1 h1
  obtain ⟨r6, a6, b6, c6⟩ := syncdir_eq hk hs
  simp only [b1, b2, b3, b4, b5, b6, a1, a2, a3, a4, a5, a6, Option.bind_some, Prod.eta]
  cases hd : diskS d with
  | true =>
    simp only [Bool.not_true, cond_false, specCopy hs, implCopy hs, Option.bind_some]
    by_cases e1 : s.1 = 1
    · rw [decide_eq_true e1]; exact ⟨_, rfl, rfl, c1⟩
    rw [decide_eq_false e1]
    by_cases e2 : s.1 = 2
    · rw [decide_eq_true e2]; exact ⟨_, rfl, rfl, c2⟩
    rw [decide_eq_false e2]
    by_cases e3 : s.1 = 3
    · rw [decide_eq_true e3]; exact ⟨_, rfl, rfl, c3⟩
    rw [decide_eq_false e3]
    by_cases e4 : s.1 = 4
    · rw [decide_eq_true e4]; exact ⟨_, rfl, rfl, c4⟩
    rw [decide_eq_false e4]
    by_cases e5 : s.1 = 5
    · rw [decide_eq_true e5]; exact ⟨_, rfl, rfl, c5⟩
    rw [decide_eq_false e5]
    by_cases e6 : s.1 = 6
    · rw [decide_eq_true e6]; exact ⟨_, rfl, rfl, c6⟩
    rw [decide_eq_false e6]
    exact ⟨_, rfl, rfl, hs.fits⟩
  | false =>
    have z : ∀ r, (some r = some ((zD, 1) : DiskT × Int)) → r = (zD, 1) := fun r h => Option.some.inj h
    have w1 : r1 = (zD, 1) := z _ (by rw [← a1]; unfold spec_Make.f; simp only [Prod.eta, specOk hk d hs, Option.bind_some, hd]; rfl)
    have w2 : r2 = (zD, 1) := z _ (by rw [← a2]; unfold spec_Add.f; simp only [Prod.eta, specOk hk d hs, Option.bind_some, hd]; rfl)
    have w3 : r3 = (zD, 1) := z _ (by rw [← a3]; unfold spec_Sync.f; simp only [Prod.eta, specOk hk d hs, Option.bind_some, hd]; rfl)
    have w4 : r4 = (zD, 1) := z _ (by rw [← a4]; unfold spec_Rename.f; simp only [Prod.eta, specOk hk d hs, Option.bind_some, hd]; rfl)
    have w5 : r5 = (zD, 1) := z _ (by rw [← a5]; unfold spec_Drop.f; simp only [Prod.eta, specOk hk d hs, Option.bind_some, hd]; rfl)
    have w6 : r6 = (zD, 1) := z _ (by rw [← a6]; unfold spec_SyncDir.f; simp only [Prod.eta, specOk hk d hs, Option.bind_some, hd]; rfl)
    rw [w1, w2, w3, w4, w5, w6]
    refine ⟨(zD, 1), rfl, ?_, fits0⟩
    cases decide (s.1 = 1) <;> cases decide (s.1 = 2) <;> cases decide (s.1 = 3) <;> cases decide (s.1 = 4) <;> cases decide (s.1 = 5) <;> cases decide (s.1 = 6) <;> rfl
end Go.Proofs.Ytkolofaifjdjjaa.Rx
