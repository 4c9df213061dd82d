/- The calls of a disk, and what they leave. No condition beside those that each theorem states. -/
import Derived.Test.YtlloaipjkejkgaaRxPlainA
set_option linter.unusedVariables false
set_option linter.unusedSimpArgs false
namespace Go.Proofs.Ytlloaipjkejkgaa.Rx

/-- a right disk -/
structure Right (d : DiskT) : Prop where
  small : Small d
  ok : diskS d = true
theorem Right.ok' {d : DiskT} (h : Right d) : diskI d = true := by rw [← disk_same]; exact h.ok
theorem Right.parts {d : DiskT} (h : Right d) : 0 ≤ d.1 ∧ d.1 ≤ 1048576 ∧ 1 ≤ d.2.1 ∧ d.2.1 ≤ 1000000 ∧ d.2.2.1.length ≤ 10 ∧ d.2.2.2.2.length ≤ 20 ∧ d.2.2.2.1.length ≤ 10 ∧ bytesM d.2.2.1 ≤ d.1 ∧
    (List.range d.2.2.1.length).all (pIS d) = true ∧ (List.range d.2.2.2.1.length).all (pD d) = true ∧ (List.range d.2.2.2.2.length).all (pMS d) = true := by
  have := h.ok
  unfold diskS rg at this
  simp only [Bool.and_eq_true, decide_eq_true_eq] at this
  obtain ⟨h1, h2, h3, h4, h5, h6, h7, h8, h9⟩ := this
  exact ⟨h1.1, h1.2, h2.1, h2.2, by omega, by omega, by omega, h6, h7, h8, h9⟩
theorem Right.links {d : DiskT} (h : Right d) (n : Nat) : linksI d.2.2.2.1 (d.2.2.2.2.take n) = linksS d.2.2.2.1 (d.2.2.2.2.take n) ∧ Srt (linksS d.2.2.2.1 (d.2.2.2.2.take n)) := by
  obtain ⟨_, _, _, _, _, _, _, _, _, h8, h9⟩ := h.parts
  by_cases hn : n ≤ d.2.2.2.2.length
  · exact links_same h8 n hn fun j hj => range_all.1 h9 j (by omega)
  · rw [List.take_of_length_le (show d.2.2.2.2.length ≤ n by omega)]
    have := links_same h8 d.2.2.2.2.length (Nat.le_refl _) fun j hj => range_all.1 h9 j hj
    rwa [List.take_length] at this

/-- the names behind the first moves -/
def namesM (d : DiskT) (n : Nat) : List LinkT := linksS d.2.2.2.1 (d.2.2.2.2.take n)
theorem namesM_len (d : DiskT) (n : Nat) : (namesM d n).length ≤ d.2.2.2.1.length + d.2.2.2.2.length := by
  unfold namesM
  have := linksS_len (d.2.2.2.2.take n) d.2.2.2.1
  rw [List.length_take] at this
  omega

theorem foldl_links (dir : List LinkT) (ms : List MoveT) : ms.foldl (fun l m => (applyS l m).1) dir = linksS dir ms := rfl
theorem foldl_linksI (dir : List LinkT) (ms : List MoveT) : ms.foldl (fun l m => (applyI l m).1) dir = linksI dir ms := rfl

theorem specNames {k : Nat} (hk : 9223372036854775808 ≤ k) {d : DiskT} (hs : Small d) (n : Int) : spec_l4Names.f k d n = some (namesM d n.toNat) := by
  have hd := hs.dir
  have hm := hs.mov
  unfold spec_l4Names.f
  rw [app_ok (by unfold limOf; simp only [List.length_nil]; omega)]
  simp only [Option.bind_some, List.nil_append, Prod.eta]
  obtain ⟨ms, hms⟩ : ∃ ms, d.2.2.2.2.take n.toNat = ms := ⟨_, rfl⟩
  have hl : ms.length = min n.toNat d.2.2.2.2.length := by rw [← hms, List.length_take]
  have hat : ∀ i (hi : i < ms.length), d.2.2.2.2[i]? = some ms[i] := fun i hi => by
    rw [← List.getElem?_eq_getElem hi, ← hms, List.getElem?_take, if_pos (by omega)]
  have key := iter_foldl (B := spec_l4Names.b0 k) ms (fun i a => (n, [], a, (i : Int), d)) (fun l m => (applyS l m).1) (fun a => .inl ([], a)) d.2.2.2.1 (fun i hi => by
    have e1 : decide ((i : Int) < n) = true := by simp; omega
    have e2 : decide ((i : Int) < (d.2.2.2.2.length : Int)) = true := by simp; omega
    have e3 : inb? d.2.2.2.2.length (i : Int) = some i := by rw [inb_ok (by omega) (by omega), Int.toNat_natCast]
    have hll := linksS_len (ms.take i) d.2.2.2.1
    rw [List.length_take] at hll
    obtain ⟨n1, n2⟩ := hs.movN ms[i] (List.mem_of_getElem? (hat i hi))
    simp only [foldl_links]
    unfold spec_l4Names.b0
    dsimp only
    simp only [e1, e2, cond_true, e3, Option.bind_some, hat i hi, Prod.eta]
    rw [specApply hk _ _ (by omega) n1 n2]
    simp only [Option.bind_some]
    rw [wrap_i64 (by omega) (by omega)]
    rfl) (by
    unfold spec_l4Names.b0
    dsimp only
    by_cases c : (ms.length : Int) < n
    · have e1 : decide ((ms.length : Int) < n) = true := decide_eq_true c
      have e2 : decide ((ms.length : Int) < (d.2.2.2.2.length : Int)) = false := by simp; omega
      rw [e1, e2]; rfl
    · have e1 : decide ((ms.length : Int) < n) = false := decide_eq_false c
      rw [e1]; rfl) k (by omega)
  have e0 : ((0 : Nat) : Int) = 0 := rfl
  simp only [e0] at key
  rw [key]
  simp only [Option.bind_some, foldl_links]
  rw [← hms]
  rfl

theorem implNames {k : Nat} (hk : 9223372036854775808 ≤ k) {d : DiskT} (hr : Right d) (n : Int) (h0 : 0 ≤ n) (h1 : n ≤ d.2.2.2.2.length) : impl_Disk_names.f k d n = some (namesM d n.toNat) := by
  have hd := hr.small.dir
  have hm := hr.small.mov
  have hL := (hr.links n.toNat).1
  unfold impl_Disk_names.f impl_copyLinks.f
  rw [app_ok (by unfold limOf; simp only [List.length_nil]; omega)]
  simp only [Option.bind_some, List.nil_append]
  rw [cut_ok (by omega) (by omega) (by omega)]
  simp only [Option.bind_some, Int.toNat_zero, List.drop_zero]
  unfold namesM
  rw [← hL]
  obtain ⟨ms, hms⟩ : ∃ ms, d.2.2.2.2.take n.toNat = ms := ⟨_, rfl⟩
  have hl : ms.length = min n.toNat d.2.2.2.2.length := by rw [← hms, List.length_take]
  rw [hms]
  have key := iter_foldl (B := impl_Disk_names.b0 k) ms (fun i a => ([], a, ms, (ms.length : Int), (i : Int))) (fun l m => (applyI l m).1) (fun a => .inl ([], a)) d.2.2.2.1 (fun i hi => by
    have e1 : decide ((i : Int) < (ms.length : Int)) = true := by simp; omega
    have e3 : inb? ms.length (i : Int) = some i := by rw [inb_ok (by omega) (by omega), Int.toNat_natCast]
    have hll := linksI_len (ms.take i) d.2.2.2.1
    rw [List.length_take] at hll
    obtain ⟨n1, n2⟩ := hr.small.movN ms[i] (List.mem_of_mem_take (by rw [hms]; exact List.getElem_mem hi))
    simp only [foldl_linksI]
    unfold impl_Disk_names.b0
    dsimp only
    simp only [e1, cond_true, e3, Option.bind_some, List.getElem?_eq_getElem hi, Prod.eta]
    rw [implApply hk _ _ (by omega) n2]
    simp only [Option.bind_some]
    rw [wrap_i64 (by omega) (by omega)]
    rfl) (by
    have e1 : decide ((ms.length : Int) < (ms.length : Int)) = false := by simp
    unfold impl_Disk_names.b0
    dsimp only
    rw [e1]; rfl) k (by omega)
  have e0 : ((0 : Nat) : Int) = 0 := rfl
  simp only [e0] at key
  rw [key]
  rfl

def nowM (d : DiskT) : List LinkT := namesM d d.2.2.2.2.length
theorem specNow {k : Nat} (hk : 9223372036854775808 ≤ k) {d : DiskT} (hs : Small d) : spec_l4Names.f k d (d.2.2.2.2.length : Int) = some (nowM d) := specNames hk hs _
theorem implNow {k : Nat} (hk : 9223372036854775808 ≤ k) {d : DiskT} (hr : Right d) : impl_Disk_now.f k d = some (nowM d) := by
  unfold impl_Disk_now.f
  try simp only [Prod.eta]
  rw [implNames hk hr _ (by omega) (by omega)]
  rfl

/-- the place of a name's inode, or -1 -/
def fileM (d : DiskT) (n : ByteArray) : Int := bif decide (at? (nowM d) n < 0) then -1 else idxOf (fun x => decide (x.1 = idAt (nowM d) n)) d.2.2.1
theorem fileM_lt (d : DiskT) (n : ByteArray) : -1 ≤ fileM d n ∧ fileM d n < d.2.2.1.length := by
  unfold fileM
  have := idxOf_lt (fun x : InodeT => decide (x.1 = idAt (nowM d) n)) d.2.2.1
  cases decide (at? (nowM d) n < 0) with
  | true => simp only [cond_true]; omega
  | false => simpa using this

theorem nowM_len {d : DiskT} (hs : Small d) : (nowM d).length ≤ 4194304 := by
  have := namesM_len d d.2.2.2.2.length
  have := hs.dir
  have := hs.mov
  unfold nowM
  omega

theorem specFind {k : Nat} (hk : 9223372036854775808 ≤ k) {d : DiskT} (hs : Small d) (n : ByteArray) : spec_l4Find.f k d n = some (fileM d n) := by
  unfold spec_l4Find.f fileM
  simp only [Prod.eta, specNow hk hs, Option.bind_some, specAt hk _ n (nowM_len hs)]
  have hat : idxOf (fun x => decide (x.1 = n)) (nowM d) = at? (nowM d) n := rfl
  rw [hat]
  by_cases c : at? (nowM d) n < 0
  · rw [decide_eq_true c]; rfl
  · obtain ⟨e1, x, e2, e3⟩ := idAt_get (l := nowM d) (n := n) (by omega)
    rw [decide_eq_false c]
    simp only [cond_false, e1, e2, Option.bind_some, specInode hk d _ hs.ino, e3]
theorem implFile {k : Nat} (hk : 9223372036854775808 ≤ k) {d : DiskT} (hr : Right d) (n : ByteArray) : impl_Disk_file.f k d n = some (fileM d n) := by
  unfold impl_Disk_file.f fileM
  simp only [Prod.eta, implNow hk hr, Option.bind_some, implAt hk _ n (nowM_len hr.small)]
  have hat : idxOf (fun x => decide (x.1 = n)) (nowM d) = at? (nowM d) n := rfl
  rw [hat]
  by_cases c : at? (nowM d) n < 0
  · rw [decide_eq_true c]; rfl
  · obtain ⟨e1, x, e2, e3⟩ := idAt_get (l := nowM d) (n := n) (by omega)
    rw [decide_eq_false c]
    simp only [cond_false, e1, e2, Option.bind_some, implInode hk d _ hr.small.ino, e3]

/-- a result's rows are not too long to be marked -/
def Fits (d : DiskT) : Prop := d.2.2.1.length ≤ 4194304 ∧ d.2.2.2.1.length ≤ 4194304 ∧ d.2.2.2.2.length ≤ 4194304
theorem Small.fits {d : DiskT} (h : Small d) : Fits d := ⟨by have := h.ino; omega, by have := h.dir; omega, by have := h.mov; omega⟩

theorem specCopy {k : Nat} {d : DiskT} (hs : Small d) : spec_l4Copy.f k d = some d := by
  have h1 := hs.ino; have h2 := hs.dir; have h3 := hs.mov
  unfold spec_l4Copy.f
  rw [app_ok (by unfold limOf; simp only [List.length_nil]; omega), app_ok (by unfold limOf; simp only [List.length_nil]; omega), app_ok (by unfold limOf; simp only [List.length_nil]; omega)]
  rfl
theorem implCopy {k : Nat} {d : DiskT} (hs : Small d) : impl_copyDisk.f k d = some d := by
  have h1 := hs.ino; have h2 := hs.dir; have h3 := hs.mov
  unfold impl_copyDisk.f impl_copyLinks.f
  rw [app_ok (by unfold limOf; simp only [List.length_nil]; omega), app_ok (by unfold limOf; simp only [List.length_nil]; omega), app_ok (by unfold limOf; simp only [List.length_nil]; omega)]
  rfl

/-! the calls -/
theorem specList {k : Nat} (hk : 9223372036854775808 ≤ k) {d : DiskT} (hs : Small d) : spec_List.f k d = some (bif diskS d then (nowM d).map (·.1) else []) := by
  unfold spec_List.f
  simp only [Prod.eta, specOk hk d hs, Option.bind_some, specNow hk hs]
  cases diskS d with
  | false => rfl
  | true =>
    simp only [Bool.not_true, cond_false, cond_true]
    have hl := nowM_len hs
    obtain ⟨l, hl'⟩ : ∃ l, nowM d = l := ⟨_, rfl⟩
    rw [hl'] at hl ⊢
    have hf : ∀ (l : List LinkT) (a : List ByteArray), l.foldl (fun a x => a ++ [x.1]) a = a ++ l.map (·.1) := fun l => by
      induction l with
      | nil => intro a; simp
      | cons x l ih => intro a; rw [List.foldl_cons, ih]; simp
    have key := iter_foldl (B := spec_List.b0 k) l (fun i a => ([], a, l, (i : Int))) (fun a x => a ++ [x.1]) (fun a => .inl ([], a)) [] (fun i hi => by
      have e1 : decide ((i : Int) < (l.length : Int)) = true := by simp; omega
      have e2 : inb? l.length (i : Int) = some i := by rw [inb_ok (by omega) (by omega), Int.toNat_natCast]
      rw [hf]
      unfold spec_List.b0
      dsimp only
      simp only [e1, cond_true, e2, Option.bind_some, List.getElem?_eq_getElem hi]
      rw [wrap_i64 (by omega) (by omega), app_ok (by unfold limOf; simp only [List.nil_append, List.length_map, List.length_take, List.length_cons, List.length_nil]; omega)]
      rfl) (by
      have e1 : decide ((l.length : Int) < (l.length : Int)) = false := by simp
      unfold spec_List.b0
      dsimp only
      rw [e1]; rfl) k (by omega)
    have e0 : ((0 : Nat) : Int) = 0 := rfl
    simp only [e0] at key
    rw [key, hf]
    rfl
theorem implList {k : Nat} (hk : 9223372036854775808 ≤ k) {d : DiskT} (hs : Small d) : impl_List.f k d = some (bif diskS d then (nowM d).map (·.1) else []) := by
  unfold impl_List.f
  simp only [Prod.eta, implOk hk d hs, Option.bind_some, ← disk_same]
  cases hd : diskS d with
  | false => rfl
  | true =>
    have hr : Right d := ⟨hs, hd⟩
    simp only [Bool.not_true, cond_false, cond_true, implNow hk hr, Option.bind_some]
    have hl := nowM_len hs
    obtain ⟨l, hl'⟩ : ∃ l, nowM d = l := ⟨_, rfl⟩
    rw [hl'] at hl ⊢
    have hf : ∀ (l : List LinkT) (a : List ByteArray), l.foldl (fun a x => a ++ [x.1]) a = a ++ l.map (·.1) := fun l => by
      induction l with
      | nil => intro a; simp
      | cons x l ih => intro a; rw [List.foldl_cons, ih]; simp
    have key := iter_foldl (B := impl_List.b0 k) l (fun i a => ([], a, l, (l.length : Int), (i : Int))) (fun a x => a ++ [x.1]) (fun a => .inl ([], a)) [] (fun i hi => by
      have e1 : decide ((i : Int) < (l.length : Int)) = true := by simp; omega
      have e2 : inb? l.length (i : Int) = some i := by rw [inb_ok (by omega) (by omega), Int.toNat_natCast]
      rw [hf]
      unfold impl_List.b0
      dsimp only
      simp only [e1, cond_true, e2, Option.bind_some, List.getElem?_eq_getElem hi]
      rw [wrap_i64 (by omega) (by omega), app_ok (by unfold limOf; simp only [List.nil_append, List.length_map, List.length_take, List.length_cons, List.length_nil]; omega)]
      rfl) (by
      have e1 : decide ((l.length : Int) < (l.length : Int)) = false := by simp
      unfold impl_List.b0
      dsimp only
      rw [e1]; rfl) k (by omega)
    have e0 : ((0 : Nat) : Int) = 0 := rfl
    simp only [e0] at key
    rw [key, hf]
    rfl
end Go.Proofs.Ytlloaipjkejkgaa.Rx
namespace Go.Proofs.Ytlloaipjkejkgaa.Rx

theorem bytesM_amt (l : List InodeT) : bytesM l = amtI l := by unfold bytesM; rw [bytes_fold]; simp
theorem amtI_mem {l : List InodeT} {x : InodeT} (h : x ∈ l) : x.2.1.size ≤ amtI l := by
  obtain ⟨i, hi, rfl⟩ := List.getElem_of_mem h
  have := amtI_at hi
  omega

/-- the place of an inode that is there -/
theorem file_at {d : DiskT} {n : ByteArray} (h : ¬ fileM d n < 0) : inb? d.2.2.1.length (fileM d n) = some (fileM d n).toNat ∧ ∃ x, d.2.2.1[(fileM d n).toNat]? = some x ∧ x ∈ d.2.2.1 := by
  obtain ⟨h1, h2⟩ := fileM_lt d n
  have hlt : (fileM d n).toNat < d.2.2.1.length := by omega
  exact ⟨inb_ok (by omega) h2, _, List.getElem?_eq_getElem hlt, List.getElem_mem hlt⟩

theorem fits0 : Fits (0, 0, [], [], []) := ⟨Nat.zero_le _, Nat.zero_le _, Nat.zero_le _⟩

theorem load_eq {k : Nat} (hk : 9223372036854775808 ≤ k) {d : DiskT} (hs : Small d) (n : ByteArray) : ∃ r, spec_Load.f k d n = some r ∧ impl_Load.f k d n = some r ∧ r.1.size ≤ 1048576 := by
  unfold spec_Load.f impl_Load.f
  simp only [Prod.eta, specOk hk d hs, implOk hk d hs, ← disk_same, Option.bind_some]
  cases hd : diskS d with
  | false => exact ⟨_, rfl, rfl, Nat.zero_le _⟩
  | true =>
    have hr : Right d := ⟨hs, hd⟩
    simp only [Bool.not_true, cond_false, specFind hk hs, implFile hk hr, Option.bind_some]
    by_cases c : fileM d n < 0
    · rw [decide_eq_true c]; exact ⟨_, rfl, rfl, Nat.zero_le _⟩
    · obtain ⟨e1, x, e2, e3⟩ := file_at c
      rw [decide_eq_false c]
      simp only [cond_false, e1, e2, Option.bind_some]
      exact ⟨_, rfl, rfl, by have := amtI_mem e3; have := hs.amt; simp only; omega⟩

theorem eqd (a b : Int) (h : a ≤ b) : decide (a = b) = decide (b ≤ a) := by
  by_cases c : b ≤ a
  · have : a = b := by omega
    simp [this]
  · have : ¬ a = b := by omega
    simp [c, this]

theorem make_eq {k : Nat} (hk : 9223372036854775808 ≤ k) {d : DiskT} (hs : Small d) (n : ByteArray) (hn : n.size ≤ 1048576) : ∃ r, spec_Make.f k d n = some r ∧ impl_Make.f k d n = some r ∧ Fits r.1 := by
  unfold spec_Make.f impl_Make.f
  simp only [Prod.eta, specOk hk d hs, implOk hk d hs, ← disk_same, Option.bind_some]
  have hf := hs.fits
  cases hd : diskS d with
  | false => exact ⟨_, rfl, rfl, fits0⟩
  | true =>
    have hr : Right d := ⟨hs, hd⟩
    obtain ⟨_, _, p3, p4, p5, p6, p7, _⟩ := hr.parts
    simp only [Bool.not_true, cond_false, specFind hk hs, implFile hk hr, Option.bind_some, specCopy hs, implCopy hs, specName hk n hn, implName hk n hn, Prod.eta]
    rw [eqd (d.2.2.1.length : Int) 10 (by omega), eqd (d.2.2.2.2.length : Int) 20 (by omega), eqd d.2.1 1000000 p4]
    rw [app_ok (by unfold limOf; simp only [List.length_cons, List.length_nil]; omega), app_ok (by unfold limOf; simp only [List.length_cons, List.length_nil]; omega)]
    simp only [Option.bind_some]
    cases nameB n with
    | false => exact ⟨_, rfl, rfl, hf⟩
    | true =>
    cases decide (0 ≤ fileM d n) with
    | true => exact ⟨_, rfl, rfl, hf⟩
    | false =>
    cases decide (10 ≤ (d.2.2.1.length : Int)) with
    | true => exact ⟨_, rfl, rfl, hf⟩
    | false =>
    cases decide (20 ≤ (d.2.2.2.2.length : Int)) with
    | true => exact ⟨_, rfl, rfl, hf⟩
    | false =>
    cases decide (1000000 ≤ d.2.1) with
    | true => exact ⟨_, rfl, rfl, hf⟩
    | false => exact ⟨_, rfl, rfl, by unfold Fits; simp only [List.length_append, List.length_cons, List.length_nil]; omega⟩

theorem sync_eq {k : Nat} (hk : 9223372036854775808 ≤ k) {d : DiskT} (hs : Small d) (n : ByteArray) (hn : n.size ≤ 1048576) : ∃ r, spec_Sync.f k d n = some r ∧ impl_Sync.f k d n = some r ∧ Fits r.1 := by
  unfold spec_Sync.f impl_Sync.f spec_l4Named.f
  simp only [Prod.eta, specOk hk d hs, implOk hk d hs, ← disk_same, Option.bind_some]
  have hf := hs.fits
  cases hd : diskS d with
  | false => exact ⟨_, rfl, rfl, fits0⟩
  | true =>
    have hr : Right d := ⟨hs, hd⟩
    simp only [Bool.not_true, cond_false, specFind hk hs, implFile hk hr, Option.bind_some, specCopy hs, implCopy hs, specName hk n hn, implName hk n hn, Prod.eta]
    cases nameB n with
    | false => exact ⟨_, rfl, rfl, hf⟩
    | true =>
    by_cases c : fileM d n < 0
    · rw [decide_eq_true c]; exact ⟨_, rfl, rfl, hf⟩
    · obtain ⟨e1, x, e2, e3⟩ := file_at c
      rw [decide_eq_false c]
      simp only [Bool.not_true, cond_false, Option.bind_some, decide_true, cond_true, e1, e2]
      exact ⟨_, rfl, rfl, by unfold Fits at hf ⊢; simpa using hf⟩

theorem add_eq {k : Nat} (hk : 9223372036854775808 ≤ k) {d : DiskT} (hs : Small d) (n t : ByteArray) (hn : n.size ≤ 1048576) (ht : t.size ≤ 1048576) : ∃ r, spec_Add.f k d n t = some r ∧ impl_Add.f k d n t = some r ∧ Fits r.1 := by
  unfold spec_Add.f impl_Add.f spec_l4Named.f spec_Add.c0
  simp only [Prod.eta, specOk hk d hs, implOk hk d hs, ← disk_same, Option.bind_some]
  have hf := hs.fits
  cases hd : diskS d with
  | false => exact ⟨_, rfl, rfl, fits0⟩
  | true =>
    have hr : Right d := ⟨hs, hd⟩
    obtain ⟨p1, p2, _⟩ := hr.parts
    have ha := hs.amt
    have hb := bytesM_amt d.2.2.1
    simp only [Bool.not_true, cond_false, specFind hk hs, implFile hk hr, Option.bind_some, specCopy hs, implCopy hs, specName hk n hn, implName hk n hn, Prod.eta, specBytes hk d hs, implBytes hk d hs]
    rw [wrap_i64 (by omega) (by omega), wrap_i64 (by omega) (by omega)]
    have z1 : decide ((1 : Int) = 0) = false := rfl
    have z2 : decide ((2 : Int) = 0) = false := rfl
    have z4 : decide ((4 : Int) = 0) = false := rfl
    cases nameB n with
    | false =>
      simp only [Bool.not_false, cond_true, Option.bind_some, z1, cond_false, specCopy hs, Prod.eta]
      exact ⟨_, rfl, rfl, hf⟩
    | true =>
    by_cases c : fileM d n < 0
    · rw [decide_eq_true c]
      simp only [Bool.not_true, cond_false, cond_true, Option.bind_some, z2, specCopy hs, Prod.eta]
      exact ⟨_, rfl, rfl, hf⟩
    · obtain ⟨e1, x, e2, e3⟩ := file_at c
      have hx := amtI_mem e3
      rw [decide_eq_false c]
      simp only [Bool.not_true, cond_false, Option.bind_some, decide_true, cond_true]
      by_cases c2 : d.1 - bytesM d.2.2.1 < (t.size : Int)
      · have c3 : d.1 < bytesM d.2.2.1 + (t.size : Int) := by omega
        rw [decide_eq_true c2, decide_eq_true c3]
        simp only [cond_true, Option.bind_some, z4, cond_false, specCopy hs, Prod.eta]
        exact ⟨_, rfl, rfl, hf⟩
      · have c3 : ¬ d.1 < bytesM d.2.2.1 + (t.size : Int) := by omega
        rw [decide_eq_false c2, decide_eq_false c3]
        simp only [cond_false, Option.bind_some, specCopy hs, specFind hk hs, decide_true, cond_true, e1, e2, Prod.eta]
        rw [cat_ok (by omega)]
        exact ⟨_, rfl, rfl, by unfold Fits at hf ⊢; simpa using hf⟩

/-- a disk with one more move, with a code -/
theorem moved_eq {k : Nat} (hk : 9223372036854775808 ≤ k) {d : DiskT} (hr : Right d) (m : MoveT) (ok : Bool) (code : Int) (hc : code = if ok = false then 1 else if fileM d m.2.1 < 0 then 2 else 0) :
    ∃ r, spec_l4Moved.f k d m code = some r ∧ impl_moved.f k d m ok = some r ∧ Fits r.1 := by
  have hs := hr.small
  have hf := hs.fits
  obtain ⟨_, _, p3, p4, p5, p6, p7, _⟩ := hr.parts
  unfold spec_l4Moved.f impl_moved.f spec_l4Moved.c0
  simp only [Prod.eta, implOk hk d hs, hr.ok', Option.bind_some, Bool.not_true, cond_false, implCopy hs, implFile hk hr]
  rw [eqd (d.2.2.2.2.length : Int) 20 (by omega)]
  cases ok with
  | false =>
    simp only [if_true] at hc
    subst hc
    refine ⟨(d, 1), ?_, rfl, hf⟩
    have e : decide ((1 : Int) = 0) = false := rfl
    simp only [e, cond_false, Option.bind_some, specCopy hs, Prod.eta]
  | true =>
    simp only [Bool.true_eq_false, if_false] at hc
    by_cases c : fileM d m.2.1 < 0
    · rw [if_pos c] at hc
      subst hc
      refine ⟨(d, 2), ?_, ?_, hf⟩
      · have e : decide ((2 : Int) = 0) = false := rfl
        simp only [e, cond_false, Option.bind_some, specCopy hs, Prod.eta]
      · rw [decide_eq_true c]; rfl
    · rw [if_neg c] at hc
      subst hc
      rw [decide_eq_false c]
      simp only [Bool.not_true, cond_false, decide_true, cond_true]
      cases decide (20 ≤ (d.2.2.2.2.length : Int)) with
      | true =>
        have e : decide ((4 : Int) = 0) = false := rfl
        simp only [cond_true, Option.bind_some, specCopy hs, Prod.eta, e, cond_false]
        exact ⟨_, rfl, rfl, hf⟩
      | false =>
        simp only [cond_false, Option.bind_some, specCopy hs, Prod.eta, decide_true, cond_true]
        rw [app_ok (by unfold limOf; simp only [List.length_cons, List.length_nil]; omega)]
        exact ⟨_, rfl, rfl, by unfold Fits; simp only [List.length_append, List.length_cons, List.length_nil]; omega⟩

theorem named_eq {k : Nat} (hk : 9223372036854775808 ≤ k) {d : DiskT} (hs : Small d) (n : ByteArray) (hn : n.size ≤ 1048576) : spec_l4Named.f k d n = some (if nameB n = false then 1 else if fileM d n < 0 then 2 else 0) := by
  unfold spec_l4Named.f
  simp only [Prod.eta, specFind hk hs, specName hk n hn, Option.bind_some]
  cases nameB n with
  | false => rfl
  | true =>
    by_cases c : fileM d n < 0 <;> simp [c]

theorem drop_eq {k : Nat} (hk : 9223372036854775808 ≤ k) {d : DiskT} (hs : Small d) (n : ByteArray) (hn : n.size ≤ 1048576) : ∃ r, spec_Drop.f k d n = some r ∧ impl_Drop.f k d n = some r ∧ Fits r.1 := by
  unfold spec_Drop.f impl_Drop.f
  simp only [Prod.eta, specOk hk d hs, Option.bind_some, named_eq hk hs n hn, implName hk n hn]
  cases hd : diskS d with
  | false =>
    unfold impl_moved.f
    simp only [Prod.eta, implOk hk d hs, ← disk_same, Option.bind_some, hd]
    exact ⟨_, rfl, rfl, fits0⟩
  | true =>
    have hr : Right d := ⟨hs, hd⟩
    obtain ⟨r, h1, h2, h3⟩ := moved_eq hk hr (3, n, ⟨#[]⟩, 0) (nameB n) _ rfl
    simp only [Bool.not_true, cond_false]
    rw [h2]
    simp only at h1
    rw [h1]
    exact ⟨r, rfl, rfl, h3⟩

theorem rename_eq {k : Nat} (hk : 9223372036854775808 ≤ k) {d : DiskT} (hs : Small d) (n t : ByteArray) (hn : n.size ≤ 1048576) (ht : t.size ≤ 1048576) : ∃ r, spec_Rename.f k d n t = some r ∧ impl_Rename.f k d n t = some r ∧ Fits r.1 := by
  unfold spec_Rename.f impl_Rename.f spec_Rename.c0
  simp only [Prod.eta, specOk hk d hs, Option.bind_some, named_eq hk hs n hn, implName hk n hn, specName hk t ht, implName hk t ht]
  cases hd : diskS d with
  | false =>
    refine ⟨((0, 0, [], [], []), 1), rfl, ?_, fits0⟩
    have : ∀ m ok, impl_moved.f k d m ok = some ((0, 0, [], [], []), 1) := fun m ok => by
      unfold impl_moved.f
      simp only [Prod.eta, implOk hk d hs, ← disk_same, Option.bind_some, hd]
      rfl
    simp only [this, Option.bind_some]
    cases nameB n <;> cases nameB t <;> rfl
  | true =>
    have hr : Right d := ⟨hs, hd⟩
    obtain ⟨r, h1, h2, h3⟩ := moved_eq hk hr (2, n, t, 0) (nameB n && (nameB t && !decide (n = t))) _ rfl
    refine ⟨r, ?_, ?_, h3⟩
    · simp only [Bool.not_true, cond_false]
      have e : ∀ c1 : Int, c1 = (if (nameB n && (nameB t && !decide (n = t))) = false then (1 : Int) else if fileM d n < 0 then 2 else 0) → (spec_l4Moved.f k d (2, n, t, 0) c1).bind (fun r1 => some r1) = some r := fun c1 h => by
        rw [h]; simp only at h1; rw [h1]; rfl
      cases hnt : nameB t with
      | false =>
        simp only [Bool.not_false, cond_true, Option.bind_some]
        exact e 1 (by simp [hnt])
      | true =>
        simp only [Bool.not_true, cond_false]
        by_cases c : n = t
        · rw [decide_eq_true c]
          simp only [cond_true, Option.bind_some]
          exact e 1 (by simp [c])
        · rw [decide_eq_false c]
          simp only [cond_false, Option.bind_some]
          exact e _ (by simp [hnt, c])
    · cases hnn : nameB n with
      | false =>
        rw [hnn] at h2
        simp only [cond_false, Bool.false_and] at h2 ⊢
        rw [h2]; rfl
      | true =>
        cases hnt : nameB t with
        | false =>
          rw [hnn, hnt] at h2
          simp only [cond_false, cond_true, Bool.false_and, Bool.true_and] at h2 ⊢
          rw [h2]; rfl
        | true =>
          rw [hnn, hnt] at h2
          simp only [cond_true, Bool.true_and] at h2 ⊢
          rw [h2]; rfl
end Go.Proofs.Ytlloaipjkejkgaa.Rx
namespace Go.Proofs.Ytlloaipjkejkgaa.Rx

/-- the inodes that a link names -/
def sweptM (dir : List LinkT) (l : List InodeT) : List InodeT := l.filter fun x => linkB dir x.1
theorem sweptM_len (dir : List LinkT) (l : List InodeT) : (sweptM dir l).length ≤ l.length := List.length_filter_le _ _

theorem specSettled {k : Nat} (hk : 9223372036854775808 ≤ k) (d : DiskT) (dir : List LinkT) (l : List InodeT) (hd : dir.length ≤ 4194304) (hl : l.length ≤ 4194304) : spec_l4Settled.f k d dir l = some (d.1, d.2.1, sweptM dir l, dir, []) := by
  unfold spec_l4Settled.f
  have key := iter_foldl (B := spec_l4Settled.b0 k) l (fun i a => (l, (i : Int), (0, 0, [], [], []), d.1, d.2.1, a, dir, [])) (fun a x => bif linkB dir x.1 then a ++ [x] else a) (fun a => .inl ((0, 0, [], [], []), d.1, d.2.1, a, dir, [])) [] (fun i hi => by
    have e1 : decide ((i : Int) < (l.length : Int)) = true := by simp; omega
    have e2 : inb? l.length (i : Int) = some i := by rw [inb_ok (by omega) (by omega), Int.toNat_natCast]
    rw [foldl_filter]
    have hlen := List.length_filter_le (fun x : InodeT => linkB dir x.1) (l.take i)
    rw [List.length_take] at hlen
    unfold spec_l4Settled.b0
    dsimp only
    simp only [e1, cond_true, e2, Option.bind_some, List.getElem?_eq_getElem hi, specLinked hk dir _ hd]
    have eL : (dir.any fun y => decide (y.2 = l[i].1)) = linkB dir l[i].1 := rfl
    rw [eL, wrap_i64 (by omega) (by omega), app_ok (by unfold limOf; simp only [List.length_append, List.length_nil, List.length_cons]; omega)]
    cases linkB dir l[i].1 <;> rfl) (by
    have e1 : decide ((l.length : Int) < (l.length : Int)) = false := by simp
    unfold spec_l4Settled.b0
    dsimp only
    rw [e1]; rfl) k (by omega)
  have e0 : ((0 : Nat) : Int) = 0 := rfl
  simp only [e0] at key
  rw [key, foldl_filter]
  rfl

theorem implLinkedIn {k : Nat} (hk : 9223372036854775808 ≤ k) (dir : List LinkT) (x : InodeT) (hd : dir.length ≤ 4194304) : slices_ContainsFunc_Link_impl_swept_in_1.f k dir x = some (linkB dir x.1) := by
  unfold slices_ContainsFunc_Link_impl_swept_in_1.f slices_IndexFunc_Link_impl_swept_in_1.f linkB
  rw [any_idx]
  have key := iter_find (B := slices_IndexFunc_Link_impl_swept_in_1.b0 k) dir (fun i => (dir, 0, (dir.length : Int), (i : Int), x)) (fun y => decide (y.2 = x.1)) (fun i => .inr (i : Int)) (.inl 0) (fun i hi => by
    have e1 : decide ((i : Int) < (dir.length : Int)) = true := by simp; omega
    have e2 : inb? dir.length (i : Int) = some i := by rw [inb_ok (by omega) (by omega), Int.toNat_natCast]
    unfold slices_IndexFunc_Link_impl_swept_in_1.b0 impl_swept_in_1.f
    dsimp only
    simp only [e1, cond_true, e2, Option.bind_some, List.getElem?_eq_getElem hi]
    rw [wrap_i64 (by omega) (by omega)]
    rfl) (by
    have e1 : decide ((dir.length : Int) < (dir.length : Int)) = false := by simp
    unfold slices_IndexFunc_Link_impl_swept_in_1.b0
    dsimp only
    rw [e1]; rfl) k (by omega)
  have e0 : ((0 : Nat) : Int) = 0 := rfl
  simp only [e0] at key
  try simp only [Prod.eta]
  rw [key]
  unfold idxOf
  cases dir.findIdx? (fun y => decide (y.2 = x.1)) with
  | none => rfl
  | some i => simp

theorem implSwept {k : Nat} (hk : 9223372036854775808 ≤ k) (d : DiskT) (hd : d.2.2.2.1.length ≤ 4194304) (hl : d.2.2.1.length ≤ 4194304) : impl_swept.f k d = some (d.1, d.2.1, sweptM d.2.2.2.1 d.2.2.1, d.2.2.2.1, d.2.2.2.2) := by
  have hp : ∀ (c : Int × Int × Unit × List LinkT × List MoveT) (x : InodeT), c.2.2.2.1 = d.2.2.2.1 → impl_swept_in.f k x c = some (!linkB d.2.2.2.1 x.1) := fun c x hc => by
    unfold impl_swept_in.f
    simp only [Prod.eta, hc, implLinkedIn hk _ x hd, Option.bind_some]
  unfold impl_swept.f slices_DeleteFunc_Inode_impl_swept_in.f
  have hi : slices_IndexFunc_Inode_impl_swept_in.f k d.2.2.1 (d.1, d.2.1, (), d.2.2.2.1, d.2.2.2.2) = some (idxOf (fun x => !linkB d.2.2.2.1 x.1) d.2.2.1) := by
    unfold slices_IndexFunc_Inode_impl_swept_in.f idxOf
    have key := iter_find (B := slices_IndexFunc_Inode_impl_swept_in.b0 k) d.2.2.1 (fun i => (d.2.2.1, 0, (d.2.2.1.length : Int), (i : Int), d.1, d.2.1, (), d.2.2.2.1, d.2.2.2.2)) (fun x => !linkB d.2.2.2.1 x.1) (fun i => .inr (i : Int)) (.inl 0) (fun i hi => by
      have e1 : decide ((i : Int) < (d.2.2.1.length : Int)) = true := by simp; omega
      have e2 : inb? d.2.2.1.length (i : Int) = some i := by rw [inb_ok (by omega) (by omega), Int.toNat_natCast]
      unfold slices_IndexFunc_Inode_impl_swept_in.b0
      dsimp only
      simp only [e1, cond_true, e2, Option.bind_some, List.getElem?_eq_getElem hi, Prod.eta, hp (d.1, d.2.1, (), d.2.2.2.1, d.2.2.2.2) _ rfl]
      rw [wrap_i64 (by omega) (by omega)]
      rfl) (by
      have e1 : decide ((d.2.2.1.length : Int) < (d.2.2.1.length : Int)) = false := by simp
      unfold slices_IndexFunc_Inode_impl_swept_in.b0
      dsimp only
      rw [e1]; rfl) k (by omega)
    have e0 : ((0 : Nat) : Int) = 0 := rfl
    simp only [e0] at key
    rw [key]
    cases d.2.2.1.findIdx? (fun x => !linkB d.2.2.2.1 x.1) <;> rfl
  rw [hi, delG_eq (q := fun x : InodeT => !linkB d.2.2.2.1 x.1) (fun x _ => hp _ x rfl) (by omega)]
  simp only [Bool.not_not, Option.bind_some]
  rfl

theorem syncdir_eq {k : Nat} (hk : 9223372036854775808 ≤ k) {d : DiskT} (hs : Small d) : ∃ r, spec_SyncDir.f k d = some r ∧ impl_SyncDir.f k d = some r ∧ Fits r.1 := by
  unfold spec_SyncDir.f impl_SyncDir.f
  simp only [Prod.eta, specOk hk d hs, implOk hk d hs, ← disk_same, Option.bind_some]
  have hf := hs.fits
  cases hd : diskS d with
  | false => exact ⟨_, rfl, rfl, fits0⟩
  | true =>
    have hr : Right d := ⟨hs, hd⟩
    have hn := nowM_len hs
    have hi := hs.ino
    simp only [Bool.not_true, cond_false, specNow hk hs, implNow hk hr, Option.bind_some, implCopy hs, specSettled hk d _ d.2.2.1 hn (by omega)]
    rw [implSwept hk (d.1, d.2.1, d.2.2.1, nowM d, []) hn (by simp only; omega)]
    exact ⟨_, rfl, rfl, by have := sweptM_len (nowM d) d.2.2.1; unfold Fits at hf ⊢; simp only [List.length_nil]; omega⟩

/-! a crash -/
def moreM (cuts : List Int) (x : InodeT) (i : Nat) : Int := match cuts[i]? with
  | some c => if (if (x.2.1.size : Int) - x.2.2 < c then (x.2.1.size : Int) - x.2.2 else c) > 0 then (if (x.2.1.size : Int) - x.2.2 < c then (x.2.1.size : Int) - x.2.2 else c) else 0
  | none => 0
def cutM (cuts : List Int) (x : InodeT) (i : Nat) : InodeT := (x.1, x.2.1.extract 0 (x.2.2 + moreM cuts x i).toNat, x.2.2 + moreM cuts x i)
def cutsM (cuts : List Int) (l : List InodeT) : List InodeT := l.mapIdx fun i x => cutM cuts x i

theorem cutsM_len (cuts : List Int) (l : List InodeT) : (cutsM cuts l).length = l.length := by unfold cutsM; simp
theorem cutsM_get {cuts : List Int} {l : List InodeT} {i : Nat} (hi : i < l.length) : (cutsM cuts l)[i]'(by rw [cutsM_len]; exact hi) = cutM cuts l[i] i := by unfold cutsM; simp
theorem moreM_range {cuts : List Int} {x : InodeT} {i : Nat} (h : x.2.2 ≤ x.2.1.size) : 0 ≤ moreM cuts x i ∧ moreM cuts x i ≤ (x.2.1.size : Int) - x.2.2 := by
  unfold moreM
  split
  · repeat' split
    all_goals omega
  · omega

theorem Right.sure {d : DiskT} (h : Right d) {i : Nat} (hi : i < d.2.2.1.length) : 0 ≤ d.2.2.1[i].2.2 ∧ d.2.2.1[i].2.2 ≤ d.2.2.1[i].2.1.size := by
  obtain ⟨_, _, _, _, _, _, _, _, h7, _⟩ := h.parts
  have := range_all.1 h7 i hi
  unfold pIS rg at this
  rw [List.getElem?_eq_getElem hi] at this
  simp only [Bool.and_eq_true, decide_eq_true_eq] at this
  exact this.2.1

abbrev zD : DiskT := (0, 0, [], [], [])

theorem take_cuts (cuts : List Int) (l : List InodeT) {i : Nat} (hi : i < l.length) : (cutsM cuts l).take (i + 1) = (cutsM cuts l).take i ++ [cutM cuts l[i] i] := by
  rw [List.take_add_one, List.getElem?_eq_getElem (by rw [cutsM_len]; exact hi), cutsM_get hi]; rfl

theorem impl_cut {k : Nat} (cuts : List Int) (ino : List InodeT) (n : Int) (L : List InodeT) (o : DiskT) (i : Nat) (x : InodeT) (hx0 : 0 ≤ x.2.2) (hx1 : x.2.2 ≤ x.2.1.size) (hx2 : x.2.1.size ≤ 1048576) (hL : L[i]? = some x) (hi : i ≤ 1048576) (m : Int)
    (hm : m = moreM cuts x i) :
    impl_Crash.c0 k (cuts, (i : Int), m, ino, n, (i : Int), zD, (o.1, o.2.1, L, o.2.2.2.1, o.2.2.2.2), x) = some (.inl (cuts, ino, n, ((i + 1 : Nat) : Int), zD, (o.1, o.2.1, L.set i (cutM cuts x i), o.2.2.2.1, o.2.2.2.2))) := by
  obtain ⟨m1, m2⟩ := moreM_range (cuts := cuts) (x := x) (i := i) hx1
  have hlt := (List.getElem?_eq_some_iff.1 hL).1
  have e2 : inb? L.length (i : Int) = some i := by rw [inb_ok (by omega) (by omega), Int.toNat_natCast]
  unfold impl_Crash.c0
  dsimp only
  rw [wrap_i64 (n := x.2.2 + m) (by omega) (by omega), cut_ok (by omega) (by omega) (by omega)]
  simp only [Option.bind_some, Int.toNat_zero, e2, hL, List.length_set, List.getElem?_set_self hlt, List.set_set]
  rw [wrap_i64 (by omega) (by omega)]
  unfold cutM
  rw [← hm]
  rfl

theorem cpU_at {α : Type} (a l : List α) (hl : l.length = a.length) {i : Nat} (hi : i < a.length) : (cpU a l i)[i]? = l[i]? := by
  rw [cpU_get a l hl i i (by omega), if_neg (by omega)]

theorem impl_crash {k : Nat} (hk : 9223372036854775808 ≤ k) {d : DiskT} (hr : Right d) (keep : Int) (cuts : List Int) (hc : cuts.length ≤ 1048576) :
    impl_Crash.f k d keep cuts = some (d.1, d.2.1, sweptM (namesM d keep.toNat) (cutsM cuts d.2.2.1), namesM d keep.toNat, []) := by
  have hs := hr.small
  have hl := hs.ino
  have hml := hs.mov
  have hdl := hs.dir
  unfold impl_Crash.f
  simp only [Prod.eta, implOk hk d hs, Option.bind_some, hr.ok', Bool.not_true, cond_false, implCopy hs]
  obtain ⟨n, hn⟩ : ∃ n : Int, (if (if (d.2.2.2.2.length : Int) < keep then (d.2.2.2.2.length : Int) else keep) > 0 then (if (d.2.2.2.2.length : Int) < keep then (d.2.2.2.2.length : Int) else keep) else 0) = n := ⟨_, rfl⟩
  have hn0 : 0 ≤ n := by rw [← hn]; (repeat' split) <;> omega
  have hn1 : n ≤ d.2.2.2.2.length := by rw [← hn]; (repeat' split) <;> omega
  have hn2 : n.toNat = min keep.toNat d.2.2.2.2.length := by rw [← hn]; (repeat' split) <;> omega
  rw [hn, implNames hk hr n hn0 hn1]
  have hnm : namesM d n.toNat = namesM d keep.toNat := by
    unfold namesM
    rw [hn2, List.take_eq_take_min (i := keep.toNat)]
  rw [hnm]
  simp only [Option.bind_some]
  obtain ⟨N, hN⟩ : ∃ N, namesM d keep.toNat = N := ⟨_, rfl⟩
  have hNl : N.length ≤ 4194304 := by rw [← hN]; have := namesM_len d keep.toNat; omega
  rw [hN]
  have hcl := cutsM_len cuts d.2.2.1
  have key := iter_upto (B := impl_Crash.b0 k) d.2.2.1.length (fun i => (cuts, d.2.2.1, (d.2.2.1.length : Int), (i : Int), zD, d.1, d.2.1, cpU (cutsM cuts d.2.2.1) d.2.2.1 i, N, [])) (.inl (zD, d.1, d.2.1, cutsM cuts d.2.2.1, N, [])) (fun i hi => by
    have e1 : decide ((i : Int) < (d.2.2.1.length : Int)) = true := by simp; omega
    have e2 : inb? d.2.2.1.length (i : Int) = some i := by rw [inb_ok (by omega) (by omega), Int.toNat_natCast]
    obtain ⟨s0, s1⟩ := hr.sure hi
    have hx2 : d.2.2.1[i].2.1.size ≤ 1048576 := by have := amtI_mem (List.getElem_mem hi); have := hs.amt; omega
    have hL : (cpU (cutsM cuts d.2.2.1) d.2.2.1 i)[i]? = some d.2.2.1[i] := by
      rw [cpU_at _ _ hcl.symm (by rw [hcl]; exact hi), List.getElem?_eq_getElem hi]
    have step := fun m (hm : m = moreM cuts d.2.2.1[i] i) => impl_cut (k := k) cuts d.2.2.1 (d.2.2.1.length : Int) (cpU (cutsM cuts d.2.2.1) d.2.2.1 i) (d.1, d.2.1, [], N, []) i d.2.2.1[i] s0 s1 hx2 hL (by omega) m hm
    rw [cpU_succ _ _ (by rw [hcl]; exact hi), cutsM_get hi]
    unfold impl_Crash.b0
    dsimp only
    simp only [e1, cond_true, e2, Option.bind_some, List.getElem?_eq_getElem hi, Prod.eta]
    by_cases c : i < cuts.length
    · have e3 : decide ((i : Int) < (cuts.length : Int)) = true := by simp; omega
      have e4 : inb? cuts.length (i : Int) = some i := by rw [inb_ok (by omega) (by omega), Int.toNat_natCast]
      rw [e3]
      simp only [cond_true, e4, Option.bind_some, List.getElem?_eq_getElem c]
      rw [wrap_i64 (n := (d.2.2.1[i].2.1.size : Int) - d.2.2.1[i].2.2) (by omega) (by omega)]
      rw [step _ (by unfold moreM; rw [List.getElem?_eq_getElem c])]
    · have e3 : decide ((i : Int) < (cuts.length : Int)) = false := by simp; omega
      rw [e3]
      simp only [cond_false, Option.bind_some]
      rw [step _ (by unfold moreM; rw [List.getElem?_eq_none (by omega)])]) (by
    have e1 : decide ((d.2.2.1.length : Int) < (d.2.2.1.length : Int)) = false := by simp
    have e2 := cpU_all (cutsM cuts d.2.2.1) d.2.2.1 hcl.symm
    rw [hcl] at e2
    unfold impl_Crash.b0
    dsimp only
    rw [e1, e2]; rfl) k (by omega)
  have e0 : ((0 : Nat) : Int) = 0 := rfl
  simp only [e0, cpU] at key
  rw [key]
  simp only [Option.bind_some]
  unfold impl_Crash.d0
  dsimp only
  rw [implSwept hk (d.1, d.2.1, cutsM cuts d.2.2.1, N, []) hNl (by simp only; omega)]
  rfl

/-! a step -/
end Go.Proofs.Ytlloaipjkejkgaa.Rx
namespace Go.Proofs.Ytlloaipjkejkgaa.Rx

/-! a right disk, in parts; and that it stays right -/
def useM (d : DiskT) : List Int := d.2.2.2.1.map (·.2) ++ makes d.2.2.2.2
structure RP (d : DiskT) : Prop where
  room0 : 0 ≤ d.1
  room1 : d.1 ≤ 1048576
  n1 : 1 ≤ d.2.1
  n2 : d.2.1 ≤ 1000000
  ino : d.2.2.1.length ≤ 10
  mov : d.2.2.2.2.length ≤ 20
  amt : (amtI d.2.2.1 : Int) ≤ d.1
  asc : (d.2.2.1.map (·.1)).Pairwise (· < ·)
  inr : ∀ x ∈ d.2.2.1, 1 ≤ x.1 ∧ x.1 ≤ d.2.1 - 1 ∧ 0 ≤ x.2.2 ∧ x.2.2 ≤ x.2.1.size
  srt : Srt d.2.2.2.1
  dirB : ∀ x ∈ d.2.2.2.1, nameB x.1 = true
  used : (useM d).Nodup
  sub : ∀ n ∈ useM d, n ∈ d.2.2.1.map (·.1)
  sup : ∀ n ∈ d.2.2.1.map (·.1), n ∈ useM d
  ok : ∀ i (hi : i < d.2.2.2.2.length), (applyS (linksS d.2.2.2.1 (d.2.2.2.2.take i)) d.2.2.2.2[i]).2 = true

theorem ino_asc {d : DiskT} (h : (List.range d.2.2.1.length).all (pI d) = true) : (d.2.2.1.map (·.1)).Pairwise (· < ·) := by
  have step : ∀ i, ∀ hi : i + 1 < d.2.2.1.length, d.2.2.1[i].1 < d.2.2.1[i + 1].1 := fun i hi => by
    have := range_all.1 h (i + 1) hi
    unfold pI upI at this
    rw [show i + 1 - 1 = i by omega, List.getElem?_eq_getElem hi, List.getElem?_eq_getElem (show i < d.2.2.1.length by omega)] at this
    simp only [Bool.and_eq_true] at this
    simpa using this.2.2
  have lt : ∀ i j, ∀ hi : i < d.2.2.1.length, ∀ hj : j < d.2.2.1.length, i < j → d.2.2.1[i].1 < d.2.2.1[j].1 := by
    intro i j hi hj hij
    induction j with
    | zero => omega
    | succ j ih =>
      by_cases e : i = j
      · subst e; exact step i hj
      · exact Int.lt_trans (ih (by omega) (by omega)) (step j hj)
  rw [List.pairwise_map, List.pairwise_iff_getElem]
  exact fun i j hi hj hij => lt i j hi hj hij

theorem Right.rp {d : DiskT} (h : Right d) : RP d := by
  obtain ⟨h1, h2, h3, h4, h5, h6, h7, h8, hI, hD, hM⟩ := h.parts
  rw [bytesM_amt] at h8
  have hI' : (List.range d.2.2.1.length).all (pI d) = true := range_all.2 fun i hi => by
    have := range_all.1 hI i hi
    rw [pIS_eq hi, Bool.and_eq_true] at this
    exact this.1
  have hM' := hM
  rw [moves_same hD] at hM'
  obtain ⟨n1, n2⟩ := ids_nodup hD hM'
  refine ⟨h1, h2, h3, h4, h5, h6, h8, ino_asc hI', fun x hx => ?_, srt_of fun i hi => ?_, fun x hx => ?_, n1, n2, fun n hn => ?_, fun i hi => ?_⟩
  · obtain ⟨i, hi, rfl⟩ := List.getElem_of_mem hx
    have := range_all.1 hI' i hi
    unfold pI rg at this
    rw [List.getElem?_eq_getElem hi] at this
    simp only [Bool.and_eq_true, decide_eq_true_eq] at this
    exact ⟨this.1.1, this.1.2, this.2.1.1, this.2.1.2⟩
  · have := range_all.1 hD i hi
    unfold pD at this
    rw [List.getElem?_eq_getElem hi] at this
    simp only [Bool.and_eq_true] at this
    exact this.2.1
  · obtain ⟨i, hi, rfl⟩ := List.getElem_of_mem hx
    have := range_all.1 hD i hi
    unfold pD at this
    rw [List.getElem?_eq_getElem hi] at this
    simp only [Bool.and_eq_true] at this
    exact this.1
  · obtain ⟨x, hx, rfl⟩ := List.mem_map.1 hn
    obtain ⟨i, hi, rfl⟩ := List.getElem_of_mem hx
    have := range_all.1 hI i hi
    rw [pIS_eq hi, Bool.and_eq_true, ← mem_ids, decide_eq_true_eq] at this
    exact this.2
  · have := range_all.1 hM i hi
    unfold pMS at this
    rw [List.getElem?_eq_getElem hi] at this
    simp only [Bool.and_eq_true] at this
    exact this.2

theorem nameB_size {s : ByteArray} (h : nameB s = true) : s.size ≤ 12 := by
  unfold nameB at h
  simp only [Bool.and_eq_true, decide_eq_true_eq] at h
  omega
theorem apply_to {l : List LinkT} {m : MoveT} (h : (applyS l m).2 = true) : m.2.2.1.size ≤ 12 := by
  unfold applyS at h
  split at h
  · cases h
  · split at h
    · rename_i c; rw [c.2.1]; exact Nat.zero_le _
    · split at h
      · rename_i c; exact nameB_size c.2.2.2.1
      · split at h
        · rename_i c; rw [c.2.2.1]; exact Nat.zero_le _
        · cases h

theorem RP.dirL {d : DiskT} (h : RP d) : d.2.2.2.1.length ≤ 10 := by
  have := nodup_le h.used h.sub
  have := h.ino
  unfold useM at *
  simp only [List.length_append, List.length_map] at *
  omega
theorem RP.small {d : DiskT} (h : RP d) : Small d := by
  refine ⟨by have := h.ino; omega, by have := h.dirL; omega, by have := h.mov; omega, by have := h.amt; have := h.room1; omega, fun x hx => ?_, fun x hx => ?_⟩
  · have := nameB_size (h.dirB x hx); omega
  · obtain ⟨i, hi, rfl⟩ := List.getElem_of_mem hx
    have h1 := nameB_size (apply_name (h.ok i hi))
    have h2 := apply_to (h.ok i hi)
    omega
theorem makes_app (a b : List MoveT) : makes (a ++ b) = makes a ++ makes b := by
  unfold makes; rw [List.filter_append, List.map_append]
theorem RP.right {d : DiskT} (h : RP d) : Right d := by
  refine ⟨h.small, ?_⟩
  have hd := h.dirL
  unfold diskS rg
  simp only [Bool.and_eq_true, decide_eq_true_eq]
  refine ⟨⟨h.room0, h.room1⟩, ⟨h.n1, h.n2⟩, by have := h.ino; omega, by have := h.mov; omega, by omega, by rw [bytesM_amt]; exact h.amt, range_all.2 fun i hi => ?_, range_all.2 fun i hi => ?_, range_all.2 fun i hi => ?_⟩
  · rw [pIS_eq hi, Bool.and_eq_true]
    refine ⟨?_, ?_⟩
    · unfold pI rg upI
      rw [List.getElem?_eq_getElem hi]
      obtain ⟨a, b, c, e⟩ := h.inr _ (List.getElem_mem hi)
      simp only [Bool.and_eq_true, decide_eq_true_eq]
      refine ⟨⟨a, b⟩, ⟨c, e⟩, ?_⟩
      by_cases i0 : i = 0
      · simp [i0]
      · have := h.asc
        rw [List.pairwise_map, List.pairwise_iff_getElem] at this
        have := this (i - 1) i (by omega) hi (by omega)
        rw [List.getElem?_eq_getElem (show i - 1 < d.2.2.1.length by omega)]
        simp [i0, this]
    · rw [← mem_ids, decide_eq_true_eq]
      exact h.sup _ (List.mem_map.2 ⟨_, List.getElem_mem hi, rfl⟩)
  · unfold pD upD
    rw [List.getElem?_eq_getElem hi]
    simp only [Bool.and_eq_true, Bool.not_eq_true']
    refine ⟨h.dirB _ (List.getElem_mem hi), ?_, ?_, ?_⟩
    · by_cases i0 : i = 0
      · simp [i0]
      · have := h.srt
        unfold Srt at this
        rw [List.pairwise_iff_getElem] at this
        have := this (i - 1) i (by omega) hi (by omega)
        rw [List.getElem?_eq_getElem (show i - 1 < d.2.2.2.1.length by omega)]
        simp [i0, this]
    · exact has_mem.2 (h.sub _ (List.mem_append_left _ (List.mem_map.2 ⟨_, List.getElem_mem hi, rfl⟩)))
    · rw [← mem_dir, decide_eq_false_iff_not]
      intro hm
      have hu := (List.nodup_append.1 h.used).1
      rw [← List.take_append_drop i d.2.2.2.1, List.map_append, List.drop_eq_getElem_cons hi, List.map_cons] at hu
      exact (List.nodup_append.1 hu).2.2 _ hm _ List.mem_cons_self rfl
  · unfold pMS
    rw [List.getElem?_eq_getElem hi]
    simp only [Bool.and_eq_true]
    refine ⟨?_, h.ok i hi⟩
    by_cases c : d.2.2.2.2[i].1 = 1
    · have hm : makes d.2.2.2.2 = makes (d.2.2.2.2.take i) ++ d.2.2.2.2[i].2.2.2 :: makes (d.2.2.2.2.drop (i + 1)) := by
        conv => lhs; rw [← List.take_append_drop i d.2.2.2.2, List.drop_eq_getElem_cons hi, makes_app]
        congr 1
        unfold makes
        rw [List.filter_cons, if_pos (by simp [c]), List.map_cons]
      have hu := h.used
      have hs := h.sub
      unfold useM at hu hs
      rw [hm] at hu hs
      obtain ⟨u1, u2, u3⟩ := List.nodup_append.1 hu
      obtain ⟨u4, u5, u6⟩ := List.nodup_append.1 u2
      have e1 : hasI d d.2.2.2.2[i].2.2.2 = true := has_mem.2 (hs _ (by simp))
      have e2 : linkB d.2.2.2.1 d.2.2.2.2[i].2.2.2 = false := by
        rw [← mem_dir, decide_eq_false_iff_not]
        exact fun hx => u3 _ hx _ (by simp) rfl
      have e3 : madeB (d.2.2.2.2.take i) d.2.2.2.2[i].2.2.2 = false := by
        rw [← mem_makes, decide_eq_false_iff_not]
        exact fun hx => u6 _ hx _ List.mem_cons_self rfl
      rw [e1, e2, e3]; simp
    · simp [c]

/-! names behind moves -/
structure Named (l : List LinkT) (u : List Int) : Prop where
  srt : Srt l
  nm : ∀ x ∈ l, nameB x.1 = true ∧ x.2 ∈ u
  nd : (l.map (·.2)).Nodup

theorem insM_perm (p : LinkT → Bool) (x : LinkT) (l : List LinkT) : (insM p x l).Perm (x :: l) := by
  unfold insM
  have := List.perm_middle (a := x) (l₁ := l.takeWhile fun y => !p y) (l₂ := l.dropWhile fun y => !p y)
  rwa [List.takeWhile_append_dropWhile] at this
theorem Named.mono {l : List LinkT} {u v : List Int} (h : Named l u) (hs : ∀ n ∈ u, n ∈ v) : Named l v := ⟨h.srt, fun x hx => ⟨(h.nm x hx).1, hs _ (h.nm x hx).2⟩, h.nd⟩
theorem Named.filter {l : List LinkT} {u : List Int} (h : Named l u) (p : LinkT → Bool) : Named (l.filter p) u := by
  refine ⟨h.srt.filter _, fun x hx => h.nm x (List.mem_filter.1 hx).1, ?_⟩
  exact List.Nodup.sublist (List.Sublist.map _ List.filter_sublist) h.nd
theorem Named.with {l : List LinkT} {u : List Int} (h : Named l u) {x : LinkT} (hx : nameB x.1 = true) (hu : x.2 ∈ u) (hn : x.2 ∉ (withoutM l x.1).map (·.2)) : Named (withS l x) u := by
  have hw := h.filter (fun y => !decide (y.1 = x.1))
  have hne : ∀ y ∈ withoutM l x.1, y.1 ≠ x.1 := fun y hy => (mem_without.1 hy).2
  unfold withS
  rw [ins_same hne]
  refine ⟨linkI_srt hw.srt hne, fun y hy => ?_, ?_⟩
  · rcases mem_insM.1 hy with rfl | hy
    · exact ⟨hx, hu⟩
    · exact hw.nm y hy
  · rw [show linkI (withoutM l x.1) x = insM (fun y => !strLt y.1 x.1) x (withoutM l x.1) from rfl]
    refine ((insM_perm _ _ _).map _).nodup_iff.2 ?_
    rw [List.map_cons]
    exact List.nodup_cons.2 ⟨hn, hw.nd⟩

theorem idAt_mem {l : List LinkT} {n : ByteArray} (h : 0 ≤ at? l n) : (n, idAt l n) ∈ l := by
  obtain ⟨i, hi, he, hp, hq⟩ := idxOf_ge (p := fun x : LinkT => decide (x.1 = n)) (l := l) (by unfold at? at h; omega)
  have e : (at? l n).toNat = i := by unfold at?; rw [he]; simp
  unfold idAt
  rw [e, List.getElem?_eq_getElem hi]
  have hp : l[i].1 = n := of_decide_eq_true hp
  rw [← hp]
  exact List.getElem_mem hi
/-- numbers that are there once tell links apart -/
theorem nd_inj {l : List LinkT} (hn : (l.map (·.2)).Nodup) {x y : LinkT} (hx : x ∈ l) (hy : y ∈ l) (h : x.2 = y.2) : x = y := by
  obtain ⟨i, hi, rfl⟩ := List.getElem_of_mem hx
  obtain ⟨j, hj, rfl⟩ := List.getElem_of_mem hy
  rw [List.Nodup, List.pairwise_map, List.pairwise_iff_getElem] at hn
  rcases Nat.lt_trichotomy i j with c | c | c
  · exact absurd h (hn i j hi hj c)
  · subst c; rfl
  · exact absurd h.symm (hn j i hj hi c)

theorem Named.apply {l : List LinkT} {u : List Int} {m : MoveT} (h : Named l u) (ho : (applyS l m).2 = true) (hm : m.1 = 1 → m.2.2.2 ∉ u) : Named (applyS l m).1 (u ++ makes [m]) := by
  have hn := apply_name ho
  unfold applyS at ho ⊢
  rw [if_neg (by rw [hn]; simp)] at ho ⊢
  have e1 : m.1 = 1 → makes [m] = [m.2.2.2] := fun c => by simp [makes, c]
  split at ho
  · rename_i c
    rw [if_pos c, e1 c.1]
    refine (h.mono (v := u ++ [m.2.2.2]) fun n hn => by simp [hn]).with hn (by simp) ?_
    rw [without_self (at_neg.1 c.2.2)]
    intro hx
    obtain ⟨y, hy, e⟩ := List.mem_map.1 hx
    exact hm c.1 (e ▸ (h.nm y hy).2)
  · rename_i c1
    rw [if_neg c1]
    split at ho
    · rename_i c
      rw [if_pos c]
      have hi := idAt_mem c.2.2.1
      refine ((h.filter fun y => !decide (y.1 = m.2.1)).mono (v := u ++ makes [m]) fun n hn => by simp [hn]).with c.2.2.2.1 (List.mem_append_left _ (h.nm _ hi).2) ?_
      intro hx
      obtain ⟨y, hy, e⟩ := List.mem_map.1 hx
      have hy := (mem_without.1 hy).1
      have := nd_inj h.nd (mem_without.1 hy).1 hi e
      exact (mem_without.1 hy).2 (by rw [this])
    · rename_i c2
      rw [if_neg c2]
      split at ho
      · rename_i c
        rw [if_pos c]
        exact (h.filter _).mono fun n hn => by simp [hn]
      · cases ho

theorem RP.named {d : DiskT} (h : RP d) : ∀ i, i ≤ d.2.2.2.2.length → Named (namesM d i) (d.2.2.2.1.map (·.2) ++ makes (d.2.2.2.2.take i))
  | 0, _ => by
    unfold namesM linksS
    refine ⟨h.srt, fun x hx => ⟨h.dirB x hx, List.mem_append_left _ (List.mem_map.2 ⟨x, hx, rfl⟩)⟩, (List.nodup_append.1 h.used).1⟩
  | i + 1, hi => by
    have ih := h.named i (by omega)
    have hi' : i < d.2.2.2.2.length := by omega
    have ht : d.2.2.2.2.take (i + 1) = d.2.2.2.2.take i ++ [d.2.2.2.2[i]] := by rw [List.take_add_one, List.getElem?_eq_getElem hi']; rfl
    have := ih.apply (m := d.2.2.2.2[i]) (h.ok i hi') (fun c hx => by
      have hu := h.used
      unfold useM at hu
      rw [← List.take_append_drop i d.2.2.2.2, List.drop_eq_getElem_cons hi', makes_app, ← List.append_assoc] at hu
      have := (List.nodup_append.1 hu).2.2 _ hx
      refine this d.2.2.2.2[i].2.2.2 ?_ rfl
      unfold makes
      rw [List.filter_cons, if_pos (by simp [c]), List.map_cons]
      exact List.mem_cons_self)
    unfold namesM at this ⊢
    rw [linksS_succ hi', ht, makes_app, ← List.append_assoc]
    exact this

theorem RP.named' {d : DiskT} (h : RP d) (i : Nat) : Named (namesM d i) (useM d) := by
  by_cases c : i ≤ d.2.2.2.2.length
  · refine (h.named i c).mono fun n hn => ?_
    unfold useM
    rcases List.mem_append.1 hn with hn | hn
    · exact List.mem_append_left _ hn
    · refine List.mem_append_right _ ?_
      rw [← List.take_append_drop i d.2.2.2.2, makes_app]
      exact List.mem_append_left _ hn
  · have := h.named _ (Nat.le_refl _)
    unfold namesM at this ⊢
    rw [List.take_of_length_le (show d.2.2.2.2.length ≤ i by omega)]
    rwa [List.take_length] at this
/-- a name that stands has a file -/
theorem RP.file {d : DiskT} (h : RP d) {n : ByteArray} : fileM d n < 0 ↔ at? (nowM d) n < 0 := by
  unfold fileM
  by_cases c : at? (nowM d) n < 0
  · rw [decide_eq_true c]; simp [c]
  · rw [decide_eq_false c]
    simp only [cond_false, c, iff_false]
    intro hx
    have hm := idAt_mem (show 0 ≤ at? (nowM d) n by omega)
    have hi := h.sub _ ((h.named' d.2.2.2.2.length).nm _ hm).2
    obtain ⟨x, hx1, hx2⟩ := List.mem_map.1 hi
    have := idxOf_neg.1 hx x hx1
    simp only [decide_eq_false_iff_not] at this
    exact this hx2
theorem namesM_now {d : DiskT} : nowM d = linksS d.2.2.2.1 d.2.2.2.2 := by unfold nowM namesM; rw [List.take_length]

theorem amtI_app (a b : List InodeT) : amtI (a ++ b) = amtI a + amtI b := by unfold amtI; rw [List.map_append, List.sum_append]

theorem ok_app {dir : List LinkT} {ms : List MoveT} {m : MoveT} (h : ∀ i (hi : i < ms.length), (applyS (linksS dir (ms.take i)) ms[i]).2 = true) (hm : (applyS (linksS dir ms) m).2 = true) :
    ∀ i (hi : i < (ms ++ [m]).length), (applyS (linksS dir ((ms ++ [m]).take i)) (ms ++ [m])[i]).2 = true := by
  intro i hi
  by_cases c : i < ms.length
  · rw [List.take_append_of_le_length (by omega), List.getElem_append_left c]
    exact h i c
  · have e : i = ms.length := by simp only [List.length_append, List.length_singleton] at hi; omega
    subst e
    rw [List.take_append_of_le_length (Nat.le_refl _), List.take_length]
    simpa using hm

theorem RP.made {d : DiskT} (h : RP d) {n : ByteArray} (hn : nameB n = true) (hf : fileM d n < 0) (hi : d.2.2.1.length < 10) (hm : d.2.2.2.2.length < 20) (hx : d.2.1 < 1000000) :
    RP (d.1, d.2.1 + 1, d.2.2.1 ++ [(d.2.1, ⟨#[]⟩, 0)], d.2.2.2.1, d.2.2.2.2 ++ [(1, n, ⟨#[]⟩, d.2.1)]) := by
  have hm1 : makes [((1, n, ⟨#[]⟩, d.2.1) : MoveT)] = [d.2.1] := by simp [makes]
  have hlt : ∀ n ∈ d.2.2.1.map (·.1), n < d.2.1 := fun n hn => by
    obtain ⟨x, hx1, rfl⟩ := List.mem_map.1 hn
    have := h.inr x hx1
    omega
  have hids : useM (d.1, d.2.1 + 1, d.2.2.1 ++ [(d.2.1, (⟨#[]⟩ : ByteArray), 0)], d.2.2.2.1, d.2.2.2.2 ++ [(1, n, ⟨#[]⟩, d.2.1)]) = useM d ++ [d.2.1] := by
    unfold useM
    simp only
    rw [makes_app, hm1, List.append_assoc]
  refine ⟨h.room0, h.room1, by have := h.n1; simp only; omega, by simp only; omega, by simp only [List.length_append, List.length_singleton]; omega, by simp only [List.length_append, List.length_singleton]; omega, ?_, ?_, ?_, h.srt, h.dirB, ?_, ?_, ?_, ?_⟩
  · simp only [amtI_app]
    have := h.amt
    have e : amtI [((d.2.1, ⟨#[]⟩, 0) : InodeT)] = 0 := rfl
    omega
  · simp only [List.map_append, List.map_cons, List.map_nil]
    rw [List.pairwise_append]
    refine ⟨h.asc, by simp, fun a ha b hb => ?_⟩
    simp only [List.mem_singleton] at hb
    subst hb
    exact hlt a ha
  · intro x hx
    simp only [List.mem_append, List.mem_singleton] at hx
    rcases hx with hx | rfl
    · obtain ⟨a, b, c, e⟩ := h.inr x hx
      exact ⟨a, by simp only; omega, c, e⟩
    · have := h.n1
      exact ⟨by simp only; omega, by simp only; omega, by simp, by simp⟩
  · rw [hids]
    refine List.nodup_append.2 ⟨h.used, by simp, fun a ha b hb => ?_⟩
    simp only [List.mem_singleton] at hb
    have := hlt a (h.sub a ha)
    omega
  · rw [hids]
    intro a ha
    simp only [List.map_append, List.map_cons, List.map_nil]
    rcases List.mem_append.1 ha with ha | ha
    · exact List.mem_append_left _ (h.sub a ha)
    · exact List.mem_append_right _ ha
  · rw [hids]
    intro a ha
    simp only [List.map_append, List.map_cons, List.map_nil] at ha
    rcases List.mem_append.1 ha with ha | ha
    · exact List.mem_append_left _ (h.sup a ha)
    · exact List.mem_append_right _ ha
  · refine ok_app h.ok ?_
    change (applyS (linksS d.2.2.2.1 d.2.2.2.2) _).2 = true
    rw [← namesM_now]
    unfold applyS
    simp only [hn]
    rw [if_neg (by simp), if_pos ⟨trivial, trivial, h.file.1 hf⟩]

theorem RP.moved {d : DiskT} (h : RP d) {m : MoveT} (hm : d.2.2.2.2.length < 20) (h1 : m.1 ≠ 1) (ho : (applyS (nowM d) m).2 = true) : RP (d.1, d.2.1, d.2.2.1, d.2.2.2.1, d.2.2.2.2 ++ [m]) := by
  have hids : useM (d.1, d.2.1, d.2.2.1, d.2.2.2.1, d.2.2.2.2 ++ [m]) = useM d := by
    unfold useM
    simp only
    rw [makes_app]
    have : makes [m] = [] := by simp [makes, h1]
    rw [this, List.append_nil]
  refine ⟨h.room0, h.room1, h.n1, h.n2, h.ino, by simp only [List.length_append, List.length_singleton]; omega, h.amt, h.asc, h.inr, h.srt, h.dirB, by rw [hids]; exact h.used, by rw [hids]; exact h.sub, by rw [hids]; exact h.sup, ?_⟩
  exact ok_app h.ok (by change (applyS (linksS d.2.2.2.1 d.2.2.2.2) _).2 = true; rw [← namesM_now]; exact ho)

theorem map_set {l : List InodeT} {i : Nat} {y : InodeT} (hi : i < l.length) (he : y.1 = l[i].1) : (l.set i y).map (·.1) = l.map (·.1) := by
  rw [List.map_set]
  refine List.ext_getElem (by simp) fun j hj hj' => ?_
  rw [List.getElem_set]
  split
  · rename_i e; subst e; simpa using he
  · rfl
theorem RP.set {d : DiskT} (h : RP d) {i : Nat} {y : InodeT} (hi : i < d.2.2.1.length) (he : y.1 = d.2.2.1[i].1) (h0 : 0 ≤ y.2.2) (h1 : y.2.2 ≤ y.2.1.size) (ha : (amtI (d.2.2.1.set i y) : Int) ≤ d.1) :
    RP (d.1, d.2.1, d.2.2.1.set i y, d.2.2.2.1, d.2.2.2.2) := by
  have hs := map_set hi he
  refine ⟨h.room0, h.room1, h.n1, h.n2, by simp only [List.length_set]; exact h.ino, h.mov, ha, by simp only [hs]; exact h.asc, fun x hx => ?_, h.srt, h.dirB, h.used, fun n hn => by simp only [hs]; exact h.sub n hn, fun n hn => by simp only [hs] at hn; exact h.sup n hn, h.ok⟩
  simp only at hx
  rcases List.mem_or_eq_of_mem_set hx with hx | rfl
  · exact h.inr x hx
  · obtain ⟨a, b, _, _⟩ := h.inr _ (List.getElem_mem hi)
    exact ⟨by rw [he]; exact a, by rw [he]; exact b, h0, h1⟩
theorem amtI_set {l : List InodeT} {i : Nat} {y : InodeT} (hi : i < l.length) : amtI (l.set i y) + l[i].2.1.size = amtI l + y.2.1.size := by
  have h1 : l = l.take i ++ l[i] :: l.drop (i + 1) := by rw [← List.drop_eq_getElem_cons hi, List.take_append_drop]
  have h2 : l.set i y = l.take i ++ y :: l.drop (i + 1) := List.set_eq_take_append_cons_drop .. |>.trans (by simp [hi])
  have hc : ∀ (x : InodeT) (r : List InodeT), amtI (x :: r) = x.2.1.size + amtI r := fun x r => by simp only [amtI, List.map_cons, List.sum_cons]
  have e1 : amtI l = amtI (l.take i) + (l[i].2.1.size + amtI (l.drop (i + 1))) := (congrArg amtI h1).trans (by rw [amtI_app, hc])
  rw [h2, amtI_app, e1, hc]
  omega

theorem RP.settled {d : DiskT} (h : RP d) (k : Nat) {l : List InodeT} (hl : l.map (·.1) = d.2.2.1.map (·.1)) (ha : amtI l ≤ amtI d.2.2.1) (hs : ∀ x ∈ l, 0 ≤ x.2.2 ∧ x.2.2 ≤ x.2.1.size) :
    RP (d.1, d.2.1, sweptM (namesM d k) l, namesM d k, []) := by
  have hn := h.named' k
  have hlen : l.length = d.2.2.1.length := by have := congrArg List.length hl; simpa using this
  have hids : useM (d.1, d.2.1, sweptM (namesM d k) l, namesM d k, []) = (namesM d k).map (·.2) := by unfold useM; simp [makes]
  have hamt : ∀ (p : InodeT → Bool) (l : List InodeT), amtI (l.filter p) ≤ amtI l := fun p l => by
    induction l with
    | nil => simp [amtI]
    | cons x l ih =>
      rw [List.filter_cons]
      split <;> simp only [amtI, List.map_cons, List.sum_cons] at ih ⊢ <;> omega
  refine ⟨h.room0, h.room1, h.n1, h.n2, ?_, Nat.zero_le _, ?_, ?_, ?_, hn.srt, fun x hx => (hn.nm x hx).1, by rw [hids]; exact hn.nd, ?_, ?_, fun i hi => absurd hi (Nat.not_lt_zero _)⟩
  · have := sweptM_len (namesM d k) l
    have := h.ino
    simp only; omega
  · have := hamt (fun x => linkB (namesM d k) x.1) l
    have := h.amt
    unfold sweptM
    simp only; omega
  · have := h.asc
    rw [← hl] at this
    unfold sweptM
    exact List.Pairwise.sublist (List.Sublist.map _ List.filter_sublist) this
  · intro x hx
    have hx := (List.mem_filter.1 hx).1
    have : x.1 ∈ d.2.2.1.map (·.1) := by rw [← hl]; exact List.mem_map.2 ⟨x, hx, rfl⟩
    obtain ⟨y, hy, e⟩ := List.mem_map.1 this
    obtain ⟨a, b, _, _⟩ := h.inr y hy
    obtain ⟨c, g⟩ := hs x hx
    exact ⟨by omega, by simp only; omega, c, g⟩
  · rw [hids]
    intro n hx
    obtain ⟨y, hy, rfl⟩ := List.mem_map.1 hx
    have := h.sub _ (hn.nm y hy).2
    rw [← hl] at this
    obtain ⟨x, hx1, hx2⟩ := List.mem_map.1 this
    refine List.mem_map.2 ⟨x, List.mem_filter.2 ⟨hx1, ?_⟩, hx2⟩
    rw [← mem_dir, decide_eq_true_eq, hx2]
    exact hx
  · rw [hids]
    intro n hx
    obtain ⟨x, hx1, rfl⟩ := List.mem_map.1 hx
    have := (List.mem_filter.1 hx1).2
    rw [← mem_dir, decide_eq_true_eq] at this
    exact this
end Go.Proofs.Ytlloaipjkejkgaa.Rx
namespace Go.Proofs.Ytlloaipjkejkgaa.Rx

/-- a call on a right disk -/
def Keeps (d : DiskT) (r : DiskT × Int) : Prop := Right r.1 ∧ (r.2 ≠ 0 → r.1 = d) ∧ r.1.1 = d.1

theorem make_keeps {k : Nat} (hk : 9223372036854775808 ≤ k) {d : DiskT} (hr : Right d) (n : ByteArray) (hn : n.size ≤ 1048576) : ∃ r, spec_Make.f k d n = some r ∧ Keeps d r := by
  have hs := hr.small
  have hp := hr.rp
  have k0 : ∀ c, Keeps d (d, c) := fun c => ⟨hr, fun _ => rfl, rfl⟩
  unfold spec_Make.f
  simp only [Prod.eta, specOk hk d hs, hr.ok, Option.bind_some]
  simp only [Bool.not_true, cond_false, specFind hk hs, Option.bind_some, specCopy hs, specName hk n hn, Prod.eta]
  obtain ⟨_, _, p3, p4, p5, p6, p7, _⟩ := hr.parts
  rw [app_ok (by unfold limOf; simp only [List.length_cons, List.length_nil]; omega), app_ok (by unfold limOf; simp only [List.length_cons, List.length_nil]; omega)]
  simp only [Option.bind_some]
  cases hb : nameB n with
  | false => exact ⟨_, rfl, k0 _⟩
  | true =>
  by_cases c1 : 0 ≤ fileM d n
  · rw [decide_eq_true c1]; exact ⟨_, rfl, k0 _⟩
  by_cases c2 : 10 ≤ (d.2.2.1.length : Int)
  · rw [decide_eq_true c2, decide_eq_false c1]; exact ⟨_, rfl, k0 _⟩
  by_cases c3 : 20 ≤ (d.2.2.2.2.length : Int)
  · rw [decide_eq_true c3, decide_eq_false c1, decide_eq_false c2]; exact ⟨_, rfl, k0 _⟩
  by_cases c4 : 1000000 ≤ d.2.1
  · rw [decide_eq_true c4, decide_eq_false c1, decide_eq_false c2, decide_eq_false c3]; exact ⟨_, rfl, k0 _⟩
  rw [decide_eq_false c4, decide_eq_false c1, decide_eq_false c2, decide_eq_false c3, wrap_i64 (by omega) (by omega)]
  exact ⟨_, rfl, (hp.made hb (by omega) (by omega) (by omega) (by omega)).right, fun h => absurd rfl h, rfl⟩

theorem sync_keeps {k : Nat} (hk : 9223372036854775808 ≤ k) {d : DiskT} (hr : Right d) (n : ByteArray) (hn : n.size ≤ 1048576) : ∃ r, spec_Sync.f k d n = some r ∧ Keeps d r := by
  have hs := hr.small
  have hp := hr.rp
  have k0 : ∀ c, Keeps d (d, c) := fun c => ⟨hr, fun _ => rfl, rfl⟩
  unfold spec_Sync.f
  simp only [Prod.eta, specOk hk d hs, hr.ok, Option.bind_some, named_eq hk hs n hn]
  simp only [Bool.not_true, cond_false, specFind hk hs, Option.bind_some, specCopy hs, Prod.eta]
  cases hb : nameB n with
  | false => exact ⟨_, rfl, k0 _⟩
  | true =>
    by_cases c : fileM d n < 0
    · simp only [Bool.true_eq_false, if_false, if_pos c]; exact ⟨_, rfl, k0 _⟩
    · obtain ⟨e1, x, e2, e3⟩ := file_at c
      have hlt := (List.getElem?_eq_some_iff.1 e2).1
      have hx := (List.getElem?_eq_some_iff.1 e2).2
      simp only [Bool.true_eq_false, if_false, if_neg c, decide_true, cond_true, Option.bind_some, e1, e2]
      refine ⟨_, rfl, (hp.set hlt (by rw [hx]) (by simp only; omega) (by simp only; omega) ?_).right, fun h => absurd rfl h, rfl⟩
      have := amtI_set (l := d.2.2.1) (y := (x.1, x.2.1, (x.2.1.size : Int))) hlt
      rw [hx] at this
      have := hp.amt
      simp only at *
      omega

theorem add_keeps {k : Nat} (hk : 9223372036854775808 ≤ k) {d : DiskT} (hr : Right d) (n t : ByteArray) (hn : n.size ≤ 1048576) (ht : t.size ≤ 1048576) : ∃ r, spec_Add.f k d n t = some r ∧ Keeps d r := by
  have hs := hr.small
  have hp := hr.rp
  have k0 : ∀ c, Keeps d (d, c) := fun c => ⟨hr, fun _ => rfl, rfl⟩
  have ha := hs.amt
  obtain ⟨p1, p2, _⟩ := hr.parts
  have hb' := bytesM_amt d.2.2.1
  have z1 : decide ((1 : Int) = 0) = false := rfl
  have z2 : decide ((2 : Int) = 0) = false := rfl
  have z4 : decide ((4 : Int) = 0) = false := rfl
  unfold spec_Add.f spec_Add.c0
  simp only [Prod.eta, specOk hk d hs, hr.ok, Option.bind_some, named_eq hk hs n hn]
  simp only [Bool.not_true, cond_false, specFind hk hs, Option.bind_some, specCopy hs, Prod.eta, specBytes hk d hs]
  rw [wrap_i64 (by omega) (by omega)]
  cases hb : nameB n with
  | false =>
    simp only [if_true, z1, cond_false, Option.bind_some, specCopy hs, Prod.eta]
    exact ⟨_, rfl, k0 _⟩
  | true =>
    by_cases c : fileM d n < 0
    · simp only [Bool.true_eq_false, if_false, if_pos c, z2, cond_false, Option.bind_some, specCopy hs, Prod.eta]; exact ⟨_, rfl, k0 _⟩
    · obtain ⟨e1, x, e2, e3⟩ := file_at c
      have hlt := (List.getElem?_eq_some_iff.1 e2).1
      have hx := (List.getElem?_eq_some_iff.1 e2).2
      have hxa := amtI_mem e3
      simp only [Bool.true_eq_false, if_false, if_neg c, decide_true, cond_true, Option.bind_some]
      by_cases c3 : d.1 - bytesM d.2.2.1 < (t.size : Int)
      · rw [decide_eq_true c3]
        simp only [cond_true, Option.bind_some, z4, cond_false, specCopy hs, Prod.eta]
        exact ⟨_, rfl, k0 _⟩
      · rw [decide_eq_false c3]
        simp only [cond_false, Option.bind_some, decide_true, cond_true, specCopy hs, specFind hk hs, e1, e2, Prod.eta]
        rw [cat_ok (by omega)]
        obtain ⟨_, _, i1, i2⟩ := hp.inr x e3
        refine ⟨_, rfl, (hp.set hlt (by rw [hx]) (by simp only; omega) (by simp only [ByteArray.size_append]; omega) ?_).right, fun h => absurd rfl h, rfl⟩
        have := amtI_set (l := d.2.2.1) (y := (x.1, x.2.1 ++ t, x.2.2)) hlt
        rw [hx] at this
        have := hp.amt
        simp only [ByteArray.size_append] at *
        omega

theorem moved_keeps {k : Nat} {d : DiskT} (hr : Right d) (m : MoveT) (code : Int) (h1 : m.1 ≠ 1) (hc : code = 0 → (applyS (nowM d) m).2 = true) : ∃ r, spec_l4Moved.f k d m code = some r ∧ Keeps d r := by
  have hs := hr.small
  have hp := hr.rp
  have k0 : ∀ c, Keeps d (d, c) := fun c => ⟨hr, fun _ => rfl, rfl⟩
  obtain ⟨_, _, p3, p4, p5, p6, p7, _⟩ := hr.parts
  unfold spec_l4Moved.f spec_l4Moved.c0
  by_cases c : code = 0
  · rw [decide_eq_true c]
    simp only [cond_true]
    by_cases c2 : 20 ≤ (d.2.2.2.2.length : Int)
    · have e : decide ((4 : Int) = 0) = false := rfl
      rw [decide_eq_true c2]
      simp only [cond_true, Option.bind_some, specCopy hs, Prod.eta, e, cond_false]
      exact ⟨_, rfl, k0 _⟩
    · rw [decide_eq_false c2]
      subst c
      simp only [cond_false, Option.bind_some, specCopy hs, Prod.eta, decide_true, cond_true]
      rw [app_ok (by unfold limOf; simp only [List.length_cons, List.length_nil]; omega)]
      exact ⟨_, rfl, (hp.moved (by omega) h1 (hc rfl)).right, fun h => absurd rfl h, rfl⟩
  · rw [decide_eq_false c]
    simp only [cond_false, Option.bind_some, specCopy hs, Prod.eta, decide_eq_false c]
    exact ⟨_, rfl, k0 _⟩

theorem code_zero {d : DiskT} {n : ByteArray} (hp : RP d) (h : (if nameB n = false then (1 : Int) else if fileM d n < 0 then 2 else 0) = 0) : nameB n = true ∧ 0 ≤ at? (nowM d) n := by
  cases hb : nameB n with
  | false => rw [hb] at h; simp at h
  | true =>
    refine ⟨rfl, ?_⟩
    by_cases c : fileM d n < 0
    · rw [hb] at h; simp [c] at h
    · rw [hp.file] at c; omega

theorem drop_keeps {k : Nat} (hk : 9223372036854775808 ≤ k) {d : DiskT} (hr : Right d) (n : ByteArray) (hn : n.size ≤ 1048576) : ∃ r, spec_Drop.f k d n = some r ∧ Keeps d r := by
  have hs := hr.small
  unfold spec_Drop.f
  simp only [Prod.eta, specOk hk d hs, hr.ok, Option.bind_some, named_eq hk hs n hn, Bool.not_true, cond_false]
  obtain ⟨r, h1, h2⟩ := moved_keeps (k := k) hr (3, n, ⟨#[]⟩, 0) (if nameB n = false then 1 else if fileM d n < 0 then 2 else 0) (by simp) (fun h => by
    obtain ⟨a, b⟩ := code_zero hr.rp h
    unfold applyS
    simp [a, b])
  rw [h1]
  exact ⟨r, rfl, h2⟩

theorem rename_keeps {k : Nat} (hk : 9223372036854775808 ≤ k) {d : DiskT} (hr : Right d) (n t : ByteArray) (hn : n.size ≤ 1048576) (ht : t.size ≤ 1048576) : ∃ r, spec_Rename.f k d n t = some r ∧ Keeps d r := by
  have hs := hr.small
  unfold spec_Rename.f spec_Rename.c0
  simp only [Prod.eta, specOk hk d hs, hr.ok, Option.bind_some, named_eq hk hs n hn, Bool.not_true, cond_false, specName hk t ht]
  have e : ∀ c1 : Int, (c1 = 0 → nameB t = true ∧ n ≠ t ∧ (if nameB n = false then (1 : Int) else if fileM d n < 0 then 2 else 0) = 0) → ∃ r, (spec_l4Moved.f k d (2, n, t, 0) c1).bind (fun r1 => some r1) = some r ∧ Keeps d r := fun c1 h => by
    obtain ⟨r, h1, h2⟩ := moved_keeps (k := k) hr (2, n, t, 0) c1 (by simp) (fun hc => by
      obtain ⟨h1, h2, h3⟩ := h hc
      obtain ⟨a, b⟩ := code_zero hr.rp h3
      unfold applyS
      simp [a, b, h1, Ne.symm h2])
    exact ⟨r, by rw [h1]; rfl, h2⟩
  cases hnt : nameB t with
  | false =>
    simp only [Bool.not_false, cond_true, Option.bind_some]
    exact e 1 (by simp)
  | true =>
    simp only [Bool.not_true, cond_false]
    by_cases c : n = t
    · rw [decide_eq_true c]
      simp only [cond_true, Option.bind_some]
      exact e 1 (by simp)
    · rw [decide_eq_false c]
      simp only [cond_false, Option.bind_some]
      exact e _ (fun h => ⟨hnt, c, h⟩)

theorem syncdir_keeps {k : Nat} (hk : 9223372036854775808 ≤ k) {d : DiskT} (hr : Right d) : ∃ r, spec_SyncDir.f k d = some r ∧ Keeps d r := by
  have hs := hr.small
  have hp := hr.rp
  unfold spec_SyncDir.f
  have hn := nowM_len hs
  have hi := hs.ino
  simp only [Prod.eta, specOk hk d hs, hr.ok, Option.bind_some, Bool.not_true, cond_false, specNow hk hs, specSettled hk d _ d.2.2.1 hn (by omega)]
  exact ⟨_, rfl, (hp.settled d.2.2.2.2.length rfl (Nat.le_refl _) fun x hx => ⟨(hp.inr x hx).2.2.1, (hp.inr x hx).2.2.2⟩).right, fun h => absurd rfl h, rfl⟩

theorem cut_amt (cuts : List Int) (x : InodeT) (i : Nat) : (cutM cuts x i).2.1.size ≤ x.2.1.size := by
  unfold cutM
  simp only [ByteArray.size_extract]
  omega
theorem cut_sure {cuts : List Int} {x : InodeT} {i : Nat} (h0 : 0 ≤ x.2.2) (h1 : x.2.2 ≤ x.2.1.size) : 0 ≤ (cutM cuts x i).2.2 ∧ (cutM cuts x i).2.2 = (cutM cuts x i).2.1.size := by
  have := moreM_range (cuts := cuts) (i := i) h1
  unfold cutM
  simp only [ByteArray.size_extract]
  omega
end Go.Proofs.Ytlloaipjkejkgaa.Rx
namespace Go.Proofs.Ytlloaipjkejkgaa.Rx

/-! what the calls of a right disk give -/
def inoAt (d : DiskT) (n : ByteArray) : InodeT := (d.2.2.1[(fileM d n).toNat]?).getD (0, ⟨#[]⟩, 0)
def putI (d : DiskT) (n : ByteArray) (y : InodeT) : DiskT := (d.1, d.2.1, d.2.2.1.set (fileM d n).toNat y, d.2.2.2.1, d.2.2.2.2)
def syncM (d : DiskT) (n : ByteArray) : DiskT × Int :=
  if nameB n = false then (d, 1) else if fileM d n < 0 then (d, 2) else (putI d n ((inoAt d n).1, (inoAt d n).2.1, ((inoAt d n).2.1.size : Int)), 0)
def addM (d : DiskT) (n t : ByteArray) : DiskT × Int :=
  if nameB n = false then (d, 1) else if fileM d n < 0 then (d, 2) else if d.1 - amtI d.2.2.1 < (t.size : Int) then (d, 4) else (putI d n ((inoAt d n).1, (inoAt d n).2.1 ++ t, (inoAt d n).2.2), 0)
def makeM (d : DiskT) (n : ByteArray) : DiskT × Int :=
  if nameB n = false then (d, 1) else if 0 ≤ fileM d n then (d, 3) else if d.2.2.1.length < 10 ∧ d.2.2.2.2.length < 20 ∧ d.2.1 < 1000000 then ((d.1, d.2.1 + 1, d.2.2.1 ++ [(d.2.1, ⟨#[]⟩, 0)], d.2.2.2.1, d.2.2.2.2 ++ [(1, n, ⟨#[]⟩, d.2.1)]), 0) else (d, 4)
def dirM (d : DiskT) : DiskT := (d.1, d.2.1, sweptM (nowM d) d.2.2.1, nowM d, [])
def crashM (d : DiskT) (keep : Int) (cuts : List Int) : DiskT := (d.1, d.2.1, sweptM (namesM d keep.toNat) (cutsM cuts d.2.2.1), namesM d keep.toNat, [])
def loadM (d : DiskT) (n : ByteArray) : ByteArray × Bool := if fileM d n < 0 then (⟨#[]⟩, false) else ((inoAt d n).2.1, true)

theorem inoAt_eq {d : DiskT} {n : ByteArray} {x : InodeT} (h : d.2.2.1[(fileM d n).toNat]? = some x) : inoAt d n = x := by unfold inoAt; rw [h]; rfl

theorem specSync {k : Nat} (hk : 9223372036854775808 ≤ k) {d : DiskT} (hr : Right d) (n : ByteArray) (hn : n.size ≤ 1048576) : spec_Sync.f k d n = some (syncM d n) := by
  have hs := hr.small
  unfold spec_Sync.f syncM
  simp only [Prod.eta, specOk hk d hs, hr.ok, Option.bind_some, named_eq hk hs n hn]
  simp only [Bool.not_true, cond_false, specFind hk hs, Option.bind_some, specCopy hs, Prod.eta]
  cases hb : nameB n with
  | false => rfl
  | true =>
    by_cases c : fileM d n < 0
    · simp only [Bool.true_eq_false, if_false, if_pos c]; rfl
    · obtain ⟨e1, x, e2, e3⟩ := file_at c
      simp only [Bool.true_eq_false, if_false, if_neg c, decide_true, cond_true, Option.bind_some, e1, e2, inoAt_eq e2]
      rfl

theorem specAdd {k : Nat} (hk : 9223372036854775808 ≤ k) {d : DiskT} (hr : Right d) (n t : ByteArray) (hn : n.size ≤ 1048576) (ht : t.size ≤ 1048576) : spec_Add.f k d n t = some (addM d n t) := by
  have hs := hr.small
  have ha := hs.amt
  obtain ⟨p1, p2, _⟩ := hr.parts
  have hb' := bytesM_amt d.2.2.1
  have z1 : decide ((1 : Int) = 0) = false := rfl
  have z2 : decide ((2 : Int) = 0) = false := rfl
  have z4 : decide ((4 : Int) = 0) = false := rfl
  unfold spec_Add.f spec_Add.c0 addM
  simp only [Prod.eta, specOk hk d hs, hr.ok, Option.bind_some, named_eq hk hs n hn]
  simp only [Bool.not_true, cond_false, specFind hk hs, Option.bind_some, specCopy hs, Prod.eta, specBytes hk d hs]
  rw [wrap_i64 (by omega) (by omega)]
  cases hb : nameB n with
  | false =>
    simp only [if_true, z1, cond_false, Option.bind_some, specCopy hs, Prod.eta]
  | true =>
    by_cases c : fileM d n < 0
    · simp only [Bool.true_eq_false, if_false, if_pos c, z2, cond_false, Option.bind_some, specCopy hs, Prod.eta]
    · obtain ⟨e1, x, e2, e3⟩ := file_at c
      have hxa := amtI_mem e3
      simp only [Bool.true_eq_false, if_false, if_neg c, decide_true, cond_true, Option.bind_some]
      by_cases c3 : d.1 - bytesM d.2.2.1 < (t.size : Int)
      · rw [decide_eq_true c3]
        simp only [cond_true, Option.bind_some, z4, cond_false, specCopy hs, Prod.eta]
        rw [if_pos (by omega)]
      · rw [decide_eq_false c3]
        simp only [cond_false, Option.bind_some, decide_true, cond_true, specCopy hs, specFind hk hs, e1, e2, Prod.eta]
        rw [cat_ok (by omega), if_neg (by omega), inoAt_eq e2]
        rfl

theorem specMake {k : Nat} (hk : 9223372036854775808 ≤ k) {d : DiskT} (hr : Right d) (n : ByteArray) (hn : n.size ≤ 1048576) : spec_Make.f k d n = some (makeM d n) := by
  have hs := hr.small
  unfold spec_Make.f makeM
  simp only [Prod.eta, specOk hk d hs, hr.ok, Option.bind_some]
  simp only [Bool.not_true, cond_false, specFind hk hs, Option.bind_some, specCopy hs, specName hk n hn, Prod.eta]
  obtain ⟨_, _, p3, p4, p5, p6, p7, _⟩ := hr.parts
  rw [app_ok (by unfold limOf; simp only [List.length_cons, List.length_nil]; omega), app_ok (by unfold limOf; simp only [List.length_cons, List.length_nil]; omega)]
  simp only [Option.bind_some]
  cases hb : nameB n with
  | false => rfl
  | true =>
  by_cases c1 : 0 ≤ fileM d n
  · rw [decide_eq_true c1, if_neg (by simp), if_pos c1]; rfl
  rw [decide_eq_false c1, if_neg (by simp), if_neg c1]
  by_cases c2 : 10 ≤ (d.2.2.1.length : Int)
  · rw [decide_eq_true c2, if_neg (by omega)]; rfl
  by_cases c3 : 20 ≤ (d.2.2.2.2.length : Int)
  · rw [decide_eq_true c3, decide_eq_false c2, if_neg (by omega)]; rfl
  by_cases c4 : 1000000 ≤ d.2.1
  · rw [decide_eq_true c4, decide_eq_false c2, decide_eq_false c3, if_neg (by omega)]; rfl
  rw [decide_eq_false c4, decide_eq_false c2, decide_eq_false c3, wrap_i64 (by omega) (by omega), if_pos (by omega)]
  rfl

theorem specSyncDir {k : Nat} (hk : 9223372036854775808 ≤ k) {d : DiskT} (hr : Right d) : spec_SyncDir.f k d = some (dirM d, 0) := by
  have hs := hr.small
  unfold spec_SyncDir.f
  have hn := nowM_len hs
  have hi := hs.ino
  simp only [Prod.eta, specOk hk d hs, hr.ok, Option.bind_some, Bool.not_true, cond_false, specNow hk hs, specSettled hk d _ d.2.2.1 hn (by omega)]
  rfl

theorem dirM_rp {d : DiskT} (hp : RP d) : RP (dirM d) := hp.settled d.2.2.2.2.length rfl (Nat.le_refl _) fun x hx => ⟨(hp.inr x hx).2.2.1, (hp.inr x hx).2.2.2⟩
theorem cuts_map (cuts : List Int) (l : List InodeT) : (cutsM cuts l).map (·.1) = l.map (·.1) := by
  refine List.ext_getElem (by simp [cutsM_len]) fun i hi hi' => ?_
  rw [List.getElem_map, List.getElem_map, cutsM_get (by simpa using hi')]
  rfl
theorem crashM_rp {d : DiskT} (hp : RP d) (keep : Int) (cuts : List Int) : RP (crashM d keep cuts) := by
  refine hp.settled keep.toNat (cuts_map cuts _) ?_ ?_
  · unfold cutsM
    have : ∀ (l : List InodeT) (j : Nat), amtI (l.mapIdx fun i x => cutM cuts x (i + j)) ≤ amtI l := fun l => by
      induction l with
      | nil => intro j; simp [amtI]
      | cons x l ih =>
        intro j
        have hc : ∀ (x : InodeT) (r : List InodeT), amtI (x :: r) = x.2.1.size + amtI r := fun x r => by simp only [amtI, List.map_cons, List.sum_cons]
        rw [List.mapIdx_cons, hc, hc]
        have h1 := cut_amt cuts x (0 + j)
        have h2 := ih (j + 1)
        have e : (fun (i : Nat) (x : InodeT) => cutM cuts x (i + (j + 1))) = fun i x => cutM cuts x (i + 1 + j) := by funext i x; congr 1; omega
        rw [e] at h2
        omega
    exact this d.2.2.1 0
  · intro x hx
    obtain ⟨i, hi, rfl⟩ := List.getElem_of_mem hx
    rw [cutsM_len] at hi
    rw [cutsM_get hi]
    obtain ⟨_, _, h0, h1⟩ := hp.inr _ (List.getElem_mem hi)
    have := cut_sure (cuts := cuts) (i := i) h0 h1
    omega

/-! a crash of what was crashed -/
theorem cut_full {cuts : List Int} {x : InodeT} {i : Nat} (h : x.2.2 = x.2.1.size) : cutM cuts x i = x := by
  have hm : moreM cuts x i = 0 := by
    have := moreM_range (cuts := cuts) (i := i) (x := x) (by omega)
    omega
  unfold cutM
  rw [hm, Int.add_zero, h, Int.toNat_natCast]
  obtain ⟨a, b, c⟩ := x
  simp only at h ⊢
  rw [h]
  have : b.extract 0 b.size = b := by rw [ByteArray.extract_zero_size]
  rw [this]
theorem cuts_full {cuts : List Int} {l : List InodeT} (h : ∀ x ∈ l, x.2.2 = x.2.1.size) : cutsM cuts l = l := by
  refine List.ext_getElem (cutsM_len cuts l) fun i hi hi' => ?_
  rw [cutsM_get hi', cut_full (h _ (List.getElem_mem hi'))]
theorem crash_sure {d : DiskT} (hp : RP d) {keep : Int} {cuts : List Int} : ∀ x ∈ (crashM d keep cuts).2.2.1, x.2.2 = x.2.1.size := by
  intro x hx
  have hx := (List.mem_filter.1 hx).1
  obtain ⟨i, hi, rfl⟩ := List.getElem_of_mem hx
  rw [cutsM_len] at hi
  rw [cutsM_get hi]
  obtain ⟨_, _, h0, h1⟩ := hp.inr _ (List.getElem_mem hi)
  exact (cut_sure (cuts := cuts) (i := i) h0 h1).2
theorem namesM_none {d : DiskT} (h : d.2.2.2.2 = []) (n : Nat) : namesM d n = d.2.2.2.1 := by unfold namesM linksS; rw [h, List.take_nil]; rfl
theorem swept_twice (dir : List LinkT) (l : List InodeT) : sweptM dir (sweptM dir l) = sweptM dir l := by unfold sweptM; rw [List.filter_filter]; simp
theorem crash_twice {d : DiskT} (hp : RP d) (keep keep' : Int) (cuts cuts' : List Int) : crashM (crashM d keep cuts) keep' cuts' = crashM d keep cuts := by
  have h1 := cuts_full (cuts := cuts') (crash_sure hp (keep := keep) (cuts := cuts))
  have h2 := namesM_none (d := crashM d keep cuts) rfl keep'.toNat
  change ((crashM d keep cuts).1, (crashM d keep cuts).2.1, sweptM (namesM (crashM d keep cuts) keep'.toNat) (cutsM cuts' (crashM d keep cuts).2.2.1), namesM (crashM d keep cuts) keep'.toNat, []) = _
  rw [h1, h2]
  change (d.1, d.2.1, sweptM (namesM d keep.toNat) (sweptM (namesM d keep.toNat) (cutsM cuts d.2.2.1)), namesM d keep.toNat, []) = _
  rw [swept_twice]
  rfl
end Go.Proofs.Ytlloaipjkejkgaa.Rx
namespace Go.Proofs.Ytlloaipjkejkgaa.Rx

theorem srt_inj {l : List LinkT} (hs : Srt l) {x y : LinkT} (hx : x ∈ l) (hy : y ∈ l) (h : x.1 = y.1) : x = y := by
  obtain ⟨i, hi, rfl⟩ := List.getElem_of_mem hx
  obtain ⟨j, hj, rfl⟩ := List.getElem_of_mem hy
  unfold Srt at hs
  rw [List.pairwise_iff_getElem] at hs
  rcases Nat.lt_trichotomy i j with c | c | c
  · exact absurd h (Srt.ne (hs i j hi hj c))
  · subst c; rfl
  · exact absurd h.symm (Srt.ne (hs j i hj hi c))
theorem asc_inj {l : List InodeT} (hs : (l.map (·.1)).Pairwise (· < ·)) {x y : InodeT} (hx : x ∈ l) (hy : y ∈ l) (h : x.1 = y.1) : x = y := by
  obtain ⟨i, hi, rfl⟩ := List.getElem_of_mem hx
  obtain ⟨j, hj, rfl⟩ := List.getElem_of_mem hy
  rw [List.pairwise_map, List.pairwise_iff_getElem] at hs
  rcases Nat.lt_trichotomy i j with c | c | c
  · have := hs i j hi hj c; omega
  · subst c; rfl
  · have := hs j i hj hi c; omega

/-- the inode of a name -/
theorem RP.ino_of {d : DiskT} (hp : RP d) {n : ByteArray} {z : InodeT} (hm : (n, z.1) ∈ nowM d) (hz : z ∈ d.2.2.1) : ¬ fileM d n < 0 ∧ inoAt d n = z := by
  have hnn := hp.named' d.2.2.2.2.length
  have hat : ¬ at? (nowM d) n < 0 := fun c => at_neg.1 c _ hm rfl
  have hf : ¬ fileM d n < 0 := fun c => hat (hp.file.1 c)
  refine ⟨hf, ?_⟩
  have hid : idAt (nowM d) n = z.1 := by
    have := idAt_mem (show 0 ≤ at? (nowM d) n by omega)
    exact congrArg (·.2) (srt_inj hnn.srt this hm rfl)
  have hidx : fileM d n = idxOf (fun x : InodeT => decide (x.1 = z.1)) d.2.2.1 := by
    unfold fileM
    rw [decide_eq_false hat, cond_false, hid]
  obtain ⟨i, hi, he, hpp, _⟩ := idxOf_ge (p := fun x : InodeT => decide (x.1 = z.1)) (l := d.2.2.1) (by rw [← hidx]; exact hf)
  have hx : d.2.2.1[(fileM d n).toNat]? = some d.2.2.1[i] := by
    rw [hidx, he, Int.toNat_natCast, List.getElem?_eq_getElem hi]
  rw [inoAt_eq hx]
  exact asc_inj hp.asc (List.getElem_mem hi) hz (of_decide_eq_true hpp)
/-- a name that stands, with its inode -/
theorem RP.of_name {d : DiskT} (hp : RP d) {l : LinkT} (hm : l ∈ nowM d) : ∃ z ∈ d.2.2.1, z.1 = l.2 := by
  have := hp.sub _ ((hp.named' d.2.2.2.2.length).nm l hm).2
  obtain ⟨z, hz, e⟩ := List.mem_map.1 this
  exact ⟨z, hz, e⟩
theorem RP.of_file {d : DiskT} (hp : RP d) {n : ByteArray} (h : ¬ fileM d n < 0) : inoAt d n ∈ d.2.2.1 ∧ (n, (inoAt d n).1) ∈ nowM d := by
  rw [hp.file] at h
  have hm := idAt_mem (show 0 ≤ at? (nowM d) n by omega)
  obtain ⟨z, hz, e⟩ := hp.of_name hm
  simp only at e
  rw [← e] at hm
  rw [(hp.ino_of hm hz).2]
  exact ⟨hz, hm⟩

/-! up to some change of names -/
def uptoM (d : DiskT) (n : Nat) : DiskT := (d.1, d.2.1, d.2.2.1.filter (fun x => linkB d.2.2.2.1 x.1 || madeB (d.2.2.2.2.take n) x.1), d.2.2.2.1, d.2.2.2.2.take n)
theorem RP.upto {d : DiskT} (hp : RP d) (n : Nat) : RP (uptoM d n) := by
  have hu : useM (uptoM d n) = d.2.2.2.1.map (·.2) ++ makes (d.2.2.2.2.take n) := rfl
  have hsub : ∀ a ∈ d.2.2.2.1.map (·.2) ++ makes (d.2.2.2.2.take n), a ∈ useM d := fun a ha => by
    unfold useM
    rcases List.mem_append.1 ha with h | h
    · exact List.mem_append_left _ h
    · refine List.mem_append_right _ ?_
      rw [← List.take_append_drop n d.2.2.2.2, makes_app]
      exact List.mem_append_left _ h
  have hamt : ∀ (p : InodeT → Bool) (l : List InodeT), amtI (l.filter p) ≤ amtI l := fun p l => by
    induction l with
    | nil => simp [amtI]
    | cons x l ih =>
      rw [List.filter_cons]
      split <;> simp only [amtI, List.map_cons, List.sum_cons] at ih ⊢ <;> omega
  refine ⟨hp.room0, hp.room1, hp.n1, hp.n2, ?_, ?_, ?_, ?_, ?_, hp.srt, hp.dirB, ?_, ?_, ?_, ?_⟩
  · have := List.length_filter_le (fun x : InodeT => linkB d.2.2.2.1 x.1 || madeB (d.2.2.2.2.take n) x.1) d.2.2.1
    have := hp.ino
    unfold uptoM
    simp only; omega
  · have := hp.mov
    unfold uptoM
    simp only [List.length_take]; omega
  · have := hamt (fun x : InodeT => linkB d.2.2.2.1 x.1 || madeB (d.2.2.2.2.take n) x.1) d.2.2.1
    have := hp.amt
    unfold uptoM
    simp only; omega
  · exact List.Pairwise.sublist (List.Sublist.map _ List.filter_sublist) hp.asc
  · exact fun x hx => hp.inr x (List.mem_filter.1 hx).1
  · rw [hu]
    have := hp.used
    unfold useM at this
    rw [← List.take_append_drop n d.2.2.2.2, makes_app, ← List.append_assoc] at this
    exact (List.nodup_append.1 this).1
  · rw [hu]
    intro a ha
    obtain ⟨x, hx, e⟩ := List.mem_map.1 (hp.sub a (hsub a ha))
    refine List.mem_map.2 ⟨x, List.mem_filter.2 ⟨hx, ?_⟩, e⟩
    rw [← mem_ids, decide_eq_true_eq, e]
    exact ha
  · rw [hu]
    intro a ha
    obtain ⟨x, hx, e⟩ := List.mem_map.1 ha
    have := (List.mem_filter.1 hx).2
    rw [← mem_ids, decide_eq_true_eq, e] at this
    exact this
  · intro i hi
    have hi' : i < (d.2.2.2.2.take n).length := hi
    rw [List.length_take] at hi'
    have e1 : (uptoM d n).2.2.2.2.take i = d.2.2.2.2.take i := by
      change (d.2.2.2.2.take n).take i = _
      rw [List.take_take]
      congr 1
      omega
    have e2 : (uptoM d n).2.2.2.2[i] = d.2.2.2.2[i]'(by omega) := by
      change (d.2.2.2.2.take n)[i]'(by rw [List.length_take]; omega) = _
      rw [List.getElem_take]
    rw [e1, e2]
    exact hp.ok i (by omega)
theorem now_upto (d : DiskT) (n : Nat) : nowM (uptoM d n) = namesM d n := by
  rw [namesM_now]; rfl
theorem now_crash (d : DiskT) (keep : Int) (cuts : List Int) : nowM (crashM d keep cuts) = namesM d keep.toNat := by
  rw [namesM_now]; rfl
theorem now_dir (d : DiskT) : nowM (dirM d) = nowM d := by
  rw [namesM_now]; rfl
theorem names_min (d : DiskT) (k n : Nat) (h : n = min k d.2.2.2.2.length) : namesM d k = namesM d n := by
  unfold namesM
  by_cases c : k ≤ d.2.2.2.2.length
  · rw [h, Nat.min_eq_left c]
  · rw [h, Nat.min_eq_right (by omega), List.take_of_length_le (by omega), List.take_length]

def begB (a s : ByteArray) : Bool := decide (a.size ≤ s.size) && decide (s.extract 0 a.size = a)
theorem beg_ext (s : ByteArray) (m : Nat) : begB (s.extract 0 m) s = true := by
  unfold begB
  have h1 : (s.extract 0 m).size = min m s.size := by rw [ByteArray.size_extract]; omega
  rw [h1]
  simp only [Bool.and_eq_true, decide_eq_true_eq]
  refine ⟨by omega, ?_⟩
  by_cases c : m ≤ s.size
  · rw [Nat.min_eq_left c]
  · rw [Nat.min_eq_right (by omega), ByteArray.extract_zero_size]
    apply ByteArray.ext
    rw [ByteArray.data_extract]
    have : s.data.size ≤ m := by have : s.data.size = s.size := rfl; omega
    rw [Array.extract_eq_self_of_le this]

theorem crash_names {d : DiskT} (hp : RP d) (keep : Int) (cuts : List Int) (n : Nat) (hn : n = min keep.toNat d.2.2.2.2.length) {l : LinkT} (hl : l ∈ namesM d n) :
    ¬ fileM (crashM d keep cuts) l.1 < 0 ∧ ¬ fileM (uptoM d n) l.1 < 0 ∧ begB (inoAt (crashM d keep cuts) l.1).2.1 (inoAt (uptoM d n) l.1).2.1 = true := by
  have hc := crashM_rp hp keep cuts
  have hu := hp.upto n
  have m1 : l ∈ nowM (crashM d keep cuts) := by rw [now_crash, names_min d _ n hn]; exact hl
  have m2 : l ∈ nowM (uptoM d n) := by rw [now_upto]; exact hl
  obtain ⟨z1, hz1, e1⟩ := hc.of_name m1
  obtain ⟨z2, hz2, e2⟩ := hu.of_name m2
  obtain ⟨f1, i1⟩ := hc.ino_of (n := l.1) (z := z1) (by rw [e1]; exact m1) hz1
  obtain ⟨f2, i2⟩ := hu.ino_of (n := l.1) (z := z2) (by rw [e2]; exact m2) hz2
  refine ⟨f1, f2, ?_⟩
  rw [i1, i2]
  have hz1' := (List.mem_filter.1 hz1).1
  obtain ⟨j, hj, rfl⟩ := List.getElem_of_mem hz1'
  rw [cutsM_len] at hj
  rw [cutsM_get hj] at e1 ⊢
  have hz2' := (List.mem_filter.1 hz2).1
  have e3 : d.2.2.1[j].1 = l.2 := e1
  have : z2 = d.2.2.1[j] := asc_inj hp.asc hz2' (List.getElem_mem hj) (by rw [e2, e3])
  rw [this]
  unfold cutM
  exact beg_ext _ _

/-! a name that is safe -/
structure Safe (d : DiskT) (n data more : ByteArray) : Prop where
  rp : RP d
  mv : d.2.2.2.2 = []
  is : ∃ z ∈ d.2.2.1, (n, z.1) ∈ d.2.2.2.1 ∧ z.2.2 = data.size ∧ z.2.1 = data ++ more

theorem ba_nil (s : ByteArray) : s ++ (⟨#[]⟩ : ByteArray) = s := by
  apply ByteArray.ext
  rw [ByteArray.data_append]
  simp
theorem safe_sync {d : DiskT} (hr : Right d) {n : ByteArray} (hn : nameB n = true) (hf : ¬ fileM d n < 0) : Safe (dirM (syncM d n).1) n (inoAt d n).2.1 ⟨#[]⟩ ∧ loadM (dirM (syncM d n).1) n = ((inoAt d n).2.1, true) := by
  have hp := hr.rp
  obtain ⟨e1, x, e2, e3⟩ := file_at hf
  have hlt := (List.getElem?_eq_some_iff.1 e2).1
  have hx := (List.getElem?_eq_some_iff.1 e2).2
  have hi := inoAt_eq e2
  obtain ⟨_, hm⟩ := hp.of_file hf
  have hsync : (syncM d n).1 = putI d n (x.1, x.2.1, (x.2.1.size : Int)) := by
    unfold syncM
    rw [if_neg (by rw [hn]; simp), if_neg hf, hi]
  have hput : RP (putI d n (x.1, x.2.1, (x.2.1.size : Int))) := by
    refine hp.set hlt (by rw [hx]) (by simp only; omega) (by simp only; omega) ?_
    have := amtI_set (l := d.2.2.1) (y := (x.1, x.2.1, (x.2.1.size : Int))) hlt
    rw [hx] at this
    have := hp.amt
    simp only at *
    omega
  have hd := dirM_rp hput
  rw [hsync]
  have hnow : nowM (putI d n (x.1, x.2.1, (x.2.1.size : Int))) = nowM d := rfl
  have hmem : (n, x.1) ∈ nowM d := by rw [← hi]; exact hm
  have hz : (x.1, x.2.1, (x.2.1.size : Int)) ∈ (dirM (putI d n (x.1, x.2.1, (x.2.1.size : Int)))).2.2.1 := by
    refine List.mem_filter.2 ⟨?_, ?_⟩
    · exact List.mem_iff_getElem.2 ⟨(fileM d n).toNat, by simpa [putI] using hlt, by simp [putI]⟩
    · rw [hnow, ← mem_dir, decide_eq_true_eq]
      exact List.mem_map.2 ⟨_, hmem, rfl⟩
  rw [hi]
  refine ⟨⟨hd, rfl, _, hz, hmem, rfl, (ba_nil _).symm⟩, ?_⟩
  obtain ⟨f1, f2⟩ := hd.ino_of (n := n) hz (z := (x.1, x.2.1, (x.2.1.size : Int))) (hm := by rw [now_dir]; exact hmem)
  unfold loadM
  rw [if_neg f1, f2]

theorem safe_now {d : DiskT} {n a b : ByteArray} (h : Safe d n a b) : nowM d = d.2.2.2.1 := namesM_none h.mv _

theorem safe_add {d : DiskT} {n a : ByteArray} (h : Safe d n a ⟨#[]⟩) (more : ByteArray) : Safe (addM d n more).1 n a (if (addM d n more).2 = 0 then more else ⟨#[]⟩) := by
  have hp := h.rp
  obtain ⟨z, hz, hm, hs, hd⟩ := h.is
  obtain ⟨f1, f2⟩ := hp.ino_of (n := n) (z := z) (by rw [safe_now h]; exact hm) hz
  unfold addM
  split
  · rename_i c
    have := hp.dirB _ hm
    simp only at this
    rw [this] at c; cases c
  · split
    · simpa using h
    · rename_i c
      obtain ⟨e1, x, e2, e3⟩ := file_at f1
      have hxz : x = z := by rw [← inoAt_eq e2, f2]
      rw [hxz] at e2
      have hlt := (List.getElem?_eq_some_iff.1 e2).1
      have hx := (List.getElem?_eq_some_iff.1 e2).2
      rw [f2]
      obtain ⟨_, _, i1, i2⟩ := hp.inr z hz
      simp only [if_true]
      refine ⟨?_, h.mv, (z.1, z.2.1 ++ more, z.2.2), ?_, hm, hs, by simp only; rw [hd, ba_nil]⟩
      · refine hp.set hlt (by rw [hx]) i1 (by simp only [ByteArray.size_append]; omega) ?_
        have := amtI_set (l := d.2.2.1) (y := (z.1, z.2.1 ++ more, z.2.2)) hlt
        rw [hx] at this
        have := hp.amt
        simp only [ByteArray.size_append] at *
        omega
      · exact List.mem_iff_getElem.2 ⟨(fileM d n).toNat, by simpa [putI] using hlt, by simp [putI]⟩

theorem with_mem {l : List LinkT} {x y : LinkT} (hy : y ∈ l) (hne : y.1 ≠ x.1) : y ∈ withS l x := by
  unfold withS
  exact mem_insM.2 (Or.inr (mem_without.2 ⟨hy, hne⟩))

theorem safe_crash {d : DiskT} {n a b : ByteArray} (h : Safe d n a b) (other : ByteArray) (keep : Int) (cuts : List Int) :
    RP (crashM (makeM d other).1 keep cuts) ∧ ∃ got, loadM (crashM (makeM d other).1 keep cuts) n = (got, true) ∧ begB a got = true ∧ begB got (a ++ b) = true := by
  have hp := h.rp
  obtain ⟨z, hz, hm, hs, hd⟩ := h.is
  -- what Make gives
  have key : ∃ e, (makeM d other).1 = e ∧ RP e ∧ z ∈ e.2.2.1 ∧ ∀ k, (n, z.1) ∈ namesM e k := by
    refine ⟨_, rfl, ?_⟩
    have same : RP d ∧ z ∈ d.2.2.1 ∧ ∀ k, (n, z.1) ∈ namesM d k := ⟨hp, hz, fun k => by rw [namesM_none h.mv]; exact hm⟩
    unfold makeM
    split
    · exact same
    · rename_i hb
      split
      · exact same
      · rename_i hf
        split
        · rename_i hc
          have hb' : nameB other = true := by simpa using hb
          refine ⟨hp.made hb' (by omega) hc.1 hc.2.1 hc.2.2, List.mem_append_left _ hz, fun k => ?_⟩
          have hat := hp.file.1 (show fileM d other < 0 by omega)
          rw [safe_now h] at hat
          have hne := at_neg.1 hat
          have e : namesM (d.1, d.2.1 + 1, d.2.2.1 ++ [(d.2.1, ⟨#[]⟩, 0)], d.2.2.2.1, d.2.2.2.2 ++ [(1, other, ⟨#[]⟩, d.2.1)]) k = linksS d.2.2.2.1 ([(1, other, ⟨#[]⟩, d.2.1)].take k) := by
            unfold namesM
            simp only [h.mv, List.nil_append]
          rw [e]
          match k with
          | 0 => exact hm
          | k + 1 =>
            simp only [List.take_succ_cons, List.take_nil, linksS, List.foldl_cons, List.foldl_nil]
            unfold applyS
            simp only [hb']
            rw [if_neg (by simp), if_pos ⟨trivial, trivial, hat⟩]
            exact with_mem hm (hne _ hm)
        · exact same
  obtain ⟨e, he, h1, h2, h3⟩ := key
  rw [he]
  have hc := crashM_rp h1 keep cuts
  refine ⟨hc, ?_⟩
  obtain ⟨j, hj, hjz⟩ := List.getElem_of_mem h2
  have hmem : cutM cuts z j ∈ (crashM e keep cuts).2.2.1 := by
    refine List.mem_filter.2 ⟨List.mem_iff_getElem.2 ⟨j, by rw [cutsM_len]; exact hj, by rw [cutsM_get hj, hjz]⟩, ?_⟩
    rw [← mem_dir, decide_eq_true_eq]
    exact List.mem_map.2 ⟨_, h3 _, rfl⟩
  obtain ⟨f1, f2⟩ := hc.ino_of (n := n) (z := cutM cuts z j) (by rw [now_crash]; exact h3 _) hmem
  have hr := moreM_range (cuts := cuts) (x := z) (i := j) (by rw [hs, hd, ByteArray.size_append]; omega)
  refine ⟨(cutM cuts z j).2.1, ?_, ?_, ?_⟩
  · unfold loadM
    rw [if_neg f1, f2]
  · unfold cutM begB
    simp only [hd, hs, Bool.and_eq_true, decide_eq_true_eq, ByteArray.size_extract, ByteArray.size_append]
    rw [hs, hd, ByteArray.size_append] at hr
    refine ⟨by omega, ?_⟩
    apply ByteArray.ext
    have ha : a.data.size = a.size := rfl
    have hb : b.data.size = b.size := rfl
    simp only [ByteArray.data_extract, ByteArray.data_append]
    rw [Array.extract_extract]
    have e1 : min (0 + a.size) (((a.size : Int) + moreM cuts z j).toNat) = a.size := by omega
    rw [Nat.zero_add, Nat.zero_add] at *
    rw [e1]
    rw [← ha, Array.extract_append]
    simp
  · rw [← hd]
    unfold cutM
    exact beg_ext _ _
end Go.Proofs.Ytlloaipjkejkgaa.Rx
