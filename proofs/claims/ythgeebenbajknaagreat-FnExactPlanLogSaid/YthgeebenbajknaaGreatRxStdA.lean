/- What the laws' own functions do with a disk, a log and steps. No condition beside those that each theorem states. -/
import Derived.Test.YthgeebenbajknaaGreatRxLoop
import Derived.Test.YthgeebenbajknaaGreatRxFnsB
set_option linter.unusedVariables false
set_option linter.unusedSimpArgs false
namespace Go.Proofs.YthgeebenbajknaaGreat.Rx
theorem eqInode_self {k : Nat} (hk : 9223372036854775808 ≤ k) (a : Int × ByteArray × Int) : laws_eqInode.f k a a = some true := by
  unfold laws_eqInode.f
  simp only [decide_true, Bool.not_true, cond_false, Option.bind_some, Prod.eta]

theorem eqInodeS_self {k : Nat} (hk : 9223372036854775808 ≤ k) (l : List (Int × ByteArray × Int)) (h : l.length ≤ 9223372036854775807) : laws_eqInodeS.f k l l = some true := by
  unfold laws_eqInodeS.f
  have key := iter_upto (B := laws_eqInodeS.b0 k) l.length (fun i => (l, l, false, (i : Int))) (.inl false) (fun i hi => by
    have e1 : decide ((i : Int) < (l.length : Int)) = true := by simp; omega
    have e2 : inb? l.length (i : Int) = some i := by rw [inb_ok (by omega) (by omega), Int.toNat_natCast]
    unfold laws_eqInodeS.b0
    dsimp only
    simp (disch := omega) only [e1, cond_true, wrap_i64, Option.bind_some, e2, List.getElem?_eq_getElem hi, Prod.eta, eqInode_self hk, decide_true, Bool.not_true, cond_false]
    simp) (by
    have e1 : decide ((l.length : Int) < (l.length : Int)) = false := by simp
    unfold laws_eqInodeS.b0
    dsimp only
    rw [e1]; rfl) k (by omega)
  have e0 : ((0 : Nat) : Int) = 0 := rfl
  simp only [e0] at key
  simp only [decide_true, Bool.not_true, cond_false, key, Option.bind_some]
  rfl

theorem eqLink_self {k : Nat} (hk : 9223372036854775808 ≤ k) (a : ByteArray × Int) : laws_eqLink.f k a a = some true := by
  unfold laws_eqLink.f
  simp only [decide_true, Bool.not_true, cond_false, Option.bind_some, Prod.eta]

theorem eqLinkS_self {k : Nat} (hk : 9223372036854775808 ≤ k) (l : List (ByteArray × Int)) (h : l.length ≤ 9223372036854775807) : laws_eqLinkS.f k l l = some true := by
  unfold laws_eqLinkS.f
  have key := iter_upto (B := laws_eqLinkS.b0 k) l.length (fun i => (l, l, false, (i : Int))) (.inl false) (fun i hi => by
    have e1 : decide ((i : Int) < (l.length : Int)) = true := by simp; omega
    have e2 : inb? l.length (i : Int) = some i := by rw [inb_ok (by omega) (by omega), Int.toNat_natCast]
    unfold laws_eqLinkS.b0
    dsimp only
    simp (disch := omega) only [e1, cond_true, wrap_i64, Option.bind_some, e2, List.getElem?_eq_getElem hi, Prod.eta, eqLink_self hk, decide_true, Bool.not_true, cond_false]
    simp) (by
    have e1 : decide ((l.length : Int) < (l.length : Int)) = false := by simp
    unfold laws_eqLinkS.b0
    dsimp only
    rw [e1]; rfl) k (by omega)
  have e0 : ((0 : Nat) : Int) = 0 := rfl
  simp only [e0] at key
  simp only [decide_true, Bool.not_true, cond_false, key, Option.bind_some]
  rfl

theorem eqMove_self {k : Nat} (hk : 9223372036854775808 ≤ k) (a : Int × ByteArray × ByteArray × Int) : laws_eqMove.f k a a = some true := by
  unfold laws_eqMove.f
  simp only [decide_true, Bool.not_true, cond_false, Option.bind_some, Prod.eta]

theorem eqMoveS_self {k : Nat} (hk : 9223372036854775808 ≤ k) (l : List (Int × ByteArray × ByteArray × Int)) (h : l.length ≤ 9223372036854775807) : laws_eqMoveS.f k l l = some true := by
  unfold laws_eqMoveS.f
  have key := iter_upto (B := laws_eqMoveS.b0 k) l.length (fun i => (l, l, false, (i : Int))) (.inl false) (fun i hi => by
    have e1 : decide ((i : Int) < (l.length : Int)) = true := by simp; omega
    have e2 : inb? l.length (i : Int) = some i := by rw [inb_ok (by omega) (by omega), Int.toNat_natCast]
    unfold laws_eqMoveS.b0
    dsimp only
    simp (disch := omega) only [e1, cond_true, wrap_i64, Option.bind_some, e2, List.getElem?_eq_getElem hi, Prod.eta, eqMove_self hk, decide_true, Bool.not_true, cond_false]
    simp) (by
    have e1 : decide ((l.length : Int) < (l.length : Int)) = false := by simp
    unfold laws_eqMoveS.b0
    dsimp only
    rw [e1]; rfl) k (by omega)
  have e0 : ((0 : Nat) : Int) = 0 := rfl
  simp only [e0] at key
  simp only [decide_true, Bool.not_true, cond_false, key, Option.bind_some]
  rfl

theorem eqDisk_self {k : Nat} (hk : 9223372036854775808 ≤ k) (a : Int × Int × List (Int × ByteArray × Int) × List (ByteArray × Int) × List (Int × ByteArray × ByteArray × Int)) (ha : a.2.2.1.length ≤ 9223372036854775807) (hb : a.2.2.2.1.length ≤ 9223372036854775807) (hc : a.2.2.2.2.length ≤ 9223372036854775807) : laws_eqDisk.f k a a = some true := by
  unfold laws_eqDisk.f
  simp only [eqInodeS_self hk a.2.2.1 ha, eqLinkS_self hk a.2.2.2.1 hb, eqMoveS_self hk a.2.2.2.2 hc, decide_true, Bool.not_true, cond_false, Option.bind_some, Prod.eta]

theorem szInode_sz {k : Nat} (hk : 9223372036854775808 ≤ k) (a : Int × ByteArray × Int) (wa : a.2.1.size ≤ 9223372036854775807) (l : Int) (h0 : 0 ≤ l) (h1 : l ≤ 1048576) : Sz (laws_szInode.f k a l) l (a.2.1.size) := by
  unfold laws_szInode.f
  exact Sz.cast (n := (a.2.1.size) + (0)) (Sz.sub h0 h1 wa fun v0 p0 q0 => Sz.ret p0) (by omega)

theorem szInodeS_sz {k : Nat} (hk : 9223372036854775808 ≤ k) (a : List (Int × ByteArray × Int)) (wa : a.length ≤ 9223372036854775807) (wb : ∀ x ∈ a, x.2.1.size ≤ 9223372036854775807) (l : Int) (h0 : 0 ≤ l) (h1 : l ≤ 1048576) : Sz (laws_szInodeS.f k a l) l (a.length + (a.map fun x => x.2.1.size).sum) := by
  unfold laws_szInodeS.f
  rw [wrap_i64 (by omega) (by omega)]
  by_cases hneg : l - (a.length : Int) < 0
  · rw [decide_eq_true hneg]; exact ⟨-1, rfl, .inl rfl⟩
  rw [decide_eq_false hneg, cond_false]
  have hi := sz_iter (xs := a) (A := fun x => x.2.1.size) (z := 0) (B := laws_szInodeS.b0 k) (fun i hi v h0 h1 => by
    have e1 : decide ((i : Int) < (a.length : Int)) = true := by simp; omega
    have e2 : inb? a.length (i : Int) = some i := by rw [inb_ok (by omega) (by omega), Int.toNat_natCast]
    obtain ⟨v', h2, h3⟩ := szInode_sz hk a[i] (wb _ (List.getElem_mem hi)) v h0 h1
    unfold laws_szInodeS.b0
    dsimp only
    simp (disch := omega) only [e1, cond_true, wrap_i64, Option.bind_some, e2, List.getElem?_eq_getElem hi, Prod.eta, h2]
    rcases h3 with rfl | ⟨h3, h4⟩
    · exact .inl rfl
    · have e : decide (v' < 0) = false := by simp; omega
      rw [e]
      exact .inr ⟨v', h3, h4, rfl⟩) (fun v => by
    have e1 : decide ((a.length : Int) < (a.length : Int)) = false := by simp
    unfold laws_szInodeS.b0
    dsimp only
    rw [e1]; rfl) a.length 0 k (l - (a.length : Int)) (by omega) (by omega) (by omega) (by omega)
  have e0 : ((0 : Nat) : Int) = 0 := rfl
  rw [e0] at hi
  rcases hi with hi | ⟨v', h2, h3, h4⟩
  · rw [hi]; exact ⟨-1, rfl, .inl rfl⟩
  · rw [h4]
    rw [List.drop_zero] at h3
    exact ⟨v', rfl, .inr ⟨h2, by omega⟩⟩

theorem szLink_sz {k : Nat} (hk : 9223372036854775808 ≤ k) (a : ByteArray × Int) (wa : a.1.size ≤ 9223372036854775807) (l : Int) (h0 : 0 ≤ l) (h1 : l ≤ 1048576) : Sz (laws_szLink.f k a l) l (a.1.size) := by
  unfold laws_szLink.f
  exact Sz.cast (n := (a.1.size) + (0)) (Sz.sub h0 h1 wa fun v0 p0 q0 => Sz.ret p0) (by omega)

theorem szLinkS_sz {k : Nat} (hk : 9223372036854775808 ≤ k) (a : List (ByteArray × Int)) (wa : a.length ≤ 9223372036854775807) (wb : ∀ x ∈ a, x.1.size ≤ 9223372036854775807) (l : Int) (h0 : 0 ≤ l) (h1 : l ≤ 1048576) : Sz (laws_szLinkS.f k a l) l (a.length + (a.map fun x => x.1.size).sum) := by
  unfold laws_szLinkS.f
  rw [wrap_i64 (by omega) (by omega)]
  by_cases hneg : l - (a.length : Int) < 0
  · rw [decide_eq_true hneg]; exact ⟨-1, rfl, .inl rfl⟩
  rw [decide_eq_false hneg, cond_false]
  have hi := sz_iter (xs := a) (A := fun x => x.1.size) (z := 0) (B := laws_szLinkS.b0 k) (fun i hi v h0 h1 => by
    have e1 : decide ((i : Int) < (a.length : Int)) = true := by simp; omega
    have e2 : inb? a.length (i : Int) = some i := by rw [inb_ok (by omega) (by omega), Int.toNat_natCast]
    obtain ⟨v', h2, h3⟩ := szLink_sz hk a[i] (wb _ (List.getElem_mem hi)) v h0 h1
    unfold laws_szLinkS.b0
    dsimp only
    simp (disch := omega) only [e1, cond_true, wrap_i64, Option.bind_some, e2, List.getElem?_eq_getElem hi, Prod.eta, h2]
    rcases h3 with rfl | ⟨h3, h4⟩
    · exact .inl rfl
    · have e : decide (v' < 0) = false := by simp; omega
      rw [e]
      exact .inr ⟨v', h3, h4, rfl⟩) (fun v => by
    have e1 : decide ((a.length : Int) < (a.length : Int)) = false := by simp
    unfold laws_szLinkS.b0
    dsimp only
    rw [e1]; rfl) a.length 0 k (l - (a.length : Int)) (by omega) (by omega) (by omega) (by omega)
  have e0 : ((0 : Nat) : Int) = 0 := rfl
  rw [e0] at hi
  rcases hi with hi | ⟨v', h2, h3, h4⟩
  · rw [hi]; exact ⟨-1, rfl, .inl rfl⟩
  · rw [h4]
    rw [List.drop_zero] at h3
    exact ⟨v', rfl, .inr ⟨h2, by omega⟩⟩

theorem szMove_sz {k : Nat} (hk : 9223372036854775808 ≤ k) (a : Int × ByteArray × ByteArray × Int) (wa : a.2.1.size ≤ 9223372036854775807) (wb : a.2.2.1.size ≤ 9223372036854775807) (l : Int) (h0 : 0 ≤ l) (h1 : l ≤ 1048576) : Sz (laws_szMove.f k a l) l (a.2.1.size + a.2.2.1.size) := by
  unfold laws_szMove.f
  exact Sz.cast (n := (a.2.1.size) + ((a.2.2.1.size) + (0))) (Sz.sub h0 h1 wa fun v0 p0 q0 => Sz.sub p0 (by omega) wb fun v1 p1 q1 => Sz.ret p1) (by omega)

theorem szMoveS_sz {k : Nat} (hk : 9223372036854775808 ≤ k) (a : List (Int × ByteArray × ByteArray × Int)) (wa : a.length ≤ 9223372036854775807) (wb : ∀ x ∈ a, x.2.1.size ≤ 9223372036854775807 ∧ x.2.2.1.size ≤ 9223372036854775807) (l : Int) (h0 : 0 ≤ l) (h1 : l ≤ 1048576) : Sz (laws_szMoveS.f k a l) l (a.length + (a.map fun x => x.2.1.size + x.2.2.1.size).sum) := by
  unfold laws_szMoveS.f
  rw [wrap_i64 (by omega) (by omega)]
  by_cases hneg : l - (a.length : Int) < 0
  · rw [decide_eq_true hneg]; exact ⟨-1, rfl, .inl rfl⟩
  rw [decide_eq_false hneg, cond_false]
  have hi := sz_iter (xs := a) (A := fun x => x.2.1.size + x.2.2.1.size) (z := 0) (B := laws_szMoveS.b0 k) (fun i hi v h0 h1 => by
    have e1 : decide ((i : Int) < (a.length : Int)) = true := by simp; omega
    have e2 : inb? a.length (i : Int) = some i := by rw [inb_ok (by omega) (by omega), Int.toNat_natCast]
    obtain ⟨v', h2, h3⟩ := szMove_sz hk a[i] (wb _ (List.getElem_mem hi)).1 (wb _ (List.getElem_mem hi)).2 v h0 h1
    unfold laws_szMoveS.b0
    dsimp only
    simp (disch := omega) only [e1, cond_true, wrap_i64, Option.bind_some, e2, List.getElem?_eq_getElem hi, Prod.eta, h2]
    rcases h3 with rfl | ⟨h3, h4⟩
    · exact .inl rfl
    · have e : decide (v' < 0) = false := by simp; omega
      rw [e]
      exact .inr ⟨v', h3, h4, rfl⟩) (fun v => by
    have e1 : decide ((a.length : Int) < (a.length : Int)) = false := by simp
    unfold laws_szMoveS.b0
    dsimp only
    rw [e1]; rfl) a.length 0 k (l - (a.length : Int)) (by omega) (by omega) (by omega) (by omega)
  have e0 : ((0 : Nat) : Int) = 0 := rfl
  rw [e0] at hi
  rcases hi with hi | ⟨v', h2, h3, h4⟩
  · rw [hi]; exact ⟨-1, rfl, .inl rfl⟩
  · rw [h4]
    rw [List.drop_zero] at h3
    exact ⟨v', rfl, .inr ⟨h2, by omega⟩⟩

theorem szDisk_sz {k : Nat} (hk : 9223372036854775808 ≤ k) (a : Int × Int × List (Int × ByteArray × Int) × List (ByteArray × Int) × List (Int × ByteArray × ByteArray × Int)) (wa : a.2.2.1.length ≤ 9223372036854775807) (wb : ∀ x ∈ a.2.2.1, x.2.1.size ≤ 9223372036854775807) (wc : a.2.2.2.1.length ≤ 9223372036854775807) (wd : ∀ x ∈ a.2.2.2.1, x.1.size ≤ 9223372036854775807) (we : a.2.2.2.2.length ≤ 9223372036854775807) (wf : ∀ x ∈ a.2.2.2.2, x.2.1.size ≤ 9223372036854775807 ∧ x.2.2.1.size ≤ 9223372036854775807) (l : Int) (h0 : 0 ≤ l) (h1 : l ≤ 1048576) : Sz (laws_szDisk.f k a l) l (a.2.2.1.length + (a.2.2.1.map fun x => x.2.1.size).sum + a.2.2.2.1.length + (a.2.2.2.1.map fun x => x.1.size).sum + a.2.2.2.2.length + (a.2.2.2.2.map fun x => x.2.1.size + x.2.2.1.size).sum) := by
  unfold laws_szDisk.f
  exact Sz.cast (n := (a.2.2.1.length + (a.2.2.1.map fun x => x.2.1.size).sum) + ((a.2.2.2.1.length + (a.2.2.2.1.map fun x => x.1.size).sum) + ((a.2.2.2.2.length + (a.2.2.2.2.map fun x => x.2.1.size + x.2.2.1.size).sum) + (0)))) (Sz.bind (szInodeS_sz hk a.2.2.1 wa wb _ h0 h1) fun v0 p0 q0 => Sz.bind (szLinkS_sz hk a.2.2.2.1 wc wd _ p0 (by omega)) fun v1 p1 q1 => Sz.bind (szMoveS_sz hk a.2.2.2.2 we wf _ p1 (by omega)) fun v2 p2 q2 => Sz.ret p2) (by omega)

theorem toInode_eq {k : Nat} (hk : 9223372036854775808 ≤ k) (a : Int × ByteArray × Int) : laws_toInode.f k a = some a := by
  unfold laws_toInode.f
  simp only [Option.bind_some, Prod.eta]

theorem toInodeS_eq {k : Nat} (hk : 9223372036854775808 ≤ k) (a : List (Int × ByteArray × Int)) (h : a.length ≤ 1048576) : laws_toInodeS.f k a = some a := by
  unfold laws_toInodeS.f
  rw [mk_ok (by omega) (by unfold limOf; omega)]
  simp only [Option.bind_some, Int.toNat_natCast]
  obtain ⟨l1, hl1⟩ : ∃ l1, List.replicate a.length ((0 : Int), (⟨#[]⟩ : ByteArray), (0 : Int)) = l1 := ⟨_, rfl⟩
  have hlen : l1.length = a.length := by rw [← hl1]; simp
  rw [hl1]
  have key := iter_upto (B := laws_toInodeS.b0 k) a.length (fun i => (a, [], cpU a l1 i, (i : Int))) (.inl ([], cpU a l1 a.length)) (fun i hi => by
    have hl := cpU_length a l1 i
    rw [cpU_succ a l1 hi]
    obtain ⟨L, hL⟩ : ∃ L, cpU a l1 i = L := ⟨_, rfl⟩
    rw [hL] at hl ⊢
    have hlt : i < L.length := by omega
    have e1 : decide ((i : Int) < (a.length : Int)) = true := by simp; omega
    have e2 : inb? a.length (i : Int) = some i := by rw [inb_ok (by omega) (by omega), Int.toNat_natCast]
    have e3 : inb? L.length (i : Int) = some i := by rw [inb_ok (by omega) (by omega), Int.toNat_natCast]
    unfold laws_toInodeS.b0
    dsimp only
    simp (disch := omega) only [e1, cond_true, wrap_i64, Option.bind_some, e2, e3, List.getElem?_eq_getElem hi, List.getElem?_eq_getElem hlt, Prod.eta, toInode_eq hk]
    simp) (by
    have e1 : decide ((a.length : Int) < (a.length : Int)) = false := by simp
    unfold laws_toInodeS.b0
    dsimp only
    rw [e1]; rfl) k (by omega)
  have e0 : ((0 : Nat) : Int) = 0 := rfl
  simp only [e0, cpU] at key
  rw [key]
  simp only [Option.bind_some]
  unfold laws_toInodeS.d0
  simp only [cpU_all a l1 hlen]

theorem toLink_eq {k : Nat} (hk : 9223372036854775808 ≤ k) (a : ByteArray × Int) : laws_toLink.f k a = some a := by
  unfold laws_toLink.f
  simp only [Option.bind_some, Prod.eta]

theorem toLinkS_eq {k : Nat} (hk : 9223372036854775808 ≤ k) (a : List (ByteArray × Int)) (h : a.length ≤ 1048576) : laws_toLinkS.f k a = some a := by
  unfold laws_toLinkS.f
  rw [mk_ok (by omega) (by unfold limOf; omega)]
  simp only [Option.bind_some, Int.toNat_natCast]
  obtain ⟨l1, hl1⟩ : ∃ l1, List.replicate a.length ((⟨#[]⟩ : ByteArray), (0 : Int)) = l1 := ⟨_, rfl⟩
  have hlen : l1.length = a.length := by rw [← hl1]; simp
  rw [hl1]
  have key := iter_upto (B := laws_toLinkS.b0 k) a.length (fun i => (a, [], cpU a l1 i, (i : Int))) (.inl ([], cpU a l1 a.length)) (fun i hi => by
    have hl := cpU_length a l1 i
    rw [cpU_succ a l1 hi]
    obtain ⟨L, hL⟩ : ∃ L, cpU a l1 i = L := ⟨_, rfl⟩
    rw [hL] at hl ⊢
    have hlt : i < L.length := by omega
    have e1 : decide ((i : Int) < (a.length : Int)) = true := by simp; omega
    have e2 : inb? a.length (i : Int) = some i := by rw [inb_ok (by omega) (by omega), Int.toNat_natCast]
    have e3 : inb? L.length (i : Int) = some i := by rw [inb_ok (by omega) (by omega), Int.toNat_natCast]
    unfold laws_toLinkS.b0
    dsimp only
    simp (disch := omega) only [e1, cond_true, wrap_i64, Option.bind_some, e2, e3, List.getElem?_eq_getElem hi, List.getElem?_eq_getElem hlt, Prod.eta, toLink_eq hk]
    simp) (by
    have e1 : decide ((a.length : Int) < (a.length : Int)) = false := by simp
    unfold laws_toLinkS.b0
    dsimp only
    rw [e1]; rfl) k (by omega)
  have e0 : ((0 : Nat) : Int) = 0 := rfl
  simp only [e0, cpU] at key
  rw [key]
  simp only [Option.bind_some]
  unfold laws_toLinkS.d0
  simp only [cpU_all a l1 hlen]

theorem toMove_eq {k : Nat} (hk : 9223372036854775808 ≤ k) (a : Int × ByteArray × ByteArray × Int) : laws_toMove.f k a = some a := by
  unfold laws_toMove.f
  simp only [Option.bind_some, Prod.eta]

theorem toMoveS_eq {k : Nat} (hk : 9223372036854775808 ≤ k) (a : List (Int × ByteArray × ByteArray × Int)) (h : a.length ≤ 1048576) : laws_toMoveS.f k a = some a := by
  unfold laws_toMoveS.f
  rw [mk_ok (by omega) (by unfold limOf; omega)]
  simp only [Option.bind_some, Int.toNat_natCast]
  obtain ⟨l1, hl1⟩ : ∃ l1, List.replicate a.length ((0 : Int), (⟨#[]⟩ : ByteArray), (⟨#[]⟩ : ByteArray), (0 : Int)) = l1 := ⟨_, rfl⟩
  have hlen : l1.length = a.length := by rw [← hl1]; simp
  rw [hl1]
  have key := iter_upto (B := laws_toMoveS.b0 k) a.length (fun i => (a, [], cpU a l1 i, (i : Int))) (.inl ([], cpU a l1 a.length)) (fun i hi => by
    have hl := cpU_length a l1 i
    rw [cpU_succ a l1 hi]
    obtain ⟨L, hL⟩ : ∃ L, cpU a l1 i = L := ⟨_, rfl⟩
    rw [hL] at hl ⊢
    have hlt : i < L.length := by omega
    have e1 : decide ((i : Int) < (a.length : Int)) = true := by simp; omega
    have e2 : inb? a.length (i : Int) = some i := by rw [inb_ok (by omega) (by omega), Int.toNat_natCast]
    have e3 : inb? L.length (i : Int) = some i := by rw [inb_ok (by omega) (by omega), Int.toNat_natCast]
    unfold laws_toMoveS.b0
    dsimp only
    simp (disch := omega) only [e1, cond_true, wrap_i64, Option.bind_some, e2, e3, List.getElem?_eq_getElem hi, List.getElem?_eq_getElem hlt, Prod.eta, toMove_eq hk]
    simp) (by
    have e1 : decide ((a.length : Int) < (a.length : Int)) = false := by simp
    unfold laws_toMoveS.b0
    dsimp only
    rw [e1]; rfl) k (by omega)
  have e0 : ((0 : Nat) : Int) = 0 := rfl
  simp only [e0, cpU] at key
  rw [key]
  simp only [Option.bind_some]
  unfold laws_toMoveS.d0
  simp only [cpU_all a l1 hlen]

theorem toDisk_eq {k : Nat} (hk : 9223372036854775808 ≤ k) (a : Int × Int × List (Int × ByteArray × Int) × List (ByteArray × Int) × List (Int × ByteArray × ByteArray × Int)) (ha : a.2.2.1.length ≤ 1048576) (hb : a.2.2.2.1.length ≤ 1048576) (hc : a.2.2.2.2.length ≤ 1048576) : laws_toDisk.f k a = some a := by
  unfold laws_toDisk.f
  simp only [toInodeS_eq hk a.2.2.1 ha, toLinkS_eq hk a.2.2.2.1 hb, toMoveS_eq hk a.2.2.2.2 hc, Option.bind_some, Prod.eta]

/-! a mark's text -/
theorem markText_some {k : Nat} (hk : 9223372036854775808 ≤ k) (n : Int) (h : n ≤ 4611686018427387904) : ∃ s, laws_markText.f k n = some s := by
  unfold laws_markText.f
  by_cases h0 : n ≤ 0
  · rw [decide_eq_true h0]; exact ⟨_, rfl⟩
  · rw [decide_eq_false h0, cond_false]
    obtain ⟨x, hx, hq⟩ := iter_some (B := laws_markText.b0 k) (fun s => 0 ≤ s.1 ∧ (s.2.2.size : Int) + s.1 ≤ 4611686018427387904) (fun s => s.1.toNat)
      (fun x => ∃ y, x = .inl y ∧ (y.2.size : Int) ≤ 4611686018427387904) (fun s hs => by
        obtain ⟨m, a, l⟩ := s
        dsimp only at hs ⊢
        unfold laws_markText.b0
        dsimp only
        by_cases h : 0 < m
        · have e : IntKind.wrap .i64 (Int.tdiv m 10) = m / 10 := by
            rw [Int.tdiv_eq_ediv_of_nonneg hs.1]
            exact wrap_i64 (by omega) (by omega)
          have hz : (strOfNums [IntKind.wrap .u8 (IntKind.wrap .i64 (48 + Int.tmod m 10))]).size = 1 := rfl
          rw [decide_eq_true h, cond_true, cat_ok (by rw [hz]; omega), e]
          refine .inl ⟨_, rfl, ⟨by dsimp only; omega, ?_⟩, by dsimp only; omega⟩
          dsimp only
          rw [ByteArray.size_append, hz]; omega
        · rw [decide_eq_false h, cond_false]
          exact .inr ⟨_, rfl, _, rfl, by dsimp only; omega⟩) k (n, ⟨#[]⟩, ⟨#[]⟩) ⟨by dsimp only; omega, by have : (⟨#[]⟩ : ByteArray).size = 0 := rfl; dsimp only; omega⟩ (by dsimp only; omega)
    obtain ⟨y, rfl, hy⟩ := hq
    rw [hx]
    simp only [Option.bind_some]
    unfold laws_markText.d0
    rw [cat_ok (by have : (⟨#[109]⟩ : ByteArray).size = 1 := rfl; omega)]
    exact ⟨_, rfl⟩
def mtx (k : Nat) (n : Int) : ByteArray := (laws_markText.f k n).getD ⟨#[]⟩
theorem mtx_eq {k : Nat} (hk : 9223372036854775808 ≤ k) {n : Int} (h : n ≤ 4611686018427387904) : laws_markText.f k n = some (mtx k n) := by
  obtain ⟨s, h⟩ := markText_some hk n h
  unfold mtx
  rw [h]; rfl

def mInodeS (k : Nat) (x : Int × ByteArray × Int) (n : Int) : Int × ByteArray × Int := (n, mtx k (n + 1), n + 1 + 1)
theorem laws_markInodeS_eq {k : Nat} (hk : 9223372036854775808 ≤ k) (l : List (Int × ByteArray × Int)) (n : Int) (h0 : 0 ≤ n) (h : n + 3 * l.length ≤ 1152921504606846976) :
    laws_markInodeS.f k l n = some (n + 3 * l.length, mkU (mInodeS k) 3 n l l.length) := by
  unfold laws_markInodeS.f
  have key := iter_upto (B := laws_markInodeS.b0 k) l.length (fun i => (mkU (mInodeS k) 3 n l i, n + 3 * i, (0 : Int), (i : Int))) (.inl (mkU (mInodeS k) 3 n l l.length, n + 3 * l.length, (0 : Int))) (fun i hi => by
    have hl := mkU_length (mInodeS k) 3 n l i
    have hg := mkU_at (mInodeS k) 3 n l hi
    rw [mkU_succ _ _ _ _ hi]
    obtain ⟨L, hL⟩ : ∃ L, mkU (mInodeS k) 3 n l i = L := ⟨_, rfl⟩
    rw [hL] at hl hg ⊢
    have hlt : i < L.length := by omega
    have e1 : decide ((i : Int) < (L.length : Int)) = true := by simp; omega
    have e2 : inb? L.length (i : Int) = some i := by rw [inb_ok (by omega) (by omega), Int.toNat_natCast]
    unfold laws_markInodeS.b0
    dsimp only
    simp (disch := omega) only [e1, cond_true, wrap_i64, mtx_eq hk, Option.bind_some, List.length_set, e2, hg, List.getElem?_set_self hlt, List.getElem?_set_self, List.set_set]
    simp [mInodeS]
    omega) (by
    have hl := mkU_length (mInodeS k) 3 n l l.length
    obtain ⟨L, hL⟩ : ∃ L, mkU (mInodeS k) 3 n l l.length = L := ⟨_, rfl⟩
    rw [hL] at hl ⊢
    have e1 : decide ((l.length : Int) < (L.length : Int)) = false := by simp; omega
    unfold laws_markInodeS.b0
    dsimp only
    rw [e1]; rfl) k (by omega)
  have e0 : ((0 : Nat) : Int) = 0 := rfl
  simp only [e0, mkU, Int.mul_zero, Int.add_zero] at key
  rw [key]
  rfl
theorem markInodeS_some {k : Nat} (hk : 9223372036854775808 ≤ k) (l : List (Int × ByteArray × Int)) (n : Int) (h0 : 0 ≤ n) (h1 : n ≤ 288230376151711744) (h : l.length ≤ 1099511627776) :
    ∃ n' l', laws_markInodeS.f k l n = some (n', l') ∧ 0 ≤ n' ∧ n' ≤ n + 109951162777600 :=
  ⟨_, _, laws_markInodeS_eq hk l n h0 (by omega), by omega, by omega⟩

def mLinkS (k : Nat) (x : ByteArray × Int) (n : Int) : ByteArray × Int := (mtx k (n), n + 1)
theorem laws_markLinkS_eq {k : Nat} (hk : 9223372036854775808 ≤ k) (l : List (ByteArray × Int)) (n : Int) (h0 : 0 ≤ n) (h : n + 2 * l.length ≤ 1152921504606846976) :
    laws_markLinkS.f k l n = some (n + 2 * l.length, mkU (mLinkS k) 2 n l l.length) := by
  unfold laws_markLinkS.f
  have key := iter_upto (B := laws_markLinkS.b0 k) l.length (fun i => (mkU (mLinkS k) 2 n l i, n + 2 * i, (0 : Int), (i : Int))) (.inl (mkU (mLinkS k) 2 n l l.length, n + 2 * l.length, (0 : Int))) (fun i hi => by
    have hl := mkU_length (mLinkS k) 2 n l i
    have hg := mkU_at (mLinkS k) 2 n l hi
    rw [mkU_succ _ _ _ _ hi]
    obtain ⟨L, hL⟩ : ∃ L, mkU (mLinkS k) 2 n l i = L := ⟨_, rfl⟩
    rw [hL] at hl hg ⊢
    have hlt : i < L.length := by omega
    have e1 : decide ((i : Int) < (L.length : Int)) = true := by simp; omega
    have e2 : inb? L.length (i : Int) = some i := by rw [inb_ok (by omega) (by omega), Int.toNat_natCast]
    unfold laws_markLinkS.b0
    dsimp only
    simp (disch := omega) only [e1, cond_true, wrap_i64, mtx_eq hk, Option.bind_some, List.length_set, e2, hg, List.getElem?_set_self hlt, List.getElem?_set_self, List.set_set]
    simp [mLinkS]
    omega) (by
    have hl := mkU_length (mLinkS k) 2 n l l.length
    obtain ⟨L, hL⟩ : ∃ L, mkU (mLinkS k) 2 n l l.length = L := ⟨_, rfl⟩
    rw [hL] at hl ⊢
    have e1 : decide ((l.length : Int) < (L.length : Int)) = false := by simp; omega
    unfold laws_markLinkS.b0
    dsimp only
    rw [e1]; rfl) k (by omega)
  have e0 : ((0 : Nat) : Int) = 0 := rfl
  simp only [e0, mkU, Int.mul_zero, Int.add_zero] at key
  rw [key]
  rfl
theorem markLinkS_some {k : Nat} (hk : 9223372036854775808 ≤ k) (l : List (ByteArray × Int)) (n : Int) (h0 : 0 ≤ n) (h1 : n ≤ 288230376151711744) (h : l.length ≤ 1099511627776) :
    ∃ n' l', laws_markLinkS.f k l n = some (n', l') ∧ 0 ≤ n' ∧ n' ≤ n + 109951162777600 :=
  ⟨_, _, laws_markLinkS_eq hk l n h0 (by omega), by omega, by omega⟩

def mMoveS (k : Nat) (x : Int × ByteArray × ByteArray × Int) (n : Int) : Int × ByteArray × ByteArray × Int := (n, mtx k (n + 1), mtx k (n + 1 + 1), n + 1 + 1 + 1)
theorem laws_markMoveS_eq {k : Nat} (hk : 9223372036854775808 ≤ k) (l : List (Int × ByteArray × ByteArray × Int)) (n : Int) (h0 : 0 ≤ n) (h : n + 4 * l.length ≤ 1152921504606846976) :
    laws_markMoveS.f k l n = some (n + 4 * l.length, mkU (mMoveS k) 4 n l l.length) := by
  unfold laws_markMoveS.f
  have key := iter_upto (B := laws_markMoveS.b0 k) l.length (fun i => (mkU (mMoveS k) 4 n l i, n + 4 * i, (0 : Int), (i : Int))) (.inl (mkU (mMoveS k) 4 n l l.length, n + 4 * l.length, (0 : Int))) (fun i hi => by
    have hl := mkU_length (mMoveS k) 4 n l i
    have hg := mkU_at (mMoveS k) 4 n l hi
    rw [mkU_succ _ _ _ _ hi]
    obtain ⟨L, hL⟩ : ∃ L, mkU (mMoveS k) 4 n l i = L := ⟨_, rfl⟩
    rw [hL] at hl hg ⊢
    have hlt : i < L.length := by omega
    have e1 : decide ((i : Int) < (L.length : Int)) = true := by simp; omega
    have e2 : inb? L.length (i : Int) = some i := by rw [inb_ok (by omega) (by omega), Int.toNat_natCast]
    unfold laws_markMoveS.b0
    dsimp only
    simp (disch := omega) only [e1, cond_true, wrap_i64, mtx_eq hk, Option.bind_some, List.length_set, e2, hg, List.getElem?_set_self hlt, List.getElem?_set_self, List.set_set]
    simp [mMoveS]
    omega) (by
    have hl := mkU_length (mMoveS k) 4 n l l.length
    obtain ⟨L, hL⟩ : ∃ L, mkU (mMoveS k) 4 n l l.length = L := ⟨_, rfl⟩
    rw [hL] at hl ⊢
    have e1 : decide ((l.length : Int) < (L.length : Int)) = false := by simp; omega
    unfold laws_markMoveS.b0
    dsimp only
    rw [e1]; rfl) k (by omega)
  have e0 : ((0 : Nat) : Int) = 0 := rfl
  simp only [e0, mkU, Int.mul_zero, Int.add_zero] at key
  rw [key]
  rfl
theorem markMoveS_some {k : Nat} (hk : 9223372036854775808 ≤ k) (l : List (Int × ByteArray × ByteArray × Int)) (n : Int) (h0 : 0 ≤ n) (h1 : n ≤ 288230376151711744) (h : l.length ≤ 1099511627776) :
    ∃ n' l', laws_markMoveS.f k l n = some (n', l') ∧ 0 ≤ n' ∧ n' ≤ n + 109951162777600 :=
  ⟨_, _, laws_markMoveS_eq hk l n h0 (by omega), by omega, by omega⟩

theorem markDisk_some {k : Nat} (hk : 9223372036854775808 ≤ k) (a : Int × Int × List (Int × ByteArray × Int) × List (ByteArray × Int) × List (Int × ByteArray × ByteArray × Int)) (n : Int) (h0 : 0 ≤ n) (h1 : n ≤ 277235259873951744) (ha : a.2.2.1.length ≤ 1099511627776) (hb : a.2.2.2.1.length ≤ 1099511627776) (hc : a.2.2.2.2.length ≤ 1099511627776) :
    ∃ n' l0 l1 l2, laws_markDisk.f k a n = some (n', (a.1, a.2.1, l0, l1, l2)) ∧ 0 ≤ n' ∧ n' ≤ n + 329853488332800 := by
  obtain ⟨n0, l0, p0, b0, c0⟩ := markInodeS_some hk a.2.2.1 n h0 (by omega) ha
  obtain ⟨n1, l1, p1, b1, c1⟩ := markLinkS_some hk a.2.2.2.1 n0 b0 (by omega) hb
  obtain ⟨n2, l2, p2, b2, c2⟩ := markMoveS_some hk a.2.2.2.2 n1 b1 (by omega) hc
  refine ⟨n2, l0, l1, l2, ?_, b2, by omega⟩
  unfold laws_markDisk.f
  simp only [p0, p1, p2, Option.bind_some, Prod.eta]

theorem eqEntry_self {k : Nat} (hk : 9223372036854775808 ≤ k) (a : Int × ByteArray) : laws_eqEntry.f k a a = some true := by
  unfold laws_eqEntry.f
  simp only [decide_true, Bool.not_true, cond_false, Option.bind_some, Prod.eta]

theorem eqEntryS_self {k : Nat} (hk : 9223372036854775808 ≤ k) (l : List (Int × ByteArray)) (h : l.length ≤ 9223372036854775807) : laws_eqEntryS.f k l l = some true := by
  unfold laws_eqEntryS.f
  have key := iter_upto (B := laws_eqEntryS.b0 k) l.length (fun i => (l, l, false, (i : Int))) (.inl false) (fun i hi => by
    have e1 : decide ((i : Int) < (l.length : Int)) = true := by simp; omega
    have e2 : inb? l.length (i : Int) = some i := by rw [inb_ok (by omega) (by omega), Int.toNat_natCast]
    unfold laws_eqEntryS.b0
    dsimp only
    simp (disch := omega) only [e1, cond_true, wrap_i64, Option.bind_some, e2, List.getElem?_eq_getElem hi, Prod.eta, eqEntry_self hk, decide_true, Bool.not_true, cond_false]
    simp) (by
    have e1 : decide ((l.length : Int) < (l.length : Int)) = false := by simp
    unfold laws_eqEntryS.b0
    dsimp only
    rw [e1]; rfl) k (by omega)
  have e0 : ((0 : Nat) : Int) = 0 := rfl
  simp only [e0] at key
  simp only [decide_true, Bool.not_true, cond_false, key, Option.bind_some]
  rfl

theorem eqWal_self {k : Nat} (hk : 9223372036854775808 ≤ k) (a : Int × Int × Int × Int × List (Int × ByteArray)) (ha : a.2.2.2.2.length ≤ 9223372036854775807) : laws_eqWal.f k a a = some true := by
  unfold laws_eqWal.f
  simp only [eqEntryS_self hk a.2.2.2.2 ha, decide_true, Bool.not_true, cond_false, Option.bind_some, Prod.eta]

theorem szEntry_sz {k : Nat} (hk : 9223372036854775808 ≤ k) (a : Int × ByteArray) (wa : a.2.size ≤ 9223372036854775807) (l : Int) (h0 : 0 ≤ l) (h1 : l ≤ 1048576) : Sz (laws_szEntry.f k a l) l (a.2.size) := by
  unfold laws_szEntry.f
  exact Sz.cast (n := (a.2.size) + (0)) (Sz.sub h0 h1 wa fun v0 p0 q0 => Sz.ret p0) (by omega)

theorem szEntryS_sz {k : Nat} (hk : 9223372036854775808 ≤ k) (a : List (Int × ByteArray)) (wa : a.length ≤ 9223372036854775807) (wb : ∀ x ∈ a, x.2.size ≤ 9223372036854775807) (l : Int) (h0 : 0 ≤ l) (h1 : l ≤ 1048576) : Sz (laws_szEntryS.f k a l) l (a.length + (a.map fun x => x.2.size).sum) := by
  unfold laws_szEntryS.f
  rw [wrap_i64 (by omega) (by omega)]
  by_cases hneg : l - (a.length : Int) < 0
  · rw [decide_eq_true hneg]; exact ⟨-1, rfl, .inl rfl⟩
  rw [decide_eq_false hneg, cond_false]
  have hi := sz_iter (xs := a) (A := fun x => x.2.size) (z := 0) (B := laws_szEntryS.b0 k) (fun i hi v h0 h1 => by
    have e1 : decide ((i : Int) < (a.length : Int)) = true := by simp; omega
    have e2 : inb? a.length (i : Int) = some i := by rw [inb_ok (by omega) (by omega), Int.toNat_natCast]
    obtain ⟨v', h2, h3⟩ := szEntry_sz hk a[i] (wb _ (List.getElem_mem hi)) v h0 h1
    unfold laws_szEntryS.b0
    dsimp only
    simp (disch := omega) only [e1, cond_true, wrap_i64, Option.bind_some, e2, List.getElem?_eq_getElem hi, Prod.eta, h2]
    rcases h3 with rfl | ⟨h3, h4⟩
    · exact .inl rfl
    · have e : decide (v' < 0) = false := by simp; omega
      rw [e]
      exact .inr ⟨v', h3, h4, rfl⟩) (fun v => by
    have e1 : decide ((a.length : Int) < (a.length : Int)) = false := by simp
    unfold laws_szEntryS.b0
    dsimp only
    rw [e1]; rfl) a.length 0 k (l - (a.length : Int)) (by omega) (by omega) (by omega) (by omega)
  have e0 : ((0 : Nat) : Int) = 0 := rfl
  rw [e0] at hi
  rcases hi with hi | ⟨v', h2, h3, h4⟩
  · rw [hi]; exact ⟨-1, rfl, .inl rfl⟩
  · rw [h4]
    rw [List.drop_zero] at h3
    exact ⟨v', rfl, .inr ⟨h2, by omega⟩⟩

theorem szWal_sz {k : Nat} (hk : 9223372036854775808 ≤ k) (a : Int × Int × Int × Int × List (Int × ByteArray)) (wa : a.2.2.2.2.length ≤ 9223372036854775807) (wb : ∀ x ∈ a.2.2.2.2, x.2.size ≤ 9223372036854775807) (l : Int) (h0 : 0 ≤ l) (h1 : l ≤ 1048576) : Sz (laws_szWal.f k a l) l (a.2.2.2.2.length + (a.2.2.2.2.map fun x => x.2.size).sum) := by
  unfold laws_szWal.f
  exact Sz.cast (n := (a.2.2.2.2.length + (a.2.2.2.2.map fun x => x.2.size).sum) + (0)) (Sz.bind (szEntryS_sz hk a.2.2.2.2 wa wb _ h0 h1) fun v0 p0 q0 => Sz.ret p0) (by omega)

theorem toEntry_eq {k : Nat} (hk : 9223372036854775808 ≤ k) (a : Int × ByteArray) : laws_toEntry.f k a = some a := by
  unfold laws_toEntry.f
  simp only [Option.bind_some, Prod.eta]

theorem toEntryS_eq {k : Nat} (hk : 9223372036854775808 ≤ k) (a : List (Int × ByteArray)) (h : a.length ≤ 1048576) : laws_toEntryS.f k a = some a := by
  unfold laws_toEntryS.f
  rw [mk_ok (by omega) (by unfold limOf; omega)]
  simp only [Option.bind_some, Int.toNat_natCast]
  obtain ⟨l1, hl1⟩ : ∃ l1, List.replicate a.length ((0 : Int), (⟨#[]⟩ : ByteArray)) = l1 := ⟨_, rfl⟩
  have hlen : l1.length = a.length := by rw [← hl1]; simp
  rw [hl1]
  have key := iter_upto (B := laws_toEntryS.b0 k) a.length (fun i => (a, [], cpU a l1 i, (i : Int))) (.inl ([], cpU a l1 a.length)) (fun i hi => by
    have hl := cpU_length a l1 i
    rw [cpU_succ a l1 hi]
    obtain ⟨L, hL⟩ : ∃ L, cpU a l1 i = L := ⟨_, rfl⟩
    rw [hL] at hl ⊢
    have hlt : i < L.length := by omega
    have e1 : decide ((i : Int) < (a.length : Int)) = true := by simp; omega
    have e2 : inb? a.length (i : Int) = some i := by rw [inb_ok (by omega) (by omega), Int.toNat_natCast]
    have e3 : inb? L.length (i : Int) = some i := by rw [inb_ok (by omega) (by omega), Int.toNat_natCast]
    unfold laws_toEntryS.b0
    dsimp only
    simp (disch := omega) only [e1, cond_true, wrap_i64, Option.bind_some, e2, e3, List.getElem?_eq_getElem hi, List.getElem?_eq_getElem hlt, Prod.eta, toEntry_eq hk]
    simp) (by
    have e1 : decide ((a.length : Int) < (a.length : Int)) = false := by simp
    unfold laws_toEntryS.b0
    dsimp only
    rw [e1]; rfl) k (by omega)
  have e0 : ((0 : Nat) : Int) = 0 := rfl
  simp only [e0, cpU] at key
  rw [key]
  simp only [Option.bind_some]
  unfold laws_toEntryS.d0
  simp only [cpU_all a l1 hlen]

theorem toWal_eq {k : Nat} (hk : 9223372036854775808 ≤ k) (a : Int × Int × Int × Int × List (Int × ByteArray)) (ha : a.2.2.2.2.length ≤ 1048576) : laws_toWal.f k a = some a := by
  unfold laws_toWal.f
  simp only [toEntryS_eq hk a.2.2.2.2 ha, Option.bind_some, Prod.eta]

def mEntryS (k : Nat) (x : Int × ByteArray) (n : Int) : Int × ByteArray := (n, mtx k (n + 1))
theorem laws_markEntryS_eq {k : Nat} (hk : 9223372036854775808 ≤ k) (l : List (Int × ByteArray)) (n : Int) (h0 : 0 ≤ n) (h : n + 2 * l.length ≤ 1152921504606846976) :
    laws_markEntryS.f k l n = some (n + 2 * l.length, mkU (mEntryS k) 2 n l l.length) := by
  unfold laws_markEntryS.f
  have key := iter_upto (B := laws_markEntryS.b0 k) l.length (fun i => (mkU (mEntryS k) 2 n l i, n + 2 * i, (0 : Int), (i : Int))) (.inl (mkU (mEntryS k) 2 n l l.length, n + 2 * l.length, (0 : Int))) (fun i hi => by
    have hl := mkU_length (mEntryS k) 2 n l i
    have hg := mkU_at (mEntryS k) 2 n l hi
    rw [mkU_succ _ _ _ _ hi]
    obtain ⟨L, hL⟩ : ∃ L, mkU (mEntryS k) 2 n l i = L := ⟨_, rfl⟩
    rw [hL] at hl hg ⊢
    have hlt : i < L.length := by omega
    have e1 : decide ((i : Int) < (L.length : Int)) = true := by simp; omega
    have e2 : inb? L.length (i : Int) = some i := by rw [inb_ok (by omega) (by omega), Int.toNat_natCast]
    unfold laws_markEntryS.b0
    dsimp only
    simp (disch := omega) only [e1, cond_true, wrap_i64, mtx_eq hk, Option.bind_some, List.length_set, e2, hg, List.getElem?_set_self hlt, List.getElem?_set_self, List.set_set]
    simp [mEntryS]
    omega) (by
    have hl := mkU_length (mEntryS k) 2 n l l.length
    obtain ⟨L, hL⟩ : ∃ L, mkU (mEntryS k) 2 n l l.length = L := ⟨_, rfl⟩
    rw [hL] at hl ⊢
    have e1 : decide ((l.length : Int) < (L.length : Int)) = false := by simp; omega
    unfold laws_markEntryS.b0
    dsimp only
    rw [e1]; rfl) k (by omega)
  have e0 : ((0 : Nat) : Int) = 0 := rfl
  simp only [e0, mkU, Int.mul_zero, Int.add_zero] at key
  rw [key]
  rfl
theorem markEntryS_some {k : Nat} (hk : 9223372036854775808 ≤ k) (l : List (Int × ByteArray)) (n : Int) (h0 : 0 ≤ n) (h1 : n ≤ 288230376151711744) (h : l.length ≤ 1099511627776) :
    ∃ n' l', laws_markEntryS.f k l n = some (n', l') ∧ 0 ≤ n' ∧ n' ≤ n + 109951162777600 :=
  ⟨_, _, laws_markEntryS_eq hk l n h0 (by omega), by omega, by omega⟩

theorem markWal_some {k : Nat} (hk : 9223372036854775808 ≤ k) (a : Int × Int × Int × Int × List (Int × ByteArray)) (n : Int) (h0 : 0 ≤ n) (h1 : n ≤ 277235259873951744) (ha : a.2.2.2.2.length ≤ 1099511627776) :
    ∃ n' l0, laws_markWal.f k a n = some (n', (a.1, a.2.1, a.2.2.1, a.2.2.2.1, l0)) ∧ 0 ≤ n' ∧ n' ≤ n + 109951162777600 := by
  obtain ⟨n0, l0, p0, b0, c0⟩ := markEntryS_some hk a.2.2.2.2 n h0 (by omega) ha
  refine ⟨n0, l0, ?_, b0, by omega⟩
  unfold laws_markWal.f
  simp only [p0, Option.bind_some, Prod.eta]

theorem eqStep_self {k : Nat} (hk : 9223372036854775808 ≤ k) (a : Int × ByteArray × ByteArray × ByteArray) : laws_eqStep.f k a a = some true := by
  unfold laws_eqStep.f
  simp only [decide_true, Bool.not_true, cond_false, Option.bind_some, Prod.eta]

theorem eqStepS_self {k : Nat} (hk : 9223372036854775808 ≤ k) (l : List (Int × ByteArray × ByteArray × ByteArray)) (h : l.length ≤ 9223372036854775807) : laws_eqStepS.f k l l = some true := by
  unfold laws_eqStepS.f
  have key := iter_upto (B := laws_eqStepS.b0 k) l.length (fun i => (l, l, false, (i : Int))) (.inl false) (fun i hi => by
    have e1 : decide ((i : Int) < (l.length : Int)) = true := by simp; omega
    have e2 : inb? l.length (i : Int) = some i := by rw [inb_ok (by omega) (by omega), Int.toNat_natCast]
    unfold laws_eqStepS.b0
    dsimp only
    simp (disch := omega) only [e1, cond_true, wrap_i64, Option.bind_some, e2, List.getElem?_eq_getElem hi, Prod.eta, eqStep_self hk, decide_true, Bool.not_true, cond_false]
    simp) (by
    have e1 : decide ((l.length : Int) < (l.length : Int)) = false := by simp
    unfold laws_eqStepS.b0
    dsimp only
    rw [e1]; rfl) k (by omega)
  have e0 : ((0 : Nat) : Int) = 0 := rfl
  simp only [e0] at key
  simp only [decide_true, Bool.not_true, cond_false, key, Option.bind_some]
  rfl

def mStepS (k : Nat) (x : Int × ByteArray × ByteArray × ByteArray) (n : Int) : Int × ByteArray × ByteArray × ByteArray := (n, mtx k (n + 1), mtx k (n + 1 + 1), mtx k (n + 1 + 1 + 1))
theorem laws_markStepS_eq {k : Nat} (hk : 9223372036854775808 ≤ k) (l : List (Int × ByteArray × ByteArray × ByteArray)) (n : Int) (h0 : 0 ≤ n) (h : n + 4 * l.length ≤ 1152921504606846976) :
    laws_markStepS.f k l n = some (n + 4 * l.length, mkU (mStepS k) 4 n l l.length) := by
  unfold laws_markStepS.f
  have key := iter_upto (B := laws_markStepS.b0 k) l.length (fun i => (mkU (mStepS k) 4 n l i, n + 4 * i, (0 : Int), (i : Int))) (.inl (mkU (mStepS k) 4 n l l.length, n + 4 * l.length, (0 : Int))) (fun i hi => by
    have hl := mkU_length (mStepS k) 4 n l i
    have hg := mkU_at (mStepS k) 4 n l hi
    rw [mkU_succ _ _ _ _ hi]
    obtain ⟨L, hL⟩ : ∃ L, mkU (mStepS k) 4 n l i = L := ⟨_, rfl⟩
    rw [hL] at hl hg ⊢
    have hlt : i < L.length := by omega
    have e1 : decide ((i : Int) < (L.length : Int)) = true := by simp; omega
    have e2 : inb? L.length (i : Int) = some i := by rw [inb_ok (by omega) (by omega), Int.toNat_natCast]
    unfold laws_markStepS.b0
    dsimp only
    simp (disch := omega) only [e1, cond_true, wrap_i64, mtx_eq hk, Option.bind_some, List.length_set, e2, hg, List.getElem?_set_self hlt, List.getElem?_set_self, List.set_set]
    simp [mStepS]
    omega) (by
    have hl := mkU_length (mStepS k) 4 n l l.length
    obtain ⟨L, hL⟩ : ∃ L, mkU (mStepS k) 4 n l l.length = L := ⟨_, rfl⟩
    rw [hL] at hl ⊢
    have e1 : decide ((l.length : Int) < (L.length : Int)) = false := by simp; omega
    unfold laws_markStepS.b0
    dsimp only
    rw [e1]; rfl) k (by omega)
  have e0 : ((0 : Nat) : Int) = 0 := rfl
  simp only [e0, mkU, Int.mul_zero, Int.add_zero] at key
  rw [key]
  rfl
theorem laws_heldStepS_eq {k : Nat} (hk : 9223372036854775808 ≤ k) (l : List (Int × ByteArray × ByteArray × ByteArray)) (n : Int) (h0 : 0 ≤ n) (h : n + 4 * l.length ≤ 1152921504606846976) :
    laws_heldStepS.f k (mkU (mStepS k) 4 n l l.length) n = some (n + 4 * l.length) := by
  unfold laws_heldStepS.f
  have hl := mkU_length (mStepS k) 4 n l l.length
  have hg := fun i (hi : i < l.length) => mkU_all (mStepS k) 4 n l hi
  obtain ⟨L, hL⟩ : ∃ L, mkU (mStepS k) 4 n l l.length = L := ⟨_, rfl⟩
  rw [hL] at hl ⊢
  rw [hL] at hg
  have key := iter_upto (B := laws_heldStepS.b0 k) l.length (fun i => (L, n + 4 * i, (0 : Int), (i : Int))) (.inl (n + 4 * l.length, (0 : Int))) (fun i hi => by
    have hg := hg i hi
    have e1 : decide ((i : Int) < (L.length : Int)) = true := by simp; omega
    have e2 : inb? L.length (i : Int) = some i := by rw [inb_ok (by omega) (by omega), Int.toNat_natCast]
    unfold laws_heldStepS.b0
    dsimp only
    simp (disch := omega) only [e1, cond_true, wrap_i64, mtx_eq hk, Option.bind_some, e2, hg]
    simp [mStepS]
    omega) (by
    have e1 : decide ((l.length : Int) < (L.length : Int)) = false := by simp; omega
    unfold laws_heldStepS.b0
    dsimp only
    rw [e1]; rfl) k (by omega)
  have e0 : ((0 : Nat) : Int) = 0 := rfl
  simp only [e0, Int.mul_zero, Int.add_zero] at key
  rw [key]
  rfl
theorem markStepS_held {k : Nat} (hk : 9223372036854775808 ≤ k) (l : List (Int × ByteArray × ByteArray × ByteArray)) (n : Int) (h0 : 0 ≤ n) (h1 : n ≤ 288230376151711744) (h : l.length ≤ 1099511627776) :
    ∃ n' l', laws_markStepS.f k l n = some (n', l') ∧ laws_heldStepS.f k l' n = some n' ∧ 0 ≤ n' ∧ n' ≤ n + 109951162777600 :=
  ⟨_, _, laws_markStepS_eq hk l n h0 (by omega), laws_heldStepS_eq hk l n h0 (by omega), by omega, by omega⟩

end Go.Proofs.YthgeebenbajknaaGreat.Rx
