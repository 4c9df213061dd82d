/- What the law's own functions do. No condition beside those that each theorem states. -/
import Derived.Test.YthiijllhonbjhaaDoorRxLoop
import Derived.Test.YthiijllhonbjhaaDoorRxFnsB
set_option linter.unusedVariables false
set_option linter.unusedSimpArgs false
namespace Go.Proofs.YthiijllhonbjhaaDoor.Rx
theorem eqVersion_self {k : Nat} (hk : 9223372036854775808 ≤ k) (a : ByteArray × ByteArray × Int) : laws_eqVersion.f k a a = some true := by
  unfold laws_eqVersion.f
  simp only [decide_true, Bool.not_true, cond_false, Option.bind_some, Prod.eta]

theorem eqVersionS_self {k : Nat} (hk : 9223372036854775808 ≤ k) (l : List (ByteArray × ByteArray × Int)) (h : l.length ≤ 9223372036854775807) : laws_eqVersionS.f k l l = some true := by
  unfold laws_eqVersionS.f
  have key := iter_upto (B := laws_eqVersionS.b0 k) l.length (fun i => (l, l, false, (i : Int))) (.inl false) (fun i hi => by
    have e1 : decide ((i : Int) < (l.length : Int)) = true := by simp; omega
    have e2 : inb? l.length (i : Int) = some i := by rw [inb_ok (by omega) (by omega), Int.toNat_natCast]
    unfold laws_eqVersionS.b0
    dsimp only
    simp (disch := omega) only [e1, cond_true, wrap_i64, Option.bind_some, e2, List.getElem?_eq_getElem hi, Prod.eta, eqVersion_self hk, decide_true, Bool.not_true, cond_false]
    simp) (by
    have e1 : decide ((l.length : Int) < (l.length : Int)) = false := by simp
    unfold laws_eqVersionS.b0
    dsimp only
    rw [e1]; rfl) k (by omega)
  have e0 : ((0 : Nat) : Int) = 0 := rfl
  simp only [e0] at key
  simp only [decide_true, Bool.not_true, cond_false, key, Option.bind_some]
  rfl

theorem eqIntS_self {k : Nat} (hk : 9223372036854775808 ≤ k) (l : List Int) (h : l.length ≤ 9223372036854775807) : laws_eqIntS.f k l l = some true := by
  unfold laws_eqIntS.f
  have key := iter_upto (B := laws_eqIntS.b0 k) l.length (fun i => (l, l, false, (i : Int))) (.inl false) (fun i hi => by
    have e1 : decide ((i : Int) < (l.length : Int)) = true := by simp; omega
    have e2 : inb? l.length (i : Int) = some i := by rw [inb_ok (by omega) (by omega), Int.toNat_natCast]
    unfold laws_eqIntS.b0
    dsimp only
    simp (disch := omega) only [e1, cond_true, wrap_i64, Option.bind_some, e2, List.getElem?_eq_getElem hi, Prod.eta, decide_true, Bool.not_true, cond_false]
    simp) (by
    have e1 : decide ((l.length : Int) < (l.length : Int)) = false := by simp
    unfold laws_eqIntS.b0
    dsimp only
    rw [e1]; rfl) k (by omega)
  have e0 : ((0 : Nat) : Int) = 0 := rfl
  simp only [e0] at key
  simp only [decide_true, Bool.not_true, cond_false, key, Option.bind_some]
  rfl

theorem eqAnswer_self {k : Nat} (hk : 9223372036854775808 ≤ k) (a : Int × Int × Int × ByteArray × Int × Int) : laws_eqAnswer.f k a a = some true := by
  unfold laws_eqAnswer.f
  simp only [decide_true, Bool.not_true, cond_false, Option.bind_some, Prod.eta]

theorem eqSession_self {k : Nat} (hk : 9223372036854775808 ≤ k) (a : Int × Int × Int × Int × Int × ByteArray × Int × Int) : laws_eqSession.f k a a = some true := by
  unfold laws_eqSession.f
  simp only [eqAnswer_self hk a.2.2, decide_true, Bool.not_true, cond_false, Option.bind_some, Prod.eta]

theorem eqSessionS_self {k : Nat} (hk : 9223372036854775808 ≤ k) (l : List (Int × Int × Int × Int × Int × ByteArray × Int × Int)) (h : l.length ≤ 9223372036854775807) : laws_eqSessionS.f k l l = some true := by
  unfold laws_eqSessionS.f
  have key := iter_upto (B := laws_eqSessionS.b0 k) l.length (fun i => (l, l, false, (i : Int))) (.inl false) (fun i hi => by
    have e1 : decide ((i : Int) < (l.length : Int)) = true := by simp; omega
    have e2 : inb? l.length (i : Int) = some i := by rw [inb_ok (by omega) (by omega), Int.toNat_natCast]
    unfold laws_eqSessionS.b0
    dsimp only
    simp (disch := omega) only [e1, cond_true, wrap_i64, Option.bind_some, e2, List.getElem?_eq_getElem hi, Prod.eta, eqSession_self hk, decide_true, Bool.not_true, cond_false]
    simp) (by
    have e1 : decide ((l.length : Int) < (l.length : Int)) = false := by simp
    unfold laws_eqSessionS.b0
    dsimp only
    rw [e1]; rfl) k (by omega)
  have e0 : ((0 : Nat) : Int) = 0 := rfl
  simp only [e0] at key
  simp only [decide_true, Bool.not_true, cond_false, key, Option.bind_some]
  rfl

theorem eqReg_self {k : Nat} (hk : 9223372036854775808 ≤ k) (a : List (ByteArray × ByteArray × Int) × List Int × List (Int × Int × Int × Int × Int × ByteArray × Int × Int)) (ha : a.1.length ≤ 9223372036854775807) (hb : a.2.1.length ≤ 9223372036854775807) (hc : a.2.2.length ≤ 9223372036854775807) : laws_eqReg.f k a a = some true := by
  unfold laws_eqReg.f
  simp only [eqVersionS_self hk a.1 ha, eqIntS_self hk a.2.1 hb, eqSessionS_self hk a.2.2 hc, decide_true, Bool.not_true, cond_false, Option.bind_some, Prod.eta]

theorem szVersion_sz {k : Nat} (hk : 9223372036854775808 ≤ k) (a : ByteArray × ByteArray × Int) (wa : a.1.size ≤ 9223372036854775807) (wb : a.2.1.size ≤ 9223372036854775807) (l : Int) (h0 : 0 ≤ l) (h1 : l ≤ 1048576) : Sz (laws_szVersion.f k a l) l (a.1.size + a.2.1.size) := by
  unfold laws_szVersion.f
  exact Sz.cast (n := (a.1.size) + ((a.2.1.size) + (0))) (Sz.sub h0 h1 wa fun v0 p0 q0 => Sz.sub p0 (by omega) wb fun v1 p1 q1 => Sz.ret p1) (by omega)

theorem szVersionS_sz {k : Nat} (hk : 9223372036854775808 ≤ k) (a : List (ByteArray × ByteArray × Int)) (wa : a.length ≤ 9223372036854775807) (wb : ∀ x ∈ a, x.1.size ≤ 9223372036854775807 ∧ x.2.1.size ≤ 9223372036854775807) (l : Int) (h0 : 0 ≤ l) (h1 : l ≤ 1048576) : Sz (laws_szVersionS.f k a l) l (a.length + (a.map fun x => x.1.size + x.2.1.size).sum) := by
  unfold laws_szVersionS.f
  rw [wrap_i64 (by omega) (by omega)]
  by_cases hneg : l - (a.length : Int) < 0
  · rw [decide_eq_true hneg]; exact ⟨-1, rfl, .inl rfl⟩
  rw [decide_eq_false hneg, cond_false]
  have hi := sz_iter (xs := a) (A := fun x => x.1.size + x.2.1.size) (z := 0) (B := laws_szVersionS.b0 k) (fun i hi v h0 h1 => by
    have e1 : decide ((i : Int) < (a.length : Int)) = true := by simp; omega
    have e2 : inb? a.length (i : Int) = some i := by rw [inb_ok (by omega) (by omega), Int.toNat_natCast]
    obtain ⟨v', h2, h3⟩ := szVersion_sz hk a[i] (wb _ (List.getElem_mem hi)).1 (wb _ (List.getElem_mem hi)).2 v h0 h1
    unfold laws_szVersionS.b0
    dsimp only
    simp (disch := omega) only [e1, cond_true, wrap_i64, Option.bind_some, e2, List.getElem?_eq_getElem hi, Prod.eta, h2]
    rcases h3 with rfl | ⟨h3, h4⟩
    · exact .inl rfl
    · have e : decide (v' < 0) = false := by simp; omega
      rw [e]
      exact .inr ⟨v', h3, h4, rfl⟩) (fun v => by
    have e1 : decide ((a.length : Int) < (a.length : Int)) = false := by simp
    unfold laws_szVersionS.b0
    dsimp only
    rw [e1]; rfl) a.length 0 k (l - (a.length : Int)) (by omega) (by omega) (by omega) (by omega)
  have e0 : ((0 : Nat) : Int) = 0 := rfl
  rw [e0] at hi
  rcases hi with hi | ⟨v', h2, h3, h4⟩
  · rw [hi]; exact ⟨-1, rfl, .inl rfl⟩
  · rw [h4]
    rw [List.drop_zero] at h3
    exact ⟨v', rfl, .inr ⟨h2, by omega⟩⟩

theorem szIntS_sz {k : Nat} (hk : 9223372036854775808 ≤ k) (a : List Int) (wa : a.length ≤ 9223372036854775807) (l : Int) (h0 : 0 ≤ l) (h1 : l ≤ 1048576) : Sz (laws_szIntS.f k a l) l (a.length) := by
  unfold laws_szIntS.f
  exact (Sz.sub h0 h1 wa fun v p q => Sz.ret p).cast (by omega)

theorem szAnswer_sz {k : Nat} (hk : 9223372036854775808 ≤ k) (a : Int × Int × Int × ByteArray × Int × Int) (wa : a.2.2.2.1.size ≤ 9223372036854775807) (l : Int) (h0 : 0 ≤ l) (h1 : l ≤ 1048576) : Sz (laws_szAnswer.f k a l) l (a.2.2.2.1.size) := by
  unfold laws_szAnswer.f
  exact Sz.cast (n := (a.2.2.2.1.size) + (0)) (Sz.sub h0 h1 wa fun v0 p0 q0 => Sz.ret p0) (by omega)

theorem szSession_sz {k : Nat} (hk : 9223372036854775808 ≤ k) (a : Int × Int × Int × Int × Int × ByteArray × Int × Int) (wa : a.2.2.2.2.2.1.size ≤ 9223372036854775807) (l : Int) (h0 : 0 ≤ l) (h1 : l ≤ 1048576) : Sz (laws_szSession.f k a l) l (a.2.2.2.2.2.1.size) := by
  unfold laws_szSession.f
  exact Sz.cast (n := (a.2.2.2.2.2.1.size) + (0)) (Sz.bind (szAnswer_sz hk a.2.2 wa _ h0 h1) fun v0 p0 q0 => Sz.ret p0) (by omega)

theorem szSessionS_sz {k : Nat} (hk : 9223372036854775808 ≤ k) (a : List (Int × Int × Int × Int × Int × ByteArray × Int × Int)) (wa : a.length ≤ 9223372036854775807) (wb : ∀ x ∈ a, x.2.2.2.2.2.1.size ≤ 9223372036854775807) (l : Int) (h0 : 0 ≤ l) (h1 : l ≤ 1048576) : Sz (laws_szSessionS.f k a l) l (a.length + (a.map fun x => x.2.2.2.2.2.1.size).sum) := by
  unfold laws_szSessionS.f
  rw [wrap_i64 (by omega) (by omega)]
  by_cases hneg : l - (a.length : Int) < 0
  · rw [decide_eq_true hneg]; exact ⟨-1, rfl, .inl rfl⟩
  rw [decide_eq_false hneg, cond_false]
  have hi := sz_iter (xs := a) (A := fun x => x.2.2.2.2.2.1.size) (z := 0) (B := laws_szSessionS.b0 k) (fun i hi v h0 h1 => by
    have e1 : decide ((i : Int) < (a.length : Int)) = true := by simp; omega
    have e2 : inb? a.length (i : Int) = some i := by rw [inb_ok (by omega) (by omega), Int.toNat_natCast]
    obtain ⟨v', h2, h3⟩ := szSession_sz hk a[i] (wb _ (List.getElem_mem hi)) v h0 h1
    unfold laws_szSessionS.b0
    dsimp only
    simp (disch := omega) only [e1, cond_true, wrap_i64, Option.bind_some, e2, List.getElem?_eq_getElem hi, Prod.eta, h2]
    rcases h3 with rfl | ⟨h3, h4⟩
    · exact .inl rfl
    · have e : decide (v' < 0) = false := by simp; omega
      rw [e]
      exact .inr ⟨v', h3, h4, rfl⟩) (fun v => by
    have e1 : decide ((a.length : Int) < (a.length : Int)) = false := by simp
    unfold laws_szSessionS.b0
    dsimp only
    rw [e1]; rfl) a.length 0 k (l - (a.length : Int)) (by omega) (by omega) (by omega) (by omega)
  have e0 : ((0 : Nat) : Int) = 0 := rfl
  rw [e0] at hi
  rcases hi with hi | ⟨v', h2, h3, h4⟩
  · rw [hi]; exact ⟨-1, rfl, .inl rfl⟩
  · rw [h4]
    rw [List.drop_zero] at h3
    exact ⟨v', rfl, .inr ⟨h2, by omega⟩⟩

theorem szReg_sz {k : Nat} (hk : 9223372036854775808 ≤ k) (a : List (ByteArray × ByteArray × Int) × List Int × List (Int × Int × Int × Int × Int × ByteArray × Int × Int)) (wa : a.1.length ≤ 9223372036854775807) (wb : ∀ x ∈ a.1, x.1.size ≤ 9223372036854775807 ∧ x.2.1.size ≤ 9223372036854775807) (wc : a.2.1.length ≤ 9223372036854775807) (wd : a.2.2.length ≤ 9223372036854775807) (we : ∀ x ∈ a.2.2, x.2.2.2.2.2.1.size ≤ 9223372036854775807) (l : Int) (h0 : 0 ≤ l) (h1 : l ≤ 1048576) : Sz (laws_szReg.f k a l) l (a.1.length + (a.1.map fun x => x.1.size + x.2.1.size).sum + a.2.1.length + a.2.2.length + (a.2.2.map fun x => x.2.2.2.2.2.1.size).sum) := by
  unfold laws_szReg.f
  exact Sz.cast (n := (a.1.length + (a.1.map fun x => x.1.size + x.2.1.size).sum) + ((a.2.1.length) + ((a.2.2.length + (a.2.2.map fun x => x.2.2.2.2.2.1.size).sum) + (0)))) (Sz.bind (szVersionS_sz hk a.1 wa wb _ h0 h1) fun v0 p0 q0 => Sz.bind (szIntS_sz hk a.2.1 wc _ p0 (by omega)) fun v1 p1 q1 => Sz.bind (szSessionS_sz hk a.2.2 wd we _ p1 (by omega)) fun v2 p2 q2 => Sz.ret p2) (by omega)

theorem toVersion_eq {k : Nat} (hk : 9223372036854775808 ≤ k) (a : ByteArray × ByteArray × Int) : laws_toVersion.f k a = some a := by
  unfold laws_toVersion.f
  simp only [Option.bind_some, Prod.eta]

theorem toVersionS_eq {k : Nat} (hk : 9223372036854775808 ≤ k) (a : List (ByteArray × ByteArray × Int)) (h : a.length ≤ 1048576) : laws_toVersionS.f k a = some a := by
  unfold laws_toVersionS.f
  rw [mk_ok (by omega) (by unfold limOf; omega)]
  simp only [Option.bind_some, Int.toNat_natCast]
  obtain ⟨l1, hl1⟩ : ∃ l1, List.replicate a.length ((⟨#[]⟩ : ByteArray), (⟨#[]⟩ : ByteArray), (0 : Int)) = l1 := ⟨_, rfl⟩
  have hlen : l1.length = a.length := by rw [← hl1]; simp
  rw [hl1]
  have key := iter_upto (B := laws_toVersionS.b0 k) a.length (fun i => (a, [], cpU a l1 i, (i : Int))) (.inl ([], cpU a l1 a.length)) (fun i hi => by
    have hl := cpU_length a l1 i
    rw [cpU_succ a l1 hi]
    obtain ⟨L, hL⟩ : ∃ L, cpU a l1 i = L := ⟨_, rfl⟩
    rw [hL] at hl ⊢
    have hlt : i < L.length := by omega
    have e1 : decide ((i : Int) < (a.length : Int)) = true := by simp; omega
    have e2 : inb? a.length (i : Int) = some i := by rw [inb_ok (by omega) (by omega), Int.toNat_natCast]
    have e3 : inb? L.length (i : Int) = some i := by rw [inb_ok (by omega) (by omega), Int.toNat_natCast]
    unfold laws_toVersionS.b0
    dsimp only
    simp (disch := omega) only [e1, cond_true, wrap_i64, Option.bind_some, e2, e3, List.getElem?_eq_getElem hi, List.getElem?_eq_getElem hlt, Prod.eta, toVersion_eq hk]
    simp) (by
    have e1 : decide ((a.length : Int) < (a.length : Int)) = false := by simp
    unfold laws_toVersionS.b0
    dsimp only
    rw [e1]; rfl) k (by omega)
  have e0 : ((0 : Nat) : Int) = 0 := rfl
  simp only [e0, cpU] at key
  rw [key]
  simp only [Option.bind_some]
  unfold laws_toVersionS.d0
  simp only [cpU_all a l1 hlen]

theorem toIntS_eq {k : Nat} (hk : 9223372036854775808 ≤ k) (a : List Int) (h : a.length ≤ 1048576) : laws_toIntS.f k a = some a := by
  unfold laws_toIntS.f
  rw [mk_ok (by omega) (by unfold limOf; omega)]
  simp only [Option.bind_some, Int.toNat_natCast]
  obtain ⟨l1, hl1⟩ : ∃ l1, List.replicate a.length (0 : Int) = l1 := ⟨_, rfl⟩
  have hlen : l1.length = a.length := by rw [← hl1]; simp
  rw [hl1]
  have key := iter_upto (B := laws_toIntS.b0 k) a.length (fun i => (a, [], cpU a l1 i, (i : Int))) (.inl ([], cpU a l1 a.length)) (fun i hi => by
    have hl := cpU_length a l1 i
    rw [cpU_succ a l1 hi]
    obtain ⟨L, hL⟩ : ∃ L, cpU a l1 i = L := ⟨_, rfl⟩
    rw [hL] at hl ⊢
    have hlt : i < L.length := by omega
    have e1 : decide ((i : Int) < (a.length : Int)) = true := by simp; omega
    have e2 : inb? a.length (i : Int) = some i := by rw [inb_ok (by omega) (by omega), Int.toNat_natCast]
    have e3 : inb? L.length (i : Int) = some i := by rw [inb_ok (by omega) (by omega), Int.toNat_natCast]
    unfold laws_toIntS.b0
    dsimp only
    simp (disch := omega) only [e1, cond_true, wrap_i64, Option.bind_some, e2, e3, List.getElem?_eq_getElem hi, List.getElem?_eq_getElem hlt, Prod.eta]
    simp) (by
    have e1 : decide ((a.length : Int) < (a.length : Int)) = false := by simp
    unfold laws_toIntS.b0
    dsimp only
    rw [e1]; rfl) k (by omega)
  have e0 : ((0 : Nat) : Int) = 0 := rfl
  simp only [e0, cpU] at key
  rw [key]
  simp only [Option.bind_some]
  unfold laws_toIntS.d0
  simp only [cpU_all a l1 hlen]

theorem toAnswer_eq {k : Nat} (hk : 9223372036854775808 ≤ k) (a : Int × Int × Int × ByteArray × Int × Int) : laws_toAnswer.f k a = some a := by
  unfold laws_toAnswer.f
  simp only [Option.bind_some, Prod.eta]

theorem toSession_eq {k : Nat} (hk : 9223372036854775808 ≤ k) (a : Int × Int × Int × Int × Int × ByteArray × Int × Int) : laws_toSession.f k a = some a := by
  unfold laws_toSession.f
  simp only [toAnswer_eq hk a.2.2, Option.bind_some, Prod.eta]

theorem toSessionS_eq {k : Nat} (hk : 9223372036854775808 ≤ k) (a : List (Int × Int × Int × Int × Int × ByteArray × Int × Int)) (h : a.length ≤ 1048576) : laws_toSessionS.f k a = some a := by
  unfold laws_toSessionS.f
  rw [mk_ok (by omega) (by unfold limOf; omega)]
  simp only [Option.bind_some, Int.toNat_natCast]
  obtain ⟨l1, hl1⟩ : ∃ l1, List.replicate a.length ((0 : Int), (0 : Int), (0 : Int), (0 : Int), (0 : Int), (⟨#[]⟩ : ByteArray), (0 : Int), (0 : Int)) = l1 := ⟨_, rfl⟩
  have hlen : l1.length = a.length := by rw [← hl1]; simp
  rw [hl1]
  have key := iter_upto (B := laws_toSessionS.b0 k) a.length (fun i => (a, [], cpU a l1 i, (i : Int))) (.inl ([], cpU a l1 a.length)) (fun i hi => by
    have hl := cpU_length a l1 i
    rw [cpU_succ a l1 hi]
    obtain ⟨L, hL⟩ : ∃ L, cpU a l1 i = L := ⟨_, rfl⟩
    rw [hL] at hl ⊢
    have hlt : i < L.length := by omega
    have e1 : decide ((i : Int) < (a.length : Int)) = true := by simp; omega
    have e2 : inb? a.length (i : Int) = some i := by rw [inb_ok (by omega) (by omega), Int.toNat_natCast]
    have e3 : inb? L.length (i : Int) = some i := by rw [inb_ok (by omega) (by omega), Int.toNat_natCast]
    unfold laws_toSessionS.b0
    dsimp only
    simp (disch := omega) only [e1, cond_true, wrap_i64, Option.bind_some, e2, e3, List.getElem?_eq_getElem hi, List.getElem?_eq_getElem hlt, Prod.eta, toSession_eq hk]
    simp) (by
    have e1 : decide ((a.length : Int) < (a.length : Int)) = false := by simp
    unfold laws_toSessionS.b0
    dsimp only
    rw [e1]; rfl) k (by omega)
  have e0 : ((0 : Nat) : Int) = 0 := rfl
  simp only [e0, cpU] at key
  rw [key]
  simp only [Option.bind_some]
  unfold laws_toSessionS.d0
  simp only [cpU_all a l1 hlen]

theorem toReg_eq {k : Nat} (hk : 9223372036854775808 ≤ k) (a : List (ByteArray × ByteArray × Int) × List Int × List (Int × Int × Int × Int × Int × ByteArray × Int × Int)) (ha : a.1.length ≤ 1048576) (hb : a.2.1.length ≤ 1048576) (hc : a.2.2.length ≤ 1048576) : laws_toReg.f k a = some a := by
  unfold laws_toReg.f
  simp only [toVersionS_eq hk a.1 ha, toIntS_eq hk a.2.1 hb, toSessionS_eq hk a.2.2 hc, Option.bind_some, Prod.eta]

/-! a mark's text -/
theorem markText_some {k : Nat} (hk : 9223372036854775808 ≤ k) (n : Int) (h : n ≤ 4611686018427387904) : ∃ s, laws_markText.f k n = some s := by
  unfold laws_markText.f
  by_cases h0 : n ≤ 0
  · rw [decide_eq_true h0]; exact ⟨_, rfl⟩
  · rw [decide_eq_false h0, cond_false]
    obtain ⟨x, hx, hq⟩ := iter_some (B := laws_markText.b0 k) (fun s => 0 ≤ s.1 ∧ (s.2.2.size : Int) + s.1 ≤ 4611686018427387904) (fun s => s.1.toNat)
      (fun x => ∃ y, x = .inl y ∧ (y.2.size : Int) ≤ 4611686018427387904) (fun s hs => by
        obtain ⟨m, a, l⟩ := s
        dsimp only at hs ⊢
        unfold laws_markText.b0
        dsimp only
        by_cases h : 0 < m
        · have e : IntKind.wrap .i64 (Int.tdiv m 10) = m / 10 := by
            rw [Int.tdiv_eq_ediv_of_nonneg hs.1]
            exact wrap_i64 (by omega) (by omega)
          have hz : (strOfNums [IntKind.wrap .u8 (IntKind.wrap .i64 (48 + Int.tmod m 10))]).size = 1 := rfl
          rw [decide_eq_true h, cond_true, cat_ok (by rw [hz]; omega), e]
          refine .inl ⟨_, rfl, ⟨by dsimp only; omega, ?_⟩, by dsimp only; omega⟩
          dsimp only
          rw [ByteArray.size_append, hz]; omega
        · rw [decide_eq_false h, cond_false]
          exact .inr ⟨_, rfl, _, rfl, by dsimp only; omega⟩) k (n, ⟨#[]⟩, ⟨#[]⟩) ⟨by dsimp only; omega, by have : (⟨#[]⟩ : ByteArray).size = 0 := rfl; dsimp only; omega⟩ (by dsimp only; omega)
    obtain ⟨y, rfl, hy⟩ := hq
    rw [hx]
    simp only [Option.bind_some]
    unfold laws_markText.d0
    rw [cat_ok (by have : (⟨#[109]⟩ : ByteArray).size = 1 := rfl; omega)]
    exact ⟨_, rfl⟩
def mtx (k : Nat) (n : Int) : ByteArray := (laws_markText.f k n).getD ⟨#[]⟩
theorem mtx_eq {k : Nat} (hk : 9223372036854775808 ≤ k) {n : Int} (h : n ≤ 4611686018427387904) : laws_markText.f k n = some (mtx k n) := by
  obtain ⟨s, h⟩ := markText_some hk n h
  unfold mtx
  rw [h]; rfl

def mVersionS (k : Nat) (x : ByteArray × ByteArray × Int) (n : Int) : ByteArray × ByteArray × Int := (mtx k (n), mtx k (n + 1), n + 1 + 1)
theorem laws_markVersionS_eq {k : Nat} (hk : 9223372036854775808 ≤ k) (l : List (ByteArray × ByteArray × Int)) (n : Int) (h0 : 0 ≤ n) (h : n + 3 * l.length ≤ 1152921504606846976) :
    laws_markVersionS.f k l n = some (n + 3 * l.length, mkU (mVersionS k) 3 n l l.length) := by
  unfold laws_markVersionS.f
  have key := iter_upto (B := laws_markVersionS.b0 k) l.length (fun i => (mkU (mVersionS k) 3 n l i, n + 3 * i, (0 : Int), (i : Int))) (.inl (mkU (mVersionS k) 3 n l l.length, n + 3 * l.length, (0 : Int))) (fun i hi => by
    have hl := mkU_length (mVersionS k) 3 n l i
    have hg := mkU_at (mVersionS k) 3 n l hi
    rw [mkU_succ _ _ _ _ hi]
    obtain ⟨L, hL⟩ : ∃ L, mkU (mVersionS k) 3 n l i = L := ⟨_, rfl⟩
    rw [hL] at hl hg ⊢
    have hlt : i < L.length := by omega
    have e1 : decide ((i : Int) < (L.length : Int)) = true := by simp; omega
    have e2 : inb? L.length (i : Int) = some i := by rw [inb_ok (by omega) (by omega), Int.toNat_natCast]
    unfold laws_markVersionS.b0
    dsimp only
    simp (disch := omega) only [e1, cond_true, wrap_i64, mtx_eq hk, Option.bind_some, List.length_set, e2, hg, List.getElem?_set_self hlt, List.getElem?_set_self, List.set_set]
    simp [mVersionS]
    omega) (by
    have hl := mkU_length (mVersionS k) 3 n l l.length
    obtain ⟨L, hL⟩ : ∃ L, mkU (mVersionS k) 3 n l l.length = L := ⟨_, rfl⟩
    rw [hL] at hl ⊢
    have e1 : decide ((l.length : Int) < (L.length : Int)) = false := by simp; omega
    unfold laws_markVersionS.b0
    dsimp only
    rw [e1]; rfl) k (by omega)
  have e0 : ((0 : Nat) : Int) = 0 := rfl
  simp only [e0, mkU, Int.mul_zero, Int.add_zero] at key
  rw [key]
  rfl
theorem laws_heldVersionS_eq {k : Nat} (hk : 9223372036854775808 ≤ k) (l : List (ByteArray × ByteArray × Int)) (n : Int) (h0 : 0 ≤ n) (h : n + 3 * l.length ≤ 1152921504606846976) :
    laws_heldVersionS.f k (mkU (mVersionS k) 3 n l l.length) n = some (n + 3 * l.length) := by
  unfold laws_heldVersionS.f
  have hl := mkU_length (mVersionS k) 3 n l l.length
  have hg := fun i (hi : i < l.length) => mkU_all (mVersionS k) 3 n l hi
  obtain ⟨L, hL⟩ : ∃ L, mkU (mVersionS k) 3 n l l.length = L := ⟨_, rfl⟩
  rw [hL] at hl ⊢
  rw [hL] at hg
  have key := iter_upto (B := laws_heldVersionS.b0 k) l.length (fun i => (L, n + 3 * i, (0 : Int), (i : Int))) (.inl (n + 3 * l.length, (0 : Int))) (fun i hi => by
    have hg := hg i hi
    have e1 : decide ((i : Int) < (L.length : Int)) = true := by simp; omega
    have e2 : inb? L.length (i : Int) = some i := by rw [inb_ok (by omega) (by omega), Int.toNat_natCast]
    unfold laws_heldVersionS.b0
    dsimp only
    simp (disch := omega) only [e1, cond_true, wrap_i64, mtx_eq hk, Option.bind_some, e2, hg]
    simp [mVersionS]
    omega) (by
    have e1 : decide ((l.length : Int) < (L.length : Int)) = false := by simp; omega
    unfold laws_heldVersionS.b0
    dsimp only
    rw [e1]; rfl) k (by omega)
  have e0 : ((0 : Nat) : Int) = 0 := rfl
  simp only [e0, Int.mul_zero, Int.add_zero] at key
  rw [key]
  rfl
theorem markVersionS_held {k : Nat} (hk : 9223372036854775808 ≤ k) (l : List (ByteArray × ByteArray × Int)) (n : Int) (h0 : 0 ≤ n) (h1 : n ≤ 288230376151711744) (h : l.length ≤ 1099511627776) :
    ∃ n' l', laws_markVersionS.f k l n = some (n', l') ∧ laws_heldVersionS.f k l' n = some n' ∧ 0 ≤ n' ∧ n' ≤ n + 109951162777600 :=
  ⟨_, _, laws_markVersionS_eq hk l n h0 (by omega), laws_heldVersionS_eq hk l n h0 (by omega), by omega, by omega⟩

def mIntS (k : Nat) (x : Int) (n : Int) : Int := n
theorem laws_markIntS_eq {k : Nat} (hk : 9223372036854775808 ≤ k) (l : List Int) (n : Int) (h0 : 0 ≤ n) (h : n + 1 * l.length ≤ 1152921504606846976) :
    laws_markIntS.f k l n = some (n + 1 * l.length, mkU (mIntS k) 1 n l l.length) := by
  unfold laws_markIntS.f
  have key := iter_upto (B := laws_markIntS.b0 k) l.length (fun i => (mkU (mIntS k) 1 n l i, n + 1 * i, (0 : Int), (i : Int))) (.inl (mkU (mIntS k) 1 n l l.length, n + 1 * l.length, (0 : Int))) (fun i hi => by
    have hl := mkU_length (mIntS k) 1 n l i
    have hg := mkU_at (mIntS k) 1 n l hi
    rw [mkU_succ _ _ _ _ hi]
    obtain ⟨L, hL⟩ : ∃ L, mkU (mIntS k) 1 n l i = L := ⟨_, rfl⟩
    rw [hL] at hl hg ⊢
    have hlt : i < L.length := by omega
    have e1 : decide ((i : Int) < (L.length : Int)) = true := by simp; omega
    have e2 : inb? L.length (i : Int) = some i := by rw [inb_ok (by omega) (by omega), Int.toNat_natCast]
    unfold laws_markIntS.b0
    dsimp only
    simp (disch := omega) only [e1, cond_true, wrap_i64, Option.bind_some, List.length_set, e2, hg, List.getElem?_set_self hlt, List.getElem?_set_self, List.set_set]
    simp [mIntS]
    omega) (by
    have hl := mkU_length (mIntS k) 1 n l l.length
    obtain ⟨L, hL⟩ : ∃ L, mkU (mIntS k) 1 n l l.length = L := ⟨_, rfl⟩
    rw [hL] at hl ⊢
    have e1 : decide ((l.length : Int) < (L.length : Int)) = false := by simp; omega
    unfold laws_markIntS.b0
    dsimp only
    rw [e1]; rfl) k (by omega)
  have e0 : ((0 : Nat) : Int) = 0 := rfl
  simp only [e0, mkU, Int.mul_zero, Int.add_zero] at key
  rw [key]
  rfl
theorem laws_heldIntS_eq {k : Nat} (hk : 9223372036854775808 ≤ k) (l : List Int) (n : Int) (h0 : 0 ≤ n) (h : n + 1 * l.length ≤ 1152921504606846976) :
    laws_heldIntS.f k (mkU (mIntS k) 1 n l l.length) n = some (n + 1 * l.length) := by
  unfold laws_heldIntS.f
  have hl := mkU_length (mIntS k) 1 n l l.length
  have hg := fun i (hi : i < l.length) => mkU_all (mIntS k) 1 n l hi
  obtain ⟨L, hL⟩ : ∃ L, mkU (mIntS k) 1 n l l.length = L := ⟨_, rfl⟩
  rw [hL] at hl ⊢
  rw [hL] at hg
  have key := iter_upto (B := laws_heldIntS.b0 k) l.length (fun i => (L, n + 1 * i, (0 : Int), (i : Int))) (.inl (n + 1 * l.length, (0 : Int))) (fun i hi => by
    have hg := hg i hi
    have e1 : decide ((i : Int) < (L.length : Int)) = true := by simp; omega
    have e2 : inb? L.length (i : Int) = some i := by rw [inb_ok (by omega) (by omega), Int.toNat_natCast]
    unfold laws_heldIntS.b0
    dsimp only
    simp (disch := omega) only [e1, cond_true, wrap_i64, Option.bind_some, e2, hg]
    simp [mIntS]
    omega) (by
    have e1 : decide ((l.length : Int) < (L.length : Int)) = false := by simp; omega
    unfold laws_heldIntS.b0
    dsimp only
    rw [e1]; rfl) k (by omega)
  have e0 : ((0 : Nat) : Int) = 0 := rfl
  simp only [e0, Int.mul_zero, Int.add_zero] at key
  rw [key]
  rfl
theorem markIntS_held {k : Nat} (hk : 9223372036854775808 ≤ k) (l : List Int) (n : Int) (h0 : 0 ≤ n) (h1 : n ≤ 288230376151711744) (h : l.length ≤ 1099511627776) :
    ∃ n' l', laws_markIntS.f k l n = some (n', l') ∧ laws_heldIntS.f k l' n = some n' ∧ 0 ≤ n' ∧ n' ≤ n + 109951162777600 :=
  ⟨_, _, laws_markIntS_eq hk l n h0 (by omega), laws_heldIntS_eq hk l n h0 (by omega), by omega, by omega⟩

def mSessionS (k : Nat) (x : Int × Int × Int × Int × Int × ByteArray × Int × Int) (n : Int) : Int × Int × Int × Int × Int × ByteArray × Int × Int := (n, n + 1, n + 1 + 1, n + 1 + 1 + 1, n + 1 + 1 + 1 + 1, mtx k (n + 1 + 1 + 1 + 1 + 1), n + 1 + 1 + 1 + 1 + 1 + 1, n + 1 + 1 + 1 + 1 + 1 + 1 + 1)
theorem laws_markSessionS_eq {k : Nat} (hk : 9223372036854775808 ≤ k) (l : List (Int × Int × Int × Int × Int × ByteArray × Int × Int)) (n : Int) (h0 : 0 ≤ n) (h : n + 8 * l.length ≤ 1152921504606846976) :
    laws_markSessionS.f k l n = some (n + 8 * l.length, mkU (mSessionS k) 8 n l l.length) := by
  unfold laws_markSessionS.f
  have key := iter_upto (B := laws_markSessionS.b0 k) l.length (fun i => (mkU (mSessionS k) 8 n l i, n + 8 * i, (0 : Int), (i : Int))) (.inl (mkU (mSessionS k) 8 n l l.length, n + 8 * l.length, (0 : Int))) (fun i hi => by
    have hl := mkU_length (mSessionS k) 8 n l i
    have hg := mkU_at (mSessionS k) 8 n l hi
    rw [mkU_succ _ _ _ _ hi]
    obtain ⟨L, hL⟩ : ∃ L, mkU (mSessionS k) 8 n l i = L := ⟨_, rfl⟩
    rw [hL] at hl hg ⊢
    have hlt : i < L.length := by omega
    have e1 : decide ((i : Int) < (L.length : Int)) = true := by simp; omega
    have e2 : inb? L.length (i : Int) = some i := by rw [inb_ok (by omega) (by omega), Int.toNat_natCast]
    unfold laws_markSessionS.b0
    dsimp only
    simp (disch := omega) only [e1, cond_true, wrap_i64, mtx_eq hk, Option.bind_some, List.length_set, e2, hg, List.getElem?_set_self hlt, List.getElem?_set_self, List.set_set]
    simp [mSessionS]
    omega) (by
    have hl := mkU_length (mSessionS k) 8 n l l.length
    obtain ⟨L, hL⟩ : ∃ L, mkU (mSessionS k) 8 n l l.length = L := ⟨_, rfl⟩
    rw [hL] at hl ⊢
    have e1 : decide ((l.length : Int) < (L.length : Int)) = false := by simp; omega
    unfold laws_markSessionS.b0
    dsimp only
    rw [e1]; rfl) k (by omega)
  have e0 : ((0 : Nat) : Int) = 0 := rfl
  simp only [e0, mkU, Int.mul_zero, Int.add_zero] at key
  rw [key]
  rfl
theorem laws_heldSessionS_eq {k : Nat} (hk : 9223372036854775808 ≤ k) (l : List (Int × Int × Int × Int × Int × ByteArray × Int × Int)) (n : Int) (h0 : 0 ≤ n) (h : n + 8 * l.length ≤ 1152921504606846976) :
    laws_heldSessionS.f k (mkU (mSessionS k) 8 n l l.length) n = some (n + 8 * l.length) := by
  unfold laws_heldSessionS.f
  have hl := mkU_length (mSessionS k) 8 n l l.length
  have hg := fun i (hi : i < l.length) => mkU_all (mSessionS k) 8 n l hi
  obtain ⟨L, hL⟩ : ∃ L, mkU (mSessionS k) 8 n l l.length = L := ⟨_, rfl⟩
  rw [hL] at hl ⊢
  rw [hL] at hg
  have key := iter_upto (B := laws_heldSessionS.b0 k) l.length (fun i => (L, n + 8 * i, (0 : Int), (i : Int))) (.inl (n + 8 * l.length, (0 : Int))) (fun i hi => by
    have hg := hg i hi
    have e1 : decide ((i : Int) < (L.length : Int)) = true := by simp; omega
    have e2 : inb? L.length (i : Int) = some i := by rw [inb_ok (by omega) (by omega), Int.toNat_natCast]
    unfold laws_heldSessionS.b0
    dsimp only
    simp (disch := omega) only [e1, cond_true, wrap_i64, mtx_eq hk, Option.bind_some, e2, hg]
    simp [mSessionS]
    omega) (by
    have e1 : decide ((l.length : Int) < (L.length : Int)) = false := by simp; omega
    unfold laws_heldSessionS.b0
    dsimp only
    rw [e1]; rfl) k (by omega)
  have e0 : ((0 : Nat) : Int) = 0 := rfl
  simp only [e0, Int.mul_zero, Int.add_zero] at key
  rw [key]
  rfl
theorem markSessionS_held {k : Nat} (hk : 9223372036854775808 ≤ k) (l : List (Int × Int × Int × Int × Int × ByteArray × Int × Int)) (n : Int) (h0 : 0 ≤ n) (h1 : n ≤ 288230376151711744) (h : l.length ≤ 1099511627776) :
    ∃ n' l', laws_markSessionS.f k l n = some (n', l') ∧ laws_heldSessionS.f k l' n = some n' ∧ 0 ≤ n' ∧ n' ≤ n + 109951162777600 :=
  ⟨_, _, laws_markSessionS_eq hk l n h0 (by omega), laws_heldSessionS_eq hk l n h0 (by omega), by omega, by omega⟩

theorem markReg_held {k : Nat} (hk : 9223372036854775808 ≤ k) (a : List (ByteArray × ByteArray × Int) × List Int × List (Int × Int × Int × Int × Int × ByteArray × Int × Int)) (n : Int) (h0 : 0 ≤ n) (h1 : n ≤ 277235259873951744) (ha : a.1.length ≤ 1099511627776) (hb : a.2.1.length ≤ 1099511627776) (hc : a.2.2.length ≤ 1099511627776) :
    ∃ n' l0 l1 l2, laws_markReg.f k a n = some (n', (l0, l1, l2)) ∧ laws_heldReg.f k (l0, l1, l2) n = some n' ∧ 0 ≤ n' ∧ n' ≤ n + 329853488332800 := by
  obtain ⟨n0, l0, p0, q0, b0, c0⟩ := markVersionS_held hk a.1 n h0 (by omega) ha
  obtain ⟨n1, l1, p1, q1, b1, c1⟩ := markIntS_held hk a.2.1 n0 b0 (by omega) hb
  obtain ⟨n2, l2, p2, q2, b2, c2⟩ := markSessionS_held hk a.2.2 n1 b1 (by omega) hc
  have d (x : Int) (hx : 0 ≤ x) : decide (x < 0) = false := by simp; omega
  refine ⟨n2, l0, l1, l2, ?_, ?_, b2, by omega⟩
  · unfold laws_markReg.f
    simp only [p0, p1, p2, Option.bind_some, Prod.eta]
  · unfold laws_heldReg.f
    simp only [q0, q1, q2, Option.bind_some, d _ b0, d _ b1, d _ b2, cond_false, Prod.eta]

end Go.Proofs.YthiijllhonbjhaaDoor.Rx
