/- The plain side of the laws: part 3. No condition beside those that each theorem states. -/
import Derived.Test.YtlloaipjkejkgaaRxTuTePlain2
set_option linter.unusedVariables false
set_option linter.unusedSimpArgs false
namespace Go.Proofs.Ytlloaipjkejkgaa.Rx.T
open Go.Proofs.Ytlloaipjkejkgaa.Rx Go.Proofs.Ytlloaipjkejkgaa.Rx.W Go.Proofs.Ytlloaipjkejkgaa.Rx.W2 Go.Proofs.Ytlloaipjkejkgaa.Rx.Y Go.Proofs.Ytlloaipjkejkgaa.Rx.V
open Go.Proofs.Ytlloaipjkejkgaa.Rx.M (MsgT EntT msgB msgS msgB_ents vr vr_eq numsT entsT specEnts2 implEnts2 implNums entsT_size specMsg implMsg)

/-! a message's text -/
def headM (k : Nat) (m : MsgT) : ByteArray := vr k m.1 ++ vr k m.2.1 ++ vr k m.2.2.1 ++ vr k m.2.2.2.1 ++ vr k m.2.2.2.2.1 ++ vr k m.2.2.2.2.2.1 ++ vr k m.2.2.2.2.2.2.1 ++ vr k (bif m.2.2.2.2.2.2.2.1 then 1 else 0) ++ vr k (m.2.2.2.2.2.2.2.2.1.length : Int)
def bodyM (k : Nat) (m : MsgT) : ByteArray := entsT k (headM k m) m.2.2.2.2.2.2.2.2.1 ++ m.2.2.2.2.2.2.2.2.2
def msgT (k : Nat) (m : MsgT) : ByteArray := if msgB k m = true then fx (crcV (bodyM k m)) ++ bodyM k m else ⟨#[]⟩
theorem showMsg_form {k : Nat} (hk : 9223372036854775808 ≤ k) (m : MsgT) (hs : msgS m) (hd : ∀ x ∈ m.2.2.2.2.2.2.2.2.1, x.2.size ≤ 1048576) : spec_ShowMsg.f k m = some (msgT k m) ∧ impl_ShowMsg.f k m = some (msgT k m) := by
  unfold spec_ShowMsg.f impl_ShowMsg.f
  simp only [Prod.eta, specMsg hk m hs, implMsg hk m hs, Option.bind_some]
  cases hB : msgB k m
  · unfold msgT; rw [hB]; exact ⟨rfl, rfl⟩
  have h4 := msgB_ents hB
  simp only [Bool.not_true, cond_false]
  obtain ⟨kind, frm, to, term, index, iterm, commit, yes, l, data⟩ := m
  obtain ⟨s1, s2⟩ := hs
  dsimp only at s1 s2 hd h4
  obtain ⟨a1, b1⟩ := vr_eq hk kind
  obtain ⟨a2, b2⟩ := vr_eq hk frm
  obtain ⟨a3, b3⟩ := vr_eq hk to
  obtain ⟨a4, b4⟩ := vr_eq hk term
  obtain ⟨a5, b5⟩ := vr_eq hk index
  obtain ⟨a6, b6⟩ := vr_eq hk iterm
  obtain ⟨a7, b7⟩ := vr_eq hk commit
  obtain ⟨a8, b8⟩ := vr_eq hk (bif yes then 1 else 0)
  obtain ⟨a9, b9⟩ := vr_eq hk (l.length : Int)
  have hyes : spec_l15Yes.f k yes = some (bif yes then 1 else 0) := by unfold spec_l15Yes.f; cases yes <;> rfl
  obtain ⟨T, hT⟩ : ∃ T, vr k kind ++ vr k frm ++ vr k to ++ vr k term ++ vr k index ++ vr k iterm ++ vr k commit ++ vr k (bif yes then 1 else 0) ++ vr k (l.length : Int) = T := ⟨_, rfl⟩
  have hTs : T.size ≤ 158329674399744 := by
    rw [← hT]
    simp only [ByteArray.size_append]
    omega
  have hE := specEnts2 hk ⟨#[]⟩ kind frm to term index iterm commit yes l data (by omega) hd l.length 0 k T (by omega) (by omega) (by omega)
  have hI := implEnts2 hk ⟨#[]⟩ (kind, frm, to, term, index, iterm, commit, yes, l, data) l (by omega) hd l.length 0 k T (by omega) (by omega) (by omega)
  have e0 : ((0 : Nat) : Int) = 0 := rfl
  rw [e0, List.drop_zero] at hE hI
  have hsz := entsT_size hk l T hd
  obtain ⟨U, hU⟩ : ∃ U, entsT k T l = U := ⟨_, rfl⟩
  rw [hU] at hE hI hsz
  have hUd : (U ++ data).size ≤ 4611686018427387904 := by rw [ByteArray.size_append]; omega
  obtain ⟨hc1, hc2, c0, c1⟩ := crc_val hk (U ++ data) hUd
  have hres : msgT k (kind, frm, to, term, index, iterm, commit, yes, l, data) = fx (crcV (U ++ data)) ++ (U ++ data) := by
    unfold msgT
    rw [if_pos hB]
    have e : bodyM k (kind, frm, to, term, index, iterm, commit, yes, l, data) = U ++ data := by
      unfold bodyM headM
      dsimp only
      rw [hT, hU]
    rw [e]
  rw [hres]
  unfold fx
  generalize crcV (U ++ data) = c at hc1 hc2 c0 c1 ⊢
  have hf : (strOfNums [c / 256 / 256 / 256 % 256, c / 256 / 256 % 256, c / 256 % 256, c % 256]).size = 4 := rfl
  refine ⟨?_, ?_⟩
  · simp only [a1, a2, a3, a4, a5, a6, a7, a8, a9, hyes, Option.bind_some]
    rw [cat_ok (a := vr k kind) (by omega)]
    simp only [Option.bind_some]
    rw [cat_ok (b := vr k to) (by simp only [ByteArray.size_append]; omega)]
    simp only [Option.bind_some]
    rw [cat_ok (b := vr k term) (by simp only [ByteArray.size_append]; omega)]
    simp only [Option.bind_some]
    rw [cat_ok (b := vr k index) (by simp only [ByteArray.size_append]; omega)]
    simp only [Option.bind_some]
    rw [cat_ok (b := vr k iterm) (by simp only [ByteArray.size_append]; omega)]
    simp only [Option.bind_some]
    rw [cat_ok (b := vr k commit) (by simp only [ByteArray.size_append]; omega)]
    simp only [Option.bind_some]
    rw [cat_ok (b := vr k (bif yes then 1 else 0)) (by simp only [ByteArray.size_append]; omega)]
    simp only [Option.bind_some]
    rw [cat_ok (b := vr k (l.length : Int)) (by simp only [ByteArray.size_append]; omega), hT]
    simp only [Option.bind_some]
    rw [hE]
    simp only [Option.bind_some]
    unfold spec_ShowMsg.d0
    dsimp only
    rw [cat_ok (a := U) (b := data) (by omega)]
    simp only [Option.bind_some, hc1, spec_fix4 hk c c0 c1]
    rw [cat_ok (by rw [hf]; omega)]
    rfl
  · have hN := implNums hk ⟨#[]⟩ (kind, frm, to, term, index, iterm, commit, yes, l, data) [kind, frm, to, term, index, iterm, commit, (bif yes then 1 else 0), (l.length : Int)] (by simp) 9 0 k ⟨#[]⟩ rfl (by omega) (by decide)
    have hNT : numsT k ⟨#[]⟩ [kind, frm, to, term, index, iterm, commit, (bif yes then 1 else 0), (l.length : Int)] = T := by
      rw [← hT]
      show (⟨#[]⟩ : ByteArray) ++ vr k kind ++ _ ++ _ ++ _ ++ _ ++ _ ++ _ ++ _ ++ _ = _
      rw [show (⟨#[]⟩ : ByteArray) ++ vr k kind = vr k kind from ByteArray.empty_append]
    rw [e0, List.drop_zero, hNT] at hN
    have main : impl_ShowMsg.c0 k (⟨#[]⟩, (bif yes then 1 else 0), kind, frm, to, term, index, iterm, commit, yes, l, data) = some (strOfNums [c / 256 / 256 / 256 % 256, c / 256 / 256 % 256, c / 256 % 256, c % 256] ++ (U ++ data)) := by
      unfold impl_ShowMsg.c0
      dsimp only
      rw [hN]
      simp only [Option.bind_some]
      unfold impl_ShowMsg.d0
      dsimp only
      rw [hI]
      simp only [Option.bind_some]
      unfold impl_ShowMsg.d1
      dsimp only
      rw [cat_ok (a := U) (b := data) (by omega)]
      simp only [Option.bind_some, hc2, impl_fix4 hk c c0 c1]
      rw [cat_ok (by rw [hf]; omega)]
      rfl
    cases yes
    · exact main
    · exact main

theorem MsgSz.msgS {m : MsgT} (h : MsgSz m) : msgS m := ⟨by have := h.1; omega, by have := h.2.2; omega⟩
theorem msgT_show {k : Nat} (hk : 9223372036854775808 ≤ k) {m : MsgT} (h : MsgSz m) : spec_ShowMsg.f k m = some (msgT k m) ∧ impl_ShowMsg.f k m = some (msgT k m) :=
  showMsg_form hk m h.msgS fun x hx => by have := h.2.1 x hx; omega

/-! one byte turned -/
def flip (s : ByteArray) (p : Nat) (x : Int) : ByteArray := s.extract 0 p ++ strOfNums [x] ++ s.extract (p + 1) s.size
theorem flip_size {s : ByteArray} {p : Nat} (hp : p < s.size) (x : Int) : (flip s p x).size = s.size := by
  unfold flip
  rw [ByteArray.size_append, ByteArray.size_append, size_ext s (by omega), size_ext s (by omega), size_strOfNums]
  simp; omega
theorem flip_at {s : ByteArray} {p : Nat} (hp : p < s.size) {x : Int} (h0 : 0 ≤ x) (h1 : x ≤ 255) (j : Nat) : byteAt (flip s p x) j = if j = p then x else byteAt s j := by
  by_cases hj : j < s.size
  · have z1 : (s.extract 0 p).size = p := by rw [size_ext s (by omega)]; omega
    have z2 : (strOfNums [x]).size = 1 := by rw [size_strOfNums]; rfl
    unfold flip
    by_cases h : j < p
    · rw [byteAt_app_l (by rw [ByteArray.size_append]; omega), byteAt_app_l (by omega), byteAt_ext s (by omega) (by omega), if_neg (by omega)]
      rw [Nat.zero_add]
    · by_cases h2 : j = p
      · subst h2
        rw [if_pos rfl, byteAt_app_l (by rw [ByteArray.size_append]; omega), byteAt_app_r (by omega) (by omega), z1, Nat.sub_self]
        exact byteAt_nums (i := 0) (by simp) h0 h1
      · have z3 : (s.extract (p + 1) s.size).size = s.size - (p + 1) := by rw [size_ext s (by omega)]
        rw [if_neg h2, byteAt_app_r (by rw [ByteArray.size_append]; omega) (by rw [ByteArray.size_append]; omega), ByteArray.size_append, z1, z2, byteAt_ext s (by omega) (by omega)]
        rw [show p + 1 + (j - (p + 1)) = j by omega]
  · have e : ∀ t : ByteArray, t.size = s.size → byteAt t j = 0 := fun t ht => by unfold byteAt; rw [dif_neg (by omega)]
    rw [e _ (flip_size hp x), e _ rfl, if_neg (by omega)]
theorem turned {a m : Int} (h0 : 0 ≤ a) (h1 : a ≤ 255) (g0 : 1 ≤ m) (g1 : m ≤ 255) : bits .xor .i64 a m ≠ a ∧ 0 ≤ bits .xor .i64 a m ∧ bits .xor .i64 a m ≤ 255 := by
  rw [bits_xor h0 (by omega) (by omega) (by omega)]
  have hlt : a.toNat ^^^ m.toNat < 2 ^ 8 := Nat.xor_lt_two_pow (by have : (2 : Nat) ^ 8 = 256 := rfl; omega) (by have : (2 : Nat) ^ 8 = 256 := rfl; omega)
  have p8 : (2 : Nat) ^ 8 = 256 := rfl
  refine ⟨fun e => ?_, by omega, by omega⟩
  have e2 : m.toNat ^^^ a.toNat = 0 ^^^ a.toNat := by rw [Nat.xor_comm, Nat.zero_xor]; omega
  have := xor_inj e2
  omega

theorem frameT_at {p : ByteArray} (h : 1 ≤ p.size ∧ p.size ≤ 2000) : (∀ i, i < 4 → byteAt (frameT p) i = byteAt (fx p.size) i) ∧ (∀ i, i < 4 → byteAt (frameT p) (4 + i) = byteAt (fx (crcV (fx p.size ++ p))) i) ∧ ∀ i, i < p.size → byteAt (frameT p) (8 + i) = byteAt p i := by
  unfold frameT
  rw [if_pos h]
  refine ⟨fun i hi => ?_, fun i hi => ?_, fun i hi => ?_⟩
  · rw [byteAt_app_l (by rw [ByteArray.size_append, fx_size, fx_size]; omega), byteAt_app_l (by rw [fx_size]; omega)]
  · rw [byteAt_app_l (by rw [ByteArray.size_append, fx_size, fx_size]; omega), byteAt_app_r (by rw [fx_size]; omega) (by rw [fx_size, fx_size]; omega), fx_size, Nat.add_sub_cancel_left]
  · rw [byteAt_app_r (by rw [ByteArray.size_append, fx_size, fx_size]; omega) (by rw [ByteArray.size_append, fx_size, fx_size]; omega), ByteArray.size_append, fx_size, fx_size, Nat.add_sub_cancel_left]

theorem fx_eq {n m : Int} (h0 : 0 ≤ n) (h1 : n < 4294967296) (g0 : 0 ≤ m) (g1 : m < 4294967296) (h : ∀ i, i < 4 → byteAt (fx n) i = byteAt (fx m) i) : n = m := by
  rw [← rv_fx h0 h1, rv_congr h, rv_fx g0 g1]
theorem crcV_ok {s : ByteArray} (h : s.size ≤ 4611686018427387904) : 0 ≤ crcV s ∧ crcV s < 4294967296 := (crc_val (k := 9223372036854775808) (Nat.le_refl _) s h).2.2

/-- a frame of which a byte behind its length is turned is no frame -/
theorem unF_flip {p : ByteArray} (h : 1 ≤ p.size ∧ p.size ≤ 2000) {i : Nat} (h4 : 4 ≤ i) (hi : i < 8 + p.size) {x : Int} (h0 : 0 ≤ x) (h1 : x ≤ 255) (hx : x ≠ byteAt (frameT p) i) : unF (flip (frameT p) i x) = (⟨#[]⟩, 0, 2) := by
  have hz := frameT_size h
  have hp : i < (frameT p).size := by omega
  have hsz := flip_size hp x
  have hat := flip_at hp h0 h1
  obtain ⟨a1, a2, a3⟩ := frameT_at h
  have hrv : rv (flip (frameT p) i x) = p.size := by
    rw [rv_congr (t := fx p.size) fun j hj => by rw [hat, if_neg (by omega), a1 j hj], rv_fx (by omega) (by omega)]
  unfold unF
  rw [hrv, if_neg (by omega), if_neg (by simp; omega), if_neg (by rw [hsz, hz]; omega), if_pos]
  intro e
  rw [show (8 + (p.size : Int).toNat) = (flip (frameT p) i x).size by rw [hsz, hz]; omega, show (flip (frameT p) i x).extract 0 (flip (frameT p) i x).size = flip (frameT p) i x from V.full_ext _] at e
  obtain ⟨q, hq⟩ : ∃ q, (flip (frameT p) i x).extract 8 (flip (frameT p) i x).size = q := ⟨_, rfl⟩
  rw [hq] at e
  have hqz : q.size = p.size := by rw [← hq, size_ext _ (Nat.le_refl _), hsz, hz]; omega
  have hqat : ∀ j, j < p.size → byteAt q j = byteAt (flip (frameT p) i x) (8 + j) := fun j hj => by rw [← hq, byteAt_ext _ (Nat.le_refl _) (by rw [hsz, hz]; omega)]
  obtain ⟨b1, b2, b3⟩ := frameT_at (p := q) (by omega)
  have hc1 := crcV_ok (s := fx q.size ++ q) (by rw [ByteArray.size_append, fx_size]; omega)
  have hc2 := crcV_ok (s := fx p.size ++ p) (by rw [ByteArray.size_append, fx_size]; omega)
  by_cases h8 : i < 8
  · have hqp : q = p := str_ext hqz fun j hj => by rw [hqat j (by omega), hat, if_neg (by omega), a3 j (by omega)]
    rw [hqp] at e
    have := congrArg (fun s => byteAt s i) e
    simp only [hat, if_pos] at this
    exact hx this.symm
  · have hcc : crcV (fx q.size ++ q) = crcV (fx p.size ++ p) := fx_eq hc1.1 hc1.2 hc2.1 hc2.2 fun j hj => by
      rw [← b2 j hj, ← a2 j hj, e, hat, if_neg (by omega)]
    refine crc_differ (s := fx q.size ++ q) (t := fx p.size ++ p) (by rw [ByteArray.size_append, ByteArray.size_append, fx_size, fx_size, hqz]) (m := i - 4) (by rw [ByteArray.size_append, fx_size]; omega) ?_ ?_ hcc
    · rw [byteAt_app_r (by rw [fx_size]; omega) (by rw [fx_size]; omega), byteAt_app_r (by rw [fx_size]; omega) (by rw [fx_size]; omega), fx_size, hqat _ (by omega), hat, show 8 + (i - 4 - 4) = i by omega, if_pos rfl]
      intro e2
      exact hx (by rw [e2, fx_size, ← a3 (i - 4 - 4) (by omega)]; rw [show 8 + (i - 4 - 4) = i by omega])
    · intro j hj
      rw [hqz]
      by_cases hj4 : j < 4
      · rw [byteAt_app_l (by rw [fx_size]; omega), byteAt_app_l (by rw [fx_size]; omega)]
      · by_cases hjz : j < 4 + p.size
        · rw [byteAt_app_r (by rw [fx_size]; omega) (by rw [fx_size]; omega), byteAt_app_r (by rw [fx_size]; omega) (by rw [fx_size]; omega), fx_size, hqat _ (by omega), hat, if_neg (by omega), a3 _ (by omega)]
        · have e : ∀ t : ByteArray, t.size = 4 + p.size → byteAt t j = 0 := fun t ht => by unfold byteAt; rw [dif_neg (by omega)]
          rw [e _ (by rw [ByteArray.size_append, fx_size]; omega), e _ (by rw [ByteArray.size_append, fx_size])]

/-- a message's text of which a byte is turned is none -/
theorem msg_flip {s : ByteArray} {b : ByteArray} (hs : s = fx (crcV b) ++ b) (hb : b.size ≤ 1048576) {i : Nat} (hi : i < s.size) {x : Int} (h0 : 0 ≤ x) (h1 : x ≤ 255) (hx : x ≠ byteAt s i) (c : ByteArray) (hc : c.size ≤ 1048576) : flip s i x ≠ fx (crcV c) ++ c := by
  intro e
  have hat := flip_at hi h0 h1
  have hsz := flip_size hi x
  have z : c.size = b.size := by
    have := congrArg ByteArray.size e
    rw [hsz, hs, ByteArray.size_append, ByteArray.size_append, fx_size, fx_size] at this
    omega
  have hsz2 : s.size = 4 + b.size := by rw [hs, ByteArray.size_append, fx_size]
  have hc1 := crcV_ok (s := c) (by omega)
  have hc2 := crcV_ok (s := b) (by omega)
  have s1 : ∀ j, j < 4 → byteAt s j = byteAt (fx (crcV b)) j := fun j hj => by rw [hs, byteAt_app_l (by rw [fx_size]; omega)]
  have s2 : ∀ j, j < b.size → byteAt s (4 + j) = byteAt b j := fun j hj => by rw [hs, byteAt_app_r (by rw [fx_size]; omega) (by rw [fx_size]; omega), fx_size, Nat.add_sub_cancel_left]
  have t1 : ∀ j, j < 4 → byteAt (flip s i x) j = byteAt (fx (crcV c)) j := fun j hj => by rw [e, byteAt_app_l (by rw [fx_size]; omega)]
  have t2 : ∀ j, j < b.size → byteAt (flip s i x) (4 + j) = byteAt c j := fun j hj => by rw [e, byteAt_app_r (by rw [fx_size]; omega) (by rw [fx_size]; omega), fx_size, Nat.add_sub_cancel_left]
  by_cases h4 : i < 4
  · have hcb : c = b := str_ext z fun j hj => by rw [← t2 j (by omega), hat, if_neg (by omega), s2 j (by omega)]
    rw [hcb, ← hs] at e
    have := congrArg (fun s => byteAt s i) e
    simp only [hat, if_pos] at this
    exact hx this
  · have hcc : crcV c = crcV b := fx_eq hc1.1 hc1.2 hc2.1 hc2.2 fun j hj => by rw [← t1 j hj, hat, if_neg (by omega), s1 j hj]
    refine crc_differ (s := c) (t := b) z (m := i - 4) (by omega) ?_ ?_ hcc
    · rw [← t2 _ (by omega), ← s2 _ (by omega), hat, show 4 + (i - 4) = i by omega, if_pos rfl]
      exact hx
    · intro j hj
      by_cases hjz : j < b.size
      · rw [← t2 _ hjz, ← s2 _ hjz, hat, if_neg (by omega)]
      · have e : ∀ t : ByteArray, t.size = b.size → byteAt t j = 0 := fun t ht => by unfold byteAt; rw [dif_neg (by omega)]
        rw [e _ z, e _ rfl]
end Go.Proofs.Ytlloaipjkejkgaa.Rx.T
namespace Go.Proofs.Ytlloaipjkejkgaa.Rx.T
open Go.Proofs.Ytlloaipjkejkgaa.Rx Go.Proofs.Ytlloaipjkejkgaa.Rx.W Go.Proofs.Ytlloaipjkejkgaa.Rx.W2 Go.Proofs.Ytlloaipjkejkgaa.Rx.Y Go.Proofs.Ytlloaipjkejkgaa.Rx.V
open Go.Proofs.Ytlloaipjkejkgaa.Rx.M (MsgT EntT msgB msgS msgB_ents vr vr_eq numsT entsT)
open Go.Proofs.Ytlloaipjkejkgaa.Rx.S (vv vv_eq vv_back num_tot many_tot text_tot)

/-- what a message that was read holds -/
def MsgBg (m : MsgT) : Prop := m.2.2.2.2.2.2.2.2.1.length ≤ 100 ∧ (∀ x ∈ m.2.2.2.2.2.2.2.2.1, x.2.size ≤ 1048576) ∧ m.2.2.2.2.2.2.2.2.2.size ≤ 1048576
theorem MsgBg.show {k : Nat} (hk : 9223372036854775808 ≤ k) {m : MsgT} (h : MsgBg m) : spec_ShowMsg.f k m = some (msgT k m) ∧ impl_ShowMsg.f k m = some (msgT k m) :=
  showMsg_form hk m ⟨by have := h.1; omega, h.2.2⟩ h.2.1
theorem MsgSz.bg {m : MsgT} (h : MsgSz m) (hl : m.2.2.2.2.2.2.2.2.1.length ≤ 100) : MsgBg m := ⟨hl, fun x hx => by have := h.2.1 x hx; omega, by have := h.2.2; omega⟩

theorem num_ok {k : Nat} (hk : 9223372036854775808 ≤ k) {N : Nat} (hN : N ≤ 1048576) {t : ByteArray × Bool} (ht : t.1.size ≤ N) : Ok (fun r : Int × ByteArray × Bool => r.2.1.size ≤ N) (impl_scan_num.f k t) := by
  obtain ⟨n, t', b', e, _, h⟩ := num_tot hk t.1 t.2 (by omega)
  exact ⟨_, e, by simp only; omega⟩

theorem cut4_ok {k : Nat} (t : ByteArray) : Ok (fun r : ByteArray × ByteArray × Bool => r.2.1.size ≤ t.size) (impl_scan_cut.f k (t, false) 4) := by
  rw [S.cut_eq k t false 4 (by omega)]
  refine Ok.ret ?_
  split
  · simp only; omega
  · split
    · simp only; omega
    · simp only [ByteArray.size_extract]; omega

theorem readMsg_ok {k : Nat} (hk : 9223372036854775808 ≤ k) (s : ByteArray) (hs : s.size ≤ 1048576) : Ok (fun r : MsgT × Bool => r.2 = true → s ≠ ⟨#[]⟩ ∧ MsgBg r.1 ∧ msgT k r.1 = s) (impl_ReadMsg.f k s) := by
  unfold impl_ReadMsg.f
  refine Ok.bind (cut4_ok s) fun r1 h1 => ?_
  refine Ok.bind (num_ok hk hs h1) fun r2 h2 => ?_
  refine Ok.bind (num_ok hk hs h2) fun r3 h3 => ?_
  refine Ok.bind (num_ok hk hs h3) fun r4 h4 => ?_
  refine Ok.bind (num_ok hk hs h4) fun r5 h5 => ?_
  refine Ok.bind (num_ok hk hs h5) fun r6 h6 => ?_
  refine Ok.bind (num_ok hk hs h6) fun r7 h7 => ?_
  refine Ok.bind (num_ok hk hs h7) fun r8 h8 => ?_
  refine Ok.bind (num_ok hk hs h8) fun r9 h9 => ?_
  obtain ⟨n, t', b', e, hn, ht⟩ := many_tot hk r9.2.1 r9.2.2 (by omega) 4
  rw [show (((4 : Nat) : Int)) = 4 from rfl] at e
  rw [show r9.2 = (r9.2.1, r9.2.2) from rfl, e]
  simp only [Option.bind_some]
  have key := Ok.iter (B := impl_ReadMsg.b0 k) (fun x => x.1 = s ∧ 0 ≤ x.2.2.2.1 ∧ x.2.2.1 = (n : Int) ∧ x.2.2.2.1 ≤ (n : Int) ∧ (x.2.2.2.2.2.2.2.2.2.2.2.2.2.2.1.length : Int) ≤ x.2.2.2.1 ∧ x.2.2.2.2.2.1.1.size ≤ s.size ∧ ∀ y ∈ x.2.2.2.2.2.2.2.2.2.2.2.2.2.2.1, y.2.size ≤ 1048576) (fun x => ((n : Int) - x.2.2.2.1).toNat)
    (fun x => ∃ y, x = .inl y ∧ y.1 = s ∧ y.2.2.2.2.2.2.2.2.2.2.2.2.1.length ≤ 100 ∧ y.2.2.2.1.1.size ≤ s.size ∧ ∀ z ∈ y.2.2.2.2.2.2.2.2.2.2.2.2.1, z.2.size ≤ 1048576) (fun x hx => by
      obtain ⟨s0, z, n0, i, zz, ⟨t, bad⟩, y1, y2, y3, y4, y5, y6, y7, y8, es, data⟩ := x
      dsimp only at hx
      obtain ⟨rfl, i0, rfl, i1, hl, hz, he⟩ := hx
      unfold impl_ReadMsg.b0
      dsimp only
      refine Ok.cond (fun hc => ?_) (fun hc => ?_)
      · have hc := of_decide_eq_true hc
        refine Ok.bind (num_ok hk hs hz) fun q hq => ?_
        obtain ⟨x, u, b, e, hx, hu⟩ := text_tot hk q.2.1 q.2.2 (by omega)
        rw [show q.2 = (q.2.1, q.2.2) from rfl, e]
        simp only [Option.bind_some]
        rw [app_ok (by simp [limOf]; omega)]
        simp only [Option.bind_some]
        rw [wrap_i64 (by omega) (by omega)]
        refine Ok.ret ⟨⟨rfl, by simp only; omega, rfl, by simp only; omega, by simp only [List.length_append, List.length_cons, List.length_nil]; omega, by simp only; omega, fun y hy => ?_⟩, by simp only; omega⟩
        rcases List.mem_append.1 hy with hy | hy
        · exact he y hy
        · simp only [List.mem_singleton] at hy; subst hy; simp only; omega
      · exact Ok.ret ⟨_, rfl, rfl, by simp only; omega, hz, he⟩) (k := k) (s := (s, false, (n : Int), 0, (0, 0, 0, 0, 0, 0, 0, false, [], (⟨#[]⟩ : ByteArray)), (t', b'), r2.1, r3.1, r4.1, r5.1, r6.1, r7.1, r8.1, (decide (r9.1 = 1)), [], (⟨#[]⟩ : ByteArray)))
    ⟨rfl, by simp, rfl, by simp, by simp, by simp only; omega, by simp⟩ (by simp only; omega)
  refine Ok.bind key ?_
  rintro _ ⟨y, rfl, rfl, l1, l2, l3⟩
  obtain ⟨s, z, zz, ⟨t, bad⟩, y1, y2, y3, y4, y5, y6, y7, y8, es, data⟩ := y
  dsimp only at l1 l2 l3 hs
  show Ok _ (impl_ReadMsg.d0 k _)
  unfold impl_ReadMsg.d0
  dsimp only
  refine Ok.cond (fun _ => Ok.ret (by simp)) (fun hb => ?_)
  refine Ok.cond (fun _ => Ok.ret (by simp)) (fun hne => ?_)
  have hm : MsgBg (y1, y2, y3, y4, y5, y6, y7, y8, es, t) := ⟨l1, l3, by simp only; omega⟩
  rw [(hm.show hk).2]
  simp only [Option.bind_some]
  refine Ok.cond (fun _ => Ok.ret (by simp)) (fun heq => Ok.ret fun _ => ⟨of_decide_eq_false hne, hm, ?_⟩)
  simpa using heq

theorem vr_le {k : Nat} (hk : 9223372036854775808 ≤ k) (n : Int) : (vr k n).size ≤ 7 := by
  unfold vr
  by_cases h : 0 ≤ n ∧ n ≤ 562949953421311
  · obtain ⟨v, e, _, h7, _⟩ := var_back hk h.1 h.2
    rw [e]; exact h7
  · have e : spec_Var.f k n = some ⟨#[]⟩ := by
      unfold spec_Var.f
      rw [V.l1]
      have : (decide (0 ≤ n) && decide (n ≤ 562949953421311)) = false := by
        by_cases h1 : 0 ≤ n
        · have : ¬ n ≤ 562949953421311 := fun h2 => h ⟨h1, h2⟩
          simp [this]
        · simp [h1]
      simp only [Option.bind_some, this]
      rfl
    rw [e]; decide
theorem entsT_le {k : Nat} (hk : 9223372036854775808 ≤ k) {N : Nat} : ∀ (l : List EntT) (o : ByteArray), (∀ x ∈ l, x.2.size ≤ N) → (entsT k o l).size ≤ o.size + l.length * (14 + N)
  | [], o, _ => by simp [entsT]
  | x :: l, o, h => by
    have ih := entsT_le hk l (o ++ vr k x.1 ++ vr k (x.2.size : Int) ++ x.2) fun y hy => h y (List.mem_cons_of_mem _ hy)
    have h1 := vr_le hk x.1
    have h2 := vr_le hk (x.2.size : Int)
    have h3 := h x (List.mem_cons_self ..)
    show (entsT k (o ++ vr k x.1 ++ vr k (x.2.size : Int) ++ x.2) l).size ≤ _
    simp only [ByteArray.size_append] at ih
    rw [List.length_cons, Nat.add_mul]
    omega
theorem headM_le {k : Nat} (hk : 9223372036854775808 ≤ k) (m : MsgT) : (headM k m).size ≤ 63 := by
  unfold headM
  simp only [ByteArray.size_append]
  have h1 := vr_le hk m.1
  have h2 := vr_le hk m.2.1
  have h3 := vr_le hk m.2.2.1
  have h4 := vr_le hk m.2.2.2.1
  have h5 := vr_le hk m.2.2.2.2.1
  have h6 := vr_le hk m.2.2.2.2.2.1
  have h7 := vr_le hk m.2.2.2.2.2.2.1
  have h8 := vr_le hk (bif m.2.2.2.2.2.2.2.1 then 1 else 0)
  have h9 := vr_le hk (m.2.2.2.2.2.2.2.2.1.length : Int)
  omega
theorem bodyM_le {k : Nat} (hk : 9223372036854775808 ≤ k) {m : MsgT} (h : MsgSz m) : (bodyM k m).size ≤ 200000 := by
  unfold bodyM
  have h1 := entsT_le hk (N := 1000) m.2.2.2.2.2.2.2.2.1 (headM k m) h.2.1
  have h2 := headM_le hk m
  have h3 := h.1
  have h4 := h.2.2
  have h5 : m.2.2.2.2.2.2.2.2.1.length * (14 + 1000) ≤ 101 * 1014 := Nat.mul_le_mul h3 (by omega)
  rw [ByteArray.size_append]
  omega
theorem msgT_le {k : Nat} (hk : 9223372036854775808 ≤ k) {m : MsgT} (h : MsgSz m) : (msgT k m).size ≤ 200004 := by
  unfold msgT
  split
  · rw [ByteArray.size_append, fx_size]; have := bodyM_le hk h; omega
  · show (0 : Nat) ≤ _; omega

theorem at_ok {k : Nat} {b : List Int} (hb : b.length ≤ 1048576) (h : ∀ x ∈ b, 0 ≤ x ∧ x ≤ 255) (i : Int) (h0 : 0 ≤ i) (h1 : i ≤ 100) : ∃ v, laws_at.f k b i = some v ∧ 0 ≤ v ∧ v ≤ 255 := by
  unfold laws_at.f
  by_cases hi : i < (b.length : Int)
  · have hlt : i.toNat < b.length := by omega
    rw [decide_eq_true hi, inb_ok h0 hi]
    simp only [cond_true, Option.bind_some, List.getElem?_eq_getElem hlt]
    have := h _ (List.getElem_mem hlt)
    rw [wrap_i64 (by omega) (by omega)]
    exact ⟨_, rfl, this⟩
  · rw [decide_eq_false hi]
    simp only [cond_false]
    refine ⟨_, rfl, ?_⟩
    rw [wrap_i64 (n := i * 37) (by omega) (by omega), wrap_i64 (n := (b.length : Int) * 11) (by omega) (by omega), wrap_i64 (by omega) (by omega)]
    rw [Int.tmod_eq_emod_of_nonneg (by omega)]
    omega

/-- turning a byte, as the law does it -/
theorem turn_at (s : ByteArray) (hs : s.size ≤ 1048576) (p : Int) (p0 : 0 ≤ p) (p1 : p < s.size) (m : Int) (m0 : 0 ≤ m) (m1 : m ≤ 255) :
    ∃ x, 0 ≤ x ∧ x ≤ 255 ∧ x ≠ byteAt s p.toNat ∧ ∀ F : ByteArray → Option Bool, ((cut? s.size 0 p).bind fun p7 => (inb? s.size p).bind fun j8 => (cat? (s.extract p7.1 p7.2) (strOfNums ([IntKind.wrap .u8 (bits .xor .i64 (IntKind.wrap .i64 (byteAt s j8)) (IntKind.wrap .i64 (1 + (Int.tmod m 255))))]))).bind fun s10 => (cut? s.size (IntKind.wrap .i64 (p + 1)) s.size).bind fun p11 => (cat? s10 (s.extract p11.1 p11.2)).bind F) = F (flip s p.toNat x) := by
  have b0 := byteAt_ge s p.toNat
  have b1 := byteAt_le s p.toNat
  have e1 : IntKind.wrap .i64 (1 + Int.tmod m 255) = 1 + m % 255 := by rw [Int.tmod_eq_emod_of_nonneg m0]; exact wrap_i64 (by omega) (by omega)
  obtain ⟨t1, t2, t3⟩ := turned (a := byteAt s p.toNat) (m := 1 + m % 255) b0 b1 (by omega) (by omega)
  refine ⟨bits .xor .i64 (byteAt s p.toNat) (1 + m % 255), t2, t3, t1, fun F => ?_⟩
  rw [cut_ok (by omega) (by omega) (by omega), inb_ok p0 (by omega)]
  simp only [Option.bind_some]
  rw [e1, wrap_i64 (n := byteAt s p.toNat) (by omega) (by omega), wrap_u8 t2 t3]
  have z1 : (s.extract 0 p.toNat).size = p.toNat := by rw [size_ext s (by omega)]; omega
  rw [show (0 : Int).toNat = 0 from rfl, cat_ok (by rw [V.size_strOfNums]; simp; omega)]
  simp only [Option.bind_some]
  rw [wrap_i64 (by omega) (by omega), cut_ok (by omega) (by omega) (by omega)]
  simp only [Option.bind_some]
  rw [show (p + 1).toNat = p.toNat + 1 by omega, show ((s.size : Nat) : Int).toNat = s.size from rfl]
  have z2 : (s.extract (p.toNat + 1) s.size).size = s.size - (p.toNat + 1) := by rw [size_ext s (by omega)]
  rw [cat_ok (by rw [ByteArray.size_append, V.size_strOfNums]; simp; omega)]
  rfl

theorem law_Turned (b : List Int) (hw : WfT (.sl 5 (.int .u8)) b) : ∃ k, laws_FnTurned.f k b = some true := by
  refine ⟨9223372036854775808, ?_⟩
  obtain ⟨k, hkk⟩ : ∃ k : Nat, k = 9223372036854775808 := ⟨_, rfl⟩
  rw [← hkk]
  have hk : 9223372036854775808 ≤ k := by omega
  unfold laws_FnTurned.f laws_big.f
  simp only [Option.bind_some]
  by_cases hb : 1048576 < (b.length : Int)
  · rw [decide_eq_true hb]; rfl
  rw [decide_eq_false hb]
  have hb : b.length ≤ 1048576 := by omega
  have hx : ∀ x ∈ b, 0 ≤ x ∧ x ≤ 255 := fun x hx => by
    have := hw.2 x hx
    exact ⟨by have := this.1; simpa [IntKind.min, IntKind.signed] using this, by have := this.2; simpa [IntKind.max, IntKind.signed, IntKind.bits] using this⟩
  simp only [cond_false]
  obtain ⟨h, eh, hh⟩ : Ok (fun h : ByteArray => h.size ≤ 40) (spec_DrawHex.f k b) := by
    unfold spec_DrawHex.f
    refine Ok.bind (dNew hk hb) fun c hc => ?_
    draw
    exact Ok.ret (by omega)
  rw [eh]
  simp only [Option.bind_some]
  have z1 : (⟨#[121]⟩ : ByteArray).size = 1 := rfl
  rw [cat_ok (by omega)]
  simp only [Option.bind_some]
  obtain ⟨s3, hs3⟩ : ∃ s3, (⟨#[121]⟩ : ByteArray) ++ h = s3 := ⟨_, rfl⟩
  have hz3 : 1 ≤ s3.size ∧ s3.size ≤ 2000 := by rw [← hs3, ByteArray.size_append]; omega
  rw [hs3, impl_frame hk]
  simp only [Option.bind_some]
  have hzf := frameT_size hz3
  rw [decide_eq_false (show ¬ (((frameT s3).size : Int) < 9) by omega)]
  simp only [cond_false]
  obtain ⟨a0, e0, a01, a02⟩ := at_ok (k := k) hb hx 0 (by omega) (by omega)
  obtain ⟨a1, e1, a11, a12⟩ := at_ok (k := k) hb hx 1 (by omega) (by omega)
  obtain ⟨a2, e2, a21, a22⟩ := at_ok (k := k) hb hx 2 (by omega) (by omega)
  obtain ⟨a3, e3, a31, a32⟩ := at_ok (k := k) hb hx 3 (by omega) (by omega)
  rw [e0, e1, e2, e3]
  have w1 : IntKind.wrap .i64 ((IntKind.wrap .i64 (a0 * 256)) + a1) = a0 * 256 + a1 := by rw [wrap_i64 (n := a0 * 256) (by omega) (by omega)]; exact wrap_i64 (by omega) (by omega)
  have w3 : IntKind.wrap .i64 ((IntKind.wrap .i64 (a0 * 256)) + a3) = a0 * 256 + a3 := by rw [wrap_i64 (n := a0 * 256) (by omega) (by omega)]; exact wrap_i64 (by omega) (by omega)
  have w2 : IntKind.wrap .i64 (((frameT s3).size : Int) - 4) = ((frameT s3).size : Int) - 4 := wrap_i64 (by omega) (by omega)
  obtain ⟨p, hp⟩ : ∃ p, IntKind.wrap .i64 (4 + Int.tmod (a0 * 256 + a1) (((frameT s3).size : Int) - 4)) = p := ⟨_, rfl⟩
  have hp01 : 4 ≤ p ∧ p < (frameT s3).size := by
    rw [← hp, Int.tmod_eq_emod_of_nonneg (by omega)]
    have m0 := Int.emod_nonneg (a0 * 256 + a1) (show ((frameT s3).size : Int) - 4 ≠ 0 by omega)
    have m1 := Int.emod_lt_of_pos (a0 * 256 + a1) (show (0 : Int) < ((frameT s3).size : Int) - 4 by omega)
    rw [wrap_i64 (by omega) (by omega)]
    omega
  simp only [Option.bind_some, w1, w2, w3, hp]
  rw [if_neg (by omega)]
  obtain ⟨x, x0, x1, hne, hE⟩ := turn_at (frameT s3) (by omega) p (by omega) hp01.2 a2 a21 a22
  rw [hE, impl_unframe hk, unF_flip hz3 (by omega) (by omega) x0 x1 hne]
  simp only [Option.bind_some]
  simp only [decide_true, Bool.not_true, cond_false]
  obtain ⟨m, em, hm⟩ := showMsg_ok hk hb
  rw [em]
  simp only [Option.bind_some]
  rw [(msgT_show hk hm).2]
  simp only [Option.bind_some]
  by_cases h0 : msgB k m = true
  · have hT : msgT k m = fx (crcV (bodyM k m)) ++ bodyM k m := by unfold msgT; rw [if_pos h0]
    have hle := bodyM_le hk hm
    have hsz : (msgT k m).size = 4 + (bodyM k m).size := by rw [hT, ByteArray.size_append, fx_size]
    have hn : msgT k m ≠ ⟨#[]⟩ := fun e => by
      have := congrArg ByteArray.size e
      have z : (⟨#[]⟩ : ByteArray).size = 0 := rfl
      omega
    rw [decide_eq_false hn]
    simp only [cond_false]
    rw [if_neg (by omega)]
    obtain ⟨q, hq⟩ : ∃ q, Int.tmod (a0 * 256 + a3) ((msgT k m).size : Int) = q := ⟨_, rfl⟩
    have hq01 : 0 ≤ q ∧ q < (msgT k m).size := by
      rw [← hq, Int.tmod_eq_emod_of_nonneg (by omega)]
      exact ⟨Int.emod_nonneg _ (by omega), Int.emod_lt_of_pos _ (by omega)⟩
    rw [hq]
    obtain ⟨y, y0, y1, hny, hY⟩ := turn_at (msgT k m) (by omega) q hq01.1 hq01.2 a2 a21 a22
    rw [hY]
    have hfz := flip_size (s := msgT k m) (p := q.toNat) (by omega) y
    obtain ⟨r, er, hr⟩ := readMsg_ok hk (flip (msgT k m) q.toNat y) (by omega)
    rw [er]
    simp only [Option.bind_some]
    cases hr2 : r.2 with
    | false => rfl
    | true =>
      exfalso
      obtain ⟨n1, n2, n3⟩ := hr hr2
      by_cases hB : msgB k r.1 = true
      · have hT2 : msgT k r.1 = fx (crcV (bodyM k r.1)) ++ bodyM k r.1 := by unfold msgT; rw [if_pos hB]
        have hz2 : (msgT k r.1).size = 4 + (bodyM k r.1).size := by rw [hT2, ByteArray.size_append, fx_size]
        rw [n3] at hz2
        exact msg_flip hT (by omega) (i := q.toNat) (by omega) y0 y1 hny (bodyM k r.1) (by omega) (n3.symm.trans hT2)
      · have : msgT k r.1 = ⟨#[]⟩ := by unfold msgT; rw [if_neg hB]
        exact n1 (n3.symm.trans this)
  · have hT : msgT k m = ⟨#[]⟩ := by unfold msgT; rw [if_neg h0]
    rw [hT, decide_eq_true rfl]
    simp only [cond_true]
    rw [M.specMsg hk m hm.msgS]
    have : msgB k m = false := by simpa using h0
    simp only [Option.bind_some, this]
    rfl
end Go.Proofs.Ytlloaipjkejkgaa.Rx.T
namespace Go.Proofs.Ytlloaipjkejkgaa.Rx.T
open Go.Proofs.Ytlloaipjkejkgaa.Rx Go.Proofs.Ytlloaipjkejkgaa.Rx.W Go.Proofs.Ytlloaipjkejkgaa.Rx.W2 Go.Proofs.Ytlloaipjkejkgaa.Rx.Y Go.Proofs.Ytlloaipjkejkgaa.Rx.V
open Go.Proofs.Ytlloaipjkejkgaa.Rx.M (MsgT EntT msgB msgS msgB_ents vr vr_eq numsT entsT)
open Go.Proofs.Ytlloaipjkejkgaa.Rx.S (vv vv_eq vv_back num_tot many_tot text_tot num_vv text_vv)

theorem vr_vv {k : Nat} (hk : 9223372036854775808 ≤ k) (n : Int) : vr k n = vv n := by
  unfold vr; rw [vv_eq hk]; rfl

/-- the entries' text -/
def entsB : List EntT → ByteArray
  | [] => ⟨#[]⟩
  | x :: l => vv x.1 ++ (vv (x.2.size : Int) ++ (x.2 ++ entsB l))
theorem app_nil' (o : ByteArray) : o ++ (⟨#[]⟩ : ByteArray) = o := ByteArray.append_empty
theorem entsT_eq {k : Nat} (hk : 9223372036854775808 ≤ k) : ∀ (l : List EntT) (o : ByteArray), entsT k o l = o ++ entsB l
  | [], o => by
    show o = o ++ (⟨#[]⟩ : ByteArray)
    rw [app_nil']
  | x :: l, o => by
    show entsT k (o ++ vr k x.1 ++ vr k (x.2.size : Int) ++ x.2) l = _
    rw [entsT_eq hk l, vr_vv hk, vr_vv hk]
    simp only [entsB, ByteArray.append_assoc]
theorem bodyM_eq {k : Nat} (hk : 9223372036854775808 ≤ k) (m : MsgT) : bodyM k m = vv m.1 ++ (vv m.2.1 ++ (vv m.2.2.1 ++ (vv m.2.2.2.1 ++ (vv m.2.2.2.2.1 ++ (vv m.2.2.2.2.2.1 ++ (vv m.2.2.2.2.2.2.1 ++ (vv (bif m.2.2.2.2.2.2.2.1 then 1 else 0) ++ (vv (m.2.2.2.2.2.2.2.2.1.length : Int) ++ (entsB m.2.2.2.2.2.2.2.2.1 ++ m.2.2.2.2.2.2.2.2.2))))))))) := by
  unfold bodyM headM
  rw [entsT_eq hk]
  simp only [vr_vv hk, ByteArray.append_assoc]

/-- what a right message holds -/
theorem runs_low {l : List EntT} {d high : Int} (hd : 1 ≤ d) (h : (List.range l.length).all (M.runP d high l) = true) : ∀ i (hi : i < l.length), 1 ≤ (l[i]).1 ∧ (l[i]).1 ≤ high ∧ (l[i]).2.size ≤ 900
  | i, hi => by
    have := List.all_eq_true.1 h i (List.mem_range.2 hi)
    unfold M.runP at this
    rw [List.getElem?_eq_getElem hi] at this
    simp only [Bool.and_eq_true, decide_eq_true_eq] at this
    obtain ⟨t1, t2, t3⟩ := this
    refine ⟨?_, t3, t1⟩
    cases i with
    | zero =>
      have e : lastOf l d 0 = d := by unfold lastOf; rfl
      omega
    | succ i =>
      have ih := runs_low hd h i (by omega)
      have e : lastOf l d (i + 1) = (l[i]'(by omega)).1 := by
        unfold lastOf
        simp [List.getElem?_eq_getElem (show i < l.length by omega)]
      omega

theorem msg_facts {k : Nat} {m : MsgT} (h : msgB k m = true) : (1 ≤ m.1 ∧ m.1 ≤ 9) ∧ (0 ≤ m.2.1 ∧ m.2.1 ≤ 16) ∧ (0 ≤ m.2.2.1 ∧ m.2.2.1 ≤ 16) ∧ (0 ≤ m.2.2.2.1 ∧ m.2.2.2.1 ≤ 1000000) ∧ (0 ≤ m.2.2.2.2.1 ∧ m.2.2.2.2.1 ≤ 1000000) ∧ (0 ≤ m.2.2.2.2.2.1 ∧ m.2.2.2.2.2.1 ≤ 1000000) ∧ (0 ≤ m.2.2.2.2.2.2.1 ∧ m.2.2.2.2.2.2.1 ≤ 1000000) ∧ m.2.2.2.2.2.2.2.2.1.length ≤ 4 ∧ ∀ x ∈ m.2.2.2.2.2.2.2.2.1, 0 ≤ x.1 ∧ x.1 ≤ 1000000 ∧ x.2.size ≤ 900 := by
  have hl := msgB_ents h
  unfold M.msgB M.sameB M.nameM at h
  simp only [Bool.and_eq_true, decide_eq_true_eq] at h
  obtain ⟨ha, ⟨_, _, _, e4, e5, e6, e7, _, e9, _⟩, hg⟩ := h
  have hk := M.addr_kind ha
  have hft : (0 ≤ m.2.1 ∧ m.2.1 ≤ 16) ∧ (0 ≤ m.2.2.1 ∧ m.2.2.1 ≤ 16) := by
    unfold M.addrB at ha
    split at ha
    · simp only [Bool.and_eq_true, decide_eq_true_eq] at ha; omega
    · split at ha
      · simp only [Bool.and_eq_true, decide_eq_true_eq] at ha; omega
      · split at ha
        · simp only [Bool.and_eq_true, decide_eq_true_eq] at ha; omega
        · cases ha
  refine ⟨hk, hft.1, hft.2, ?_⟩
  unfold M.goodB at hg
  by_cases h3 : m.1 = 3
  · rw [if_neg (by omega), if_neg (by omega), if_pos h3] at hg
    simp only [Bool.and_eq_true, decide_eq_true_eq] at hg
    obtain ⟨g1, g2, g3, g4, g5, g6, g7⟩ := hg
    refine ⟨by omega, by omega, by omega, by omega, hl, fun x hx => ?_⟩
    obtain ⟨i, hi, rfl⟩ := List.getElem_of_mem hx
    have := runs_low (d := if m.2.2.2.2.2.1 > 1 then m.2.2.2.2.2.1 else 1) (by split <;> omega) g6 i hi
    omega
  · have e9 : m.2.2.2.2.2.2.2.2.1 = [] := by rw [e9, if_neg h3]
    have hall : ∀ x ∈ m.2.2.2.2.2.2.2.2.1, 0 ≤ x.1 ∧ x.1 ≤ 1000000 ∧ x.2.size ≤ 900 := by rw [e9]; simp
    refine ⟨?_, ?_, ?_, ?_, hl, hall⟩
    all_goals (
      by_cases h1 : m.1 = 1
      · rw [if_pos h1] at hg
        simp only [Bool.and_eq_true, decide_eq_true_eq] at hg
        first | omega | (rw [e7, if_neg (by omega)]; omega)
      by_cases h2 : m.1 = 2
      · rw [if_neg h1, if_pos h2] at hg
        simp only [Bool.and_eq_true, decide_eq_true_eq] at hg
        first | omega | (rw [e7, if_neg (by omega)]; omega) | (rw [e6, if_neg (by omega)]; omega) | (rw [e5, if_pos (by omega)]; omega)
      by_cases h4 : m.1 = 4
      · rw [if_neg h1, if_neg h2, if_neg h3, if_pos h4] at hg
        simp only [Bool.and_eq_true, decide_eq_true_eq] at hg
        first | omega | (rw [e7, if_neg (by omega)]; omega) | (rw [e6, if_neg (by omega)]; omega)
      by_cases h5 : m.1 = 5
      · rw [if_neg h1, if_neg h2, if_neg h3, if_neg h4, if_pos h5] at hg
        simp only [Bool.and_eq_true, decide_eq_true_eq] at hg
        first | omega | (rw [e7, if_neg (by omega)]; omega)
      by_cases h6 : m.1 = 6
      · rw [if_neg h1, if_neg h2, if_neg h3, if_neg h4, if_neg h5, if_pos h6] at hg
        simp only [Bool.and_eq_true, decide_eq_true_eq] at hg
        first | omega | (rw [e7, if_neg (by omega)]; omega) | (rw [e6, if_neg (by omega)]; omega) | (rw [e4, if_neg (by omega)]; omega)
      by_cases h7 : m.1 = 7
      · rw [if_neg h1, if_neg h2, if_neg h3, if_neg h4, if_neg h5, if_neg h6, if_pos h7] at hg
        simp only [Bool.and_eq_true, decide_eq_true_eq] at hg
        first | omega | (rw [e7, if_neg (by omega)]; omega) | (rw [e6, if_neg (by omega)]; omega) | (rw [e4, if_neg (by omega)]; omega)
      by_cases h8 : m.1 = 8
      · rw [if_neg h1, if_neg h2, if_neg h3, if_neg h4, if_neg h5, if_neg h6, if_neg h7, if_pos h8] at hg
        simp only [Bool.and_eq_true, decide_eq_true_eq] at hg
        first | omega | (rw [e6, if_neg (by omega)]; omega) | (rw [e4, if_neg (by omega)]; omega)
      have h9 : m.1 = 9 := by omega
      rw [if_neg h1, if_neg h2, if_neg h3, if_neg h4, if_neg h5, if_neg h6, if_neg h7, if_neg h8, if_pos h9] at hg
      simp only [Bool.and_eq_true, decide_eq_true_eq] at hg
      first | omega | (rw [e6, if_neg (by omega)]; omega) | (rw [e4, if_neg (by omega)]; omega))
end Go.Proofs.Ytlloaipjkejkgaa.Rx.T
namespace Go.Proofs.Ytlloaipjkejkgaa.Rx.T
open Go.Proofs.Ytlloaipjkejkgaa.Rx Go.Proofs.Ytlloaipjkejkgaa.Rx.W Go.Proofs.Ytlloaipjkejkgaa.Rx.W2 Go.Proofs.Ytlloaipjkejkgaa.Rx.Y Go.Proofs.Ytlloaipjkejkgaa.Rx.V
open Go.Proofs.Ytlloaipjkejkgaa.Rx.M (MsgT EntT msgB msgS msgB_ents vr vr_eq numsT entsT)
open Go.Proofs.Ytlloaipjkejkgaa.Rx.S (vv vv_eq vv_back num_tot many_tot text_tot num_vv text_vv numP_vv byte_vv ansT ansB spec_showAns impl_showAns impl_ansBack spec_ans ansT_ok)

theorem num_step {k : Nat} (hk : 9223372036854775808 ≤ k) {n : Int} (h : 0 ≤ n ∧ n ≤ 1000000) (t : ByteArray) (ht : (vv n ++ t).size ≤ 1048576) : impl_scan_num.f k (vv n ++ t, false) = some (n, t, false) :=
  num_vv hk h.1 (by omega) t (by rw [ByteArray.size_append] at ht; omega)
theorem many_step {k : Nat} (hk : 9223372036854775808 ≤ k) {n : Nat} (h : n ≤ 4) (t : ByteArray) (ht : (vv n ++ t).size ≤ 1048576) : impl_scan_many.f k (vv n ++ t, false) 4 = some ((n : Int), t, false) := by
  have hz : t.size ≤ 1048576 := by rw [ByteArray.size_append] at ht; omega
  rw [S.many_eq hk _ _ ht 4, numP_vv hk (by omega) (by omega) t hz]
  rw [if_neg (by simp; omega)]

theorem ents_back {k : Nat} (hk : 9223372036854775808 ≤ k) (s : ByteArray) (z : Bool) (n : Nat) (hn : n ≤ 4) (zz : MsgT) (y1 y2 y3 y4 y5 y6 y7 : Int) (y8 : Bool) (dat data : ByteArray) : ∀ (l : List EntT) (i kk : Nat) (es : List EntT), i + l.length = n → l.length < kk → es.length = i → (∀ x ∈ l, 0 ≤ x.1 ∧ x.1 ≤ 1000000 ∧ x.2.size ≤ 900) → (entsB l ++ data).size ≤ 1048576 →
    iter (X := (ByteArray × Bool × MsgT × (ByteArray × Bool) × MsgT) ⊕ (MsgT × Bool)) (impl_ReadMsg.b0 k) kk (s, z, (n : Int), (i : Int), zz, (entsB l ++ data, false), y1, y2, y3, y4, y5, y6, y7, y8, es, dat) = some (.inl (s, z, zz, (data, false), y1, y2, y3, y4, y5, y6, y7, y8, es ++ l, dat))
  | [], i, kk, es, hi, hkk, he, _, _ => by
    obtain ⟨kk, rfl⟩ : ∃ m, kk = m + 1 := ⟨kk - 1, by omega⟩
    simp only [List.length_nil] at hi
    refine V.iter_inr ?_
    unfold impl_ReadMsg.b0
    dsimp only
    rw [decide_eq_false (show ¬ (i : Int) < (n : Int) by omega), List.append_nil]
    show some _ = some _
    rw [show entsB [] ++ data = data from ByteArray.empty_append]
  | x :: l, i, kk, es, hi, hkk, he, hx, hsz => by
    simp only [List.length_cons] at hi hkk
    obtain ⟨kk, rfl⟩ : ∃ m, kk = m + 1 := ⟨kk - 1, by omega⟩
    obtain ⟨x0, x1, x2⟩ := hx x (List.mem_cons_self ..)
    have e : entsB (x :: l) ++ data = vv x.1 ++ (vv (x.2.size : Int) ++ (x.2 ++ (entsB l ++ data))) := by
      simp only [entsB, ByteArray.append_assoc]
    rw [e] at hsz
    have hsz1 := hsz
    rw [ByteArray.size_append, ByteArray.size_append] at hsz1
    have hsz2 : (x.2 ++ (entsB l ++ data)).size ≤ 1048576 := by omega
    have hsz3 : (entsB l ++ data).size ≤ 1048576 := by rw [ByteArray.size_append] at hsz2; omega
    have step : impl_ReadMsg.b0 k (s, z, (n : Int), (i : Int), zz, (entsB (x :: l) ++ data, false), y1, y2, y3, y4, y5, y6, y7, y8, es, dat) = some (.inl (s, z, (n : Int), ((i + 1 : Nat) : Int), zz, (entsB l ++ data, false), y1, y2, y3, y4, y5, y6, y7, y8, es ++ [x], dat)) := by
      unfold impl_ReadMsg.b0
      dsimp only
      rw [decide_eq_true (show (i : Int) < (n : Int) by omega), e, num_step hk ⟨x0, x1⟩ _ hsz]
      simp only [cond_true, Option.bind_some]
      rw [text_vv hk x.2 _ hsz2]
      simp only [Option.bind_some]
      rw [app_ok (by simp only [List.length_cons, List.length_nil]; unfold limOf; omega), wrap_i64 (by omega) (by omega)]
      rfl
    rw [V.iter_inl step, ents_back hk s z n hn zz y1 y2 y3 y4 y5 y6 y7 y8 dat data l (i + 1) kk (es ++ [x]) (by omega) (by omega) (by simp; omega) (fun y hy => hx y (List.mem_cons_of_mem _ hy)) hsz3]
    simp

/-- a right message's text reads back -/
theorem msg_back {k : Nat} (hk : 9223372036854775808 ≤ k) {m : MsgT} (hs : MsgSz m) (h : msgB k m = true) : impl_ReadMsg.f k (msgT k m) = some (m, true) := by
  have hT : msgT k m = fx (crcV (bodyM k m)) ++ bodyM k m := by unfold msgT; rw [if_pos h]
  have hle := bodyM_le hk hs
  have hsz : (msgT k m).size = 4 + (bodyM k m).size := by rw [hT, ByteArray.size_append, fx_size]
  obtain ⟨f1, f2, f3, f4, f5, f6, f7, f8, f9⟩ := msg_facts h
  have hbg : MsgBg m := hs.bg (by omega)
  have hshow := (hbg.show hk).2
  have hB := bodyM_eq hk m
  have hcut : impl_scan_cut.f k (msgT k m, false) 4 = some (fx (crcV (bodyM k m)), bodyM k m, false) := by
    rw [S.cut_eq k _ false 4 (by omega), if_neg (by simp), if_neg (by omega)]
    rw [show (4 : Int).toNat = (fx (crcV (bodyM k m))).size from rfl, hT, S.ext_left, S.ext_right]
  obtain ⟨s, hsT⟩ : ∃ s, msgT k m = s := ⟨_, rfl⟩
  rw [hsT] at hcut hsz hshow ⊢
  rw [hB] at hcut hle
  obtain ⟨kind, frm, to, term, index, iterm, commit, yes, l, data⟩ := m
  dsimp only at f1 f2 f3 f4 f5 f6 f7 f8 f9 hcut hle
  unfold impl_ReadMsg.f
  rw [hcut]
  simp only [Option.bind_some]
  have z0 := hle
  simp only [ByteArray.size_append] at z0
  rw [num_step hk ⟨by omega, by omega⟩ _ (by simp only [ByteArray.size_append]; omega)]
  simp only [Option.bind_some]
  rw [num_step hk ⟨by omega, by omega⟩ _ (by simp only [ByteArray.size_append]; omega)]
  simp only [Option.bind_some]
  rw [num_step hk ⟨by omega, by omega⟩ _ (by simp only [ByteArray.size_append]; omega)]
  simp only [Option.bind_some]
  rw [num_step hk f4 _ (by simp only [ByteArray.size_append]; omega)]
  simp only [Option.bind_some]
  rw [num_step hk f5 _ (by simp only [ByteArray.size_append]; omega)]
  simp only [Option.bind_some]
  rw [num_step hk f6 _ (by simp only [ByteArray.size_append]; omega)]
  simp only [Option.bind_some]
  rw [num_step hk f7 _ (by simp only [ByteArray.size_append]; omega)]
  simp only [Option.bind_some]
  rw [num_step hk (by cases yes <;> simp) _ (by simp only [ByteArray.size_append]; omega)]
  simp only [Option.bind_some]
  rw [many_step hk f8 _ (by simp only [ByteArray.size_append]; omega)]
  simp only [Option.bind_some]
  have hyes : (decide ((bif yes then (1 : Int) else 0) = 1)) = yes := by cases yes <;> rfl
  rw [hyes]
  have key := ents_back hk s false l.length f8 (0, 0, 0, 0, 0, 0, 0, false, [], (⟨#[]⟩ : ByteArray)) kind frm to term index iterm commit yes ⟨#[]⟩ data l 0 k [] (by omega) (by omega) rfl f9 (by simp only [ByteArray.size_append]; omega)
  rw [show ((0 : Nat) : Int) = 0 from rfl, List.nil_append] at key
  rw [key]
  simp only [Option.bind_some]
  unfold impl_ReadMsg.d0
  dsimp only
  have hne : s ≠ ⟨#[]⟩ := fun e => by
    have := congrArg ByteArray.size e
    have z : (⟨#[]⟩ : ByteArray).size = 0 := rfl
    omega
  rw [decide_eq_false hne, hshow]
  simp only [cond_false, Option.bind_some, decide_true, Bool.not_true]

theorem sameEnts_self {k : Nat} (hk : 9223372036854775808 ≤ k) (l : List EntT) (hl : l.length ≤ 1048576) : laws_sameEntries.f k l l = some true := by
  unfold laws_sameEntries.f
  rw [show (!decide ((l.length : Int) = (l.length : Int))) = false by simp]
  simp only [cond_false]
  have key := Ok.iter (B := laws_sameEntries.b0 k) (fun t => t.1 = l ∧ t.2.1 = l ∧ 0 ≤ t.2.2.2) (fun t => ((l.length : Int) - t.2.2.2).toNat) (fun x => ∃ y, x = .inl y) (fun t ht => by
    obtain ⟨a, b, z, i⟩ := t
    dsimp only at ht
    obtain ⟨rfl, rfl, h0⟩ := ht
    unfold laws_sameEntries.b0
    dsimp only
    refine Ok.cond (fun hc => ?_) (fun hc => Ok.ret ⟨_, rfl⟩)
    have hc := of_decide_eq_true hc
    have hlt : i.toNat < b.length := by omega
    rw [inb_ok h0 hc]
    simp only [Option.bind_some, List.getElem?_eq_getElem hlt, decide_true, Bool.and_self, Bool.not_true, cond_false]
    rw [wrap_i64 (by omega) (by omega)]
    exact Ok.ret ⟨⟨rfl, rfl, by simp only; omega⟩, by simp only; omega⟩) (k := k) (s := (l, l, false, 0)) ⟨rfl, rfl, by simp⟩ (by simp only; omega)
  obtain ⟨x, hx, y, rfl⟩ := key
  rw [hx]
  rfl
end Go.Proofs.Ytlloaipjkejkgaa.Rx.T
namespace Go.Proofs.Ytlloaipjkejkgaa.Rx.T
open Go.Proofs.Ytlloaipjkejkgaa.Rx Go.Proofs.Ytlloaipjkejkgaa.Rx.W Go.Proofs.Ytlloaipjkejkgaa.Rx.W2 Go.Proofs.Ytlloaipjkejkgaa.Rx.V Go.Proofs.Ytlloaipjkejkgaa.Rx.C
open Go.Proofs.Ytlloaipjkejkgaa.Rx.M (MsgT EntT msgB msgS msgB_ents)
open Go.Proofs.Ytlloaipjkejkgaa.Rx.S (vv vv_eq vv_back num_tot many_tot text_tot num_vv text_vv numP_vv byte_vv ansT ansB spec_showAns impl_showAns impl_ansBack spec_ans ansT_ok ansT_small)

abbrev CmdT := Int × Int × OpT
theorem cmd_ok {k : Nat} (hk : 9223372036854775808 ≤ k) {b : List Int} (hb : b.length ≤ 1048576) {c : CurT} (h : CurOk b c) : Ok (fun r : CmdT × CurT => CurOk b r.2 ∧ r.1.2.2.2.2.2.size ≤ 300) (spec_l13Cmd.f k c) := by
  unfold spec_l13Cmd.f
  draw; draw
  refine Ok.bind (op_ok hk hb (by assumption)) fun o ho => ?_
  obtain ⟨o1, o2⟩ := ho
  refine Ok.bind (P := fun r => ∃ cc z a d o, r = .inl (cc, z, a, d, o) ∧ CurOk b cc ∧ o.2.2.2.size ≤ 300) ?_ ?_
  · draw
    draw
    · draw
      exact Ok.ret ⟨_, _, _, _, _, rfl, by assumption, o2⟩
    · exact Ok.ret ⟨_, _, _, _, _, rfl, by assumption, o2⟩
  rintro _ ⟨cc, z, a, d, o, rfl, hcc, ho⟩
  show Ok _ (spec_l13Cmd.c0 k _)
  unfold spec_l13Cmd.c0
  dsimp only
  draw
  draw
  · draw
    exact Ok.ret ⟨by assumption, ho⟩
  · exact Ok.ret ⟨by assumption, ho⟩

def cmdB (c : CmdT) : Bool := (decide (1 ≤ c.1) && decide (c.1 ≤ 6)) && ((decide (1 ≤ c.2.1) && decide (c.2.1 ≤ 1000000)) && opB c.2.2)
def cmdT (c : CmdT) : ByteArray := if cmdB c = true then vv c.1 ++ (vv c.2.1 ++ opT c.2.2) else ⟨#[]⟩
theorem impl_showCmd {k : Nat} (hk : 9223372036854775808 ≤ k) (c : CmdT) : impl_ShowCmd.f k c = some (cmdT c) := by
  unfold impl_ShowCmd.f cmdT cmdB
  rw [W.within_eq, W.within_eq, op_eq, opB_eq, impl_showOp hk]
  simp only [Option.bind_some]
  cases h1 : (decide (1 ≤ c.1) && decide (c.1 ≤ 6)) with
  | false => rfl
  | true =>
    cases h2 : (decide (1 ≤ c.2.1) && decide (c.2.1 ≤ 1000000)) with
    | false => rfl
    | true =>
      cases h3 : opB c.2.2 with
      | false => rfl
      | true =>
        simp only [Bool.and_eq_true, decide_eq_true_eq] at h1 h2
        have v1 := vv_back (n := c.1) (by omega) (by omega)
        have v2 := vv_back (n := c.2.1) (by omega) (by omega)
        have := opT_small c.2.2
        simp only [Bool.not_true, cond_false, Bool.and_self, if_true]
        rw [var_eq, vv_eq hk, vv_eq hk]
        simp only [Option.bind_some]
        rw [cat_ok (by omega)]
        simp only [Option.bind_some]
        rw [cat_ok (by rw [ByteArray.size_append]; omega)]
        simp only [Option.bind_some, ByteArray.append_assoc]

theorem byte_ok {k : Nat} {N : Nat} {t : ByteArray × Bool} (ht : t.1.size ≤ N) : Ok (fun r : Int × ByteArray × Bool => r.2.1.size ≤ N) (impl_scan_byte.f k t) := by
  obtain ⟨t, bad⟩ := t
  unfold impl_scan_byte.f
  rw [S.cut_eq k t bad 1 (by omega)]
  simp only [Option.bind_some]
  have hz : ∀ x : ByteArray × ByteArray × Bool, x.2.1.size ≤ N → Ok (fun r : Int × ByteArray × Bool => r.2.1.size ≤ N) (bif (decide (x.1 = (⟨#[]⟩ : ByteArray))) then (some (0, x.2)) else ((inb? x.1.size 0).bind fun j2 => some (IntKind.wrap .i64 (byteAt x.1 j2), x.2))) := fun x hx => by
    refine Ok.cond (fun _ => Ok.ret hx) (fun hc => ?_)
    have hc := of_decide_eq_false hc
    have hp : 0 < x.1.size := by
      rcases Nat.eq_zero_or_pos x.1.size with h | h
      · exact absurd (ByteArray.size_eq_zero_iff.1 h) hc
      · exact h
    rw [inb_ok (by omega) (by omega)]
    exact Ok.ret hx
  refine hz _ ?_
  split
  · exact ht
  · split
    · exact ht
    · simp only [ByteArray.size_extract]; simp only at ht; omega

theorem scanOp_ok {k : Nat} (hk : 9223372036854775808 ≤ k) {N : Nat} (hN : N ≤ 1048576) {t : ByteArray × Bool} (ht : t.1.size ≤ N) : Ok (fun r : OpT × ByteArray × Bool => True) (impl_scan_op.f k t) := by
  unfold impl_scan_op.f
  refine Ok.bind (byte_ok ht) fun r1 h1 => ?_
  refine Ok.bind (num_ok hk hN h1) fun r2 h2 => ?_
  refine Ok.bind (num_ok hk hN h2) fun r3 h3 => ?_
  exact Ok.ret trivial

theorem readCmd_none {k : Nat} (hk : 9223372036854775808 ≤ k) : Ok (fun r : CmdT × Bool => r.2 = false) (impl_ReadCmd.f k ⟨#[]⟩) := by
  unfold impl_ReadCmd.f
  refine Ok.bind (num_ok hk (N := 1048576) (Nat.le_refl _) (t := ((⟨#[]⟩ : ByteArray), false)) (by decide)) fun r1 h1 => ?_
  refine Ok.bind (num_ok hk (Nat.le_refl _) h1) fun r2 h2 => ?_
  refine Ok.bind (scanOp_ok hk (Nat.le_refl _) h2) fun r3 h3 => ?_
  refine Ok.cond (fun _ => Ok.ret rfl) (fun _ => ?_)
  refine Ok.cond (fun _ => Ok.ret rfl) (fun hc => ?_)
  exact absurd rfl (of_decide_eq_false hc)

theorem readAns_none {k : Nat} (hk : 9223372036854775808 ≤ k) : Ok (fun r : AnsT × Bool => r.2 = false) (impl_ReadAnswer.f k ⟨#[]⟩) := by
  unfold impl_ReadAnswer.f
  refine Ok.bind (num_ok hk (N := 1048576) (Nat.le_refl _) (t := ((⟨#[]⟩ : ByteArray), false)) (by decide)) fun r1 h1 => ?_
  refine Ok.bind (num_ok hk (Nat.le_refl _) h1) fun r2 h2 => ?_
  refine Ok.bind (num_ok hk (Nat.le_refl _) h2) fun r3 h3 => ?_
  refine Ok.bind (num_ok hk (Nat.le_refl _) h3) fun r4 h4 => ?_
  refine Ok.bind (num_ok hk (Nat.le_refl _) h4) fun r5 h5 => ?_
  refine Ok.cond (fun _ => Ok.ret rfl) (fun _ => ?_)
  refine Ok.cond (fun _ => Ok.ret rfl) (fun hc => ?_)
  exact absurd rfl (of_decide_eq_false hc)

theorem cmd_back {k : Nat} (hk : 9223372036854775808 ≤ k) {c : CmdT} (h : cmdB c = true) : cmdT c ≠ ⟨#[]⟩ ∧ impl_ReadCmd.f k (cmdT c) = some (c, true) := by
  have hshow := impl_showCmd hk c
  have h' := h
  unfold cmdB at h'
  simp only [Bool.and_eq_true, decide_eq_true_eq] at h'
  obtain ⟨c1, c2, c3⟩ := h'
  obtain ⟨f1, f2, f3, f4⟩ := opB_facts c3
  have v1 := vv_back (n := c.1) (by omega) (by omega)
  have v2 := vv_back (n := c.2.1) (by omega) (by omega)
  have v3 := vv_back f2.1 (by omega)
  have v4 := vv_back f3.1 (by omega)
  have e : cmdT c = vv c.1 ++ (vv c.2.1 ++ (strOfNums [IntKind.wrap .u8 c.2.2.1] ++ (vv c.2.2.2.1 ++ (vv c.2.2.2.2.1 ++ c.2.2.2.2.2)))) := by
    unfold cmdT opT
    rw [if_pos h, if_pos c3]
    simp only [ByteArray.append_assoc]
  obtain ⟨s, hs⟩ : ∃ s, cmdT c = s := ⟨_, rfl⟩
  rw [hs] at e hshow ⊢
  have z1 : (strOfNums [IntKind.wrap .u8 c.2.2.1]).size = 1 := by rw [V.size_strOfNums]; rfl
  have hsz : 1 ≤ s.size ∧ s.size ≤ 300 := by
    rw [e]
    simp only [ByteArray.size_append]
    omega
  have hne : s ≠ ⟨#[]⟩ := fun e => by
    have := congrArg ByteArray.size e
    have z : (⟨#[]⟩ : ByteArray).size = 0 := rfl
    omega
  refine ⟨hne, ?_⟩
  unfold impl_ReadCmd.f
  have q1 : impl_scan_num.f k (s, false) = some (c.1, vv c.2.1 ++ (strOfNums [IntKind.wrap .u8 c.2.2.1] ++ (vv c.2.2.2.1 ++ (vv c.2.2.2.2.1 ++ c.2.2.2.2.2))), false) := by
    rw [e]; exact num_vv hk (by omega) (by omega) _ (by simp only [ByteArray.size_append]; omega)
  rw [q1]
  simp only [Option.bind_some]
  rw [num_vv hk (n := c.2.1) (by omega) (by omega) _ (by simp only [ByteArray.size_append]; omega)]
  simp only [Option.bind_some]
  have q2 : impl_scan_op.f k (strOfNums [IntKind.wrap .u8 c.2.2.1] ++ (vv c.2.2.2.1 ++ (vv c.2.2.2.2.1 ++ c.2.2.2.2.2)), false) = some ((c.2.2.1, c.2.2.2.1, c.2.2.2.2.1, c.2.2.2.2.2), c.2.2.2.2.2, false) := by
    unfold impl_scan_op.f
    rw [byte_vv c.2.2.1 (by omega) (by omega) _ (by simp only [ByteArray.size_append]; omega)]
    simp only [Option.bind_some]
    rw [num_vv hk f2.1 (by omega) _ (by simp only [ByteArray.size_append]; omega)]
    simp only [Option.bind_some]
    rw [num_vv hk f3.1 (by omega) _ (by omega)]
    rfl
  rw [q2]
  simp only [Option.bind_some, cond_false]
  rw [decide_eq_false hne]
  simp only [cond_false]
  rw [show (c.1, c.2.1, c.2.2.1, c.2.2.2.1, c.2.2.2.2.1, c.2.2.2.2.2) = c from rfl, hshow]
  simp only [Option.bind_some, decide_true, Bool.not_true, cond_false]

theorem drawCmd_ok {k : Nat} (hk : 9223372036854775808 ≤ k) {b : List Int} (hb : b.length ≤ 1048576) : Ok (fun c : CmdT => True) (spec_DrawShowCmd.f k b) := by
  unfold spec_DrawShowCmd.f
  refine Ok.bind (dNew hk hb) fun c hc => ?_
  refine Ok.bind (cmd_ok hk hb hc) fun r hr => ?_
  exact Ok.ret trivial
theorem drawAns_ok {k : Nat} (hk : 9223372036854775808 ≤ k) {b : List Int} (hb : b.length ≤ 1048576) : Ok (fun a : AnsT => a.2.2.2.1.size ≤ 40) (spec_DrawShowAnswer.f k b) := by
  unfold spec_DrawShowAnswer.f
  refine Ok.bind (dNew hk hb) fun c hc => ?_
  refine Ok.bind (ans_ok hk hb hc) fun r hr => ?_
  exact Ok.ret hr.2
theorem drawRead_ok {k : Nat} (hk : 9223372036854775808 ≤ k) {b : List Int} (hb : b.length ≤ 1048576) : Ok (fun s : ByteArray => s.size ≤ 1048576) (spec_DrawReadMsg.f k b) := by
  unfold spec_DrawReadMsg.f
  refine Ok.bind (dNew hk hb) fun c hc => ?_
  refine Ok.bind (any_ok hk hb hc) fun r hr => ?_
  obtain ⟨r1, r2⟩ := hr
  rw [(msgT_show hk r2).1]
  simp only [Option.bind_some]
  have hle := msgT_le hk r2
  draw
  draw
  · refine Ok.bind (spoil_ok hk hb (by assumption) _ (by omega)) fun s hs => ?_
    exact Ok.ret (by have := hs.2; omega)
  · refine Ok.cond (fun h4 => ?_) (fun _ => Ok.ret (by omega))
    have h4 := of_decide_eq_true h4
    draw
    refine Ok.cond (fun _ => ?_) (fun _ => Ok.ret (by omega))
    rw [cut_ok (by omega) (by omega) (by omega)]
    simp only [Option.bind_some]
    have hz : ((msgT k r.1).extract (4 : Int).toNat ((msgT k r.1).size : Int).toNat).size ≤ 200004 := by rw [ByteArray.size_extract]; omega
    refine Ok.bind (spoil_ok hk hb (by assumption) _ (by omega)) fun s hs => ?_
    have h2 := hs.2
    obtain ⟨c1, _, c2, c3⟩ := Y.crc_val hk s.1 (by omega)
    rw [c1]
    simp only [Option.bind_some]
    rw [Y.spec_fix4 hk _ c2 c3]
    simp only [Option.bind_some]
    have z : (strOfNums [Y.crcV s.1 / 256 / 256 / 256 % 256, Y.crcV s.1 / 256 / 256 % 256, Y.crcV s.1 / 256 % 256, Y.crcV s.1 % 256]).size = 4 := rfl
    rw [cat_ok (by omega)]
    exact Ok.ret (by rw [ByteArray.size_append]; omega)

theorem law_Texts (b : List Int) : ∃ k, laws_FnTexts.f k b = some true := by
  refine ⟨9223372036854775808, ?_⟩
  obtain ⟨k, hkk⟩ : ∃ k : Nat, k = 9223372036854775808 := ⟨_, rfl⟩
  rw [← hkk]
  have hk : 9223372036854775808 ≤ k := by omega
  unfold laws_FnTexts.f laws_big.f
  simp only [Option.bind_some]
  by_cases hb : 1048576 < (b.length : Int)
  · rw [decide_eq_true hb]; rfl
  rw [decide_eq_false hb]
  have hb : b.length ≤ 1048576 := by omega
  simp only [cond_false]
  -- the messages
  have hc1 : laws_FnTexts.c1 k (b, false) = some true := by
    unfold laws_FnTexts.c1
    dsimp only
    obtain ⟨t, et, ht⟩ := drawRead_ok hk hb
    rw [et]
    simp only [Option.bind_some]
    obtain ⟨r2, e2, h2⟩ := readMsg_ok hk t ht
    rw [e2]
    simp only [Option.bind_some]
    obtain ⟨m, em, hm⟩ := showMsg_ok hk hb
    rw [em]
    simp only [Option.bind_some]
    rw [(msgT_show hk hm).2]
    simp only [Option.bind_some]
    have hle := msgT_le hk hm
    obtain ⟨r5, e5, h5⟩ := readMsg_ok hk (msgT k m) (by omega)
    have hok : spec_MsgOk.f k m = some (msgB k m) := M.specMsg hk m hm.msgS
    -- what follows in either case
    have tail : ((spec_MsgOk.f k m).bind fun r6 => bif (decide (r5.2 = r6)) then (bif (!r5.2) then (some true) else ((impl_ShowMsg.f k r5.1).bind fun r7 => bif (decide (r7 = msgT k m)) then (bif (decide (r5.1.2.2.2.2.2.2.2.2.2 = m.2.2.2.2.2.2.2.2.2)) then ((laws_sameEntries.f k r5.1.2.2.2.2.2.2.2.2.1 m.2.2.2.2.2.2.2.2.1).bind fun r8 => some r8) else (some false)) else (some false))) else (some false)) = some true := by
      rw [hok]
      simp only [Option.bind_some]
      cases hB : msgB k m with
      | true =>
        have hbk := msg_back hk hm hB
        rw [hbk] at e5
        injection e5 with e5
        subst e5
        simp only [decide_true, Bool.not_true, cond_true, cond_false]
        rw [(msgT_show hk hm).2]
        simp only [Option.bind_some, decide_true, cond_true]
        rw [sameEnts_self hk _ (by have := hm.1; omega)]
        rfl
      | false =>
        have : r5.2 = false := by
          cases h : r5.2 with
          | false => rfl
          | true =>
            exfalso
            have hT : msgT k m = ⟨#[]⟩ := by unfold msgT; rw [hB]; rfl
            exact (h5 h).1 hT
        rw [this]
        rfl
    rw [e5]
    simp only [Option.bind_some]
    cases hr2 : r2.2 with
    | false =>
      simp only [Bool.not_false, cond_true]
      exact tail
    | true =>
      simp only [Bool.not_true, cond_false]
      obtain ⟨n1, n2, n3⟩ := h2 hr2
      rw [(n2.show hk).2]
      simp only [Option.bind_some]
      rw [decide_eq_true n3]
      simp only [cond_true]
      have hB2 : msgB k r2.1 = true := by
        cases h : msgB k r2.1 with
        | true => rfl
        | false =>
          exfalso
          have hT : msgT k r2.1 = ⟨#[]⟩ := by unfold msgT; rw [h]; rfl
          exact n1 (n3.symm.trans hT)
      rw [M.specMsg hk r2.1 ⟨by have := n2.1; omega, n2.2.2⟩, hB2]
      simp only [Option.bind_some, cond_true]
      exact tail
  -- the answers
  have hc0 : laws_FnTexts.c0 k (b, false) = some true := by
    unfold laws_FnTexts.c0
    dsimp only
    obtain ⟨a, ea, ha⟩ := drawAns_ok hk hb
    rw [ea]
    simp only [Option.bind_some]
    rw [impl_showAns hk a (by omega)]
    simp only [Option.bind_some]
    rw [spec_ans]
    cases hB : ansB a with
    | true =>
      rw [impl_ansBack hk hB]
      simp only [Option.bind_some, decide_true, Bool.not_true, cond_false, cond_true, Bool.and_self]
      exact hc1
    | false =>
      have hT : ansT a = ⟨#[]⟩ := by unfold ansT; rw [hB]; rfl
      obtain ⟨r, er, hr⟩ := readAns_none hk
      rw [hT, er]
      simp only [Option.bind_some, hr, decide_true, Bool.not_true, cond_false]
      exact hc1
  obtain ⟨c, ec, _⟩ := drawCmd_ok hk hb
  rw [ec]
  simp only [Option.bind_some]
  rw [impl_showCmd hk]
  simp only [Option.bind_some]
  cases hB : cmdB c with
  | true =>
    obtain ⟨h1, h2⟩ := cmd_back hk hB
    rw [h2]
    simp only [Option.bind_some]
    rw [decide_eq_false h1]
    simp only [Bool.not_false, decide_true, Bool.not_true, cond_false, cond_true, Bool.and_self, Option.bind_some]
    exact hc0
  | false =>
    have hT : cmdT c = ⟨#[]⟩ := by unfold cmdT; rw [hB]; rfl
    obtain ⟨r, er, hr⟩ := readCmd_none hk
    rw [hT, er]
    simp only [Option.bind_some, hr, decide_true, Bool.not_true, cond_false]
    exact hc0
end Go.Proofs.Ytlloaipjkejkgaa.Rx.T
