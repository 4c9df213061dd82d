/- The plain side of the law: part 3. No condition beside those that each theorem states. -/
import Derived.Test.YtbkcbfkehncocaaGreatDoorRxPlain2Fall
set_option linter.unusedVariables false
set_option linter.unusedSimpArgs false
namespace Go.Proofs.YtbkcbfkehncocaaGreatDoor.Rx
namespace S
open Y
theorem Prg (a b : List Int) : strOfNums (a ++ b) = strOfNums a ++ strOfNums b := by
 unfold strOfNums
 apply ByteArray.ext
 simp [ByteArray.data_append]
theorem Pgm {s t : Zb} {i : Nat} (h : i < s.size) : Qmy (s ++ t) i = Qmy s i := by
 rw [V.Pju h, V.Pju (by rw [Zs]; omega), ByteArray.getElem_append_left h]
theorem Pml {s t : Zb} {i : Nat} (h : s.size ≤ i) (h2 : i < s.size + t.size) : Qmy (s ++ t) i = Qmy t (i - s.size) := by
 rw [V.Pju (show i - s.size < t.size by omega), V.Pju (by rw [Zs]; omega), ByteArray.getElem_append_right h]
def H0 : List Int := [1779033703, 3144134277, 1013904242, 2773480762, 1359893119, 2600822924, 528734635, 1541459225]
def runF (f : Nat → Zb) (h : List Int) : Nat → List Int
 | 0 => h
 | m + 1 => Ppq (runF f h m) (f m)
theorem Piv {f : Nat → Zb} {h : List Int} (hh : h.length = 8) : ∀ m, (runF f h m).length = 8
 | 0 => hh
 | m + 1 => rfl
theorem Ppn {f g : Nat → Zb} {h : List Int} : ∀ {m : Nat}, (∀ j, j < m → f j = g j) → runF f h m = runF g h m
 | 0, _ => rfl
 | m + 1, e => by simp only [runF]; rw [Ppn (fun j hj => e j (by omega)), e m (by omega)]
theorem Pyz (f : Nat → Zb) (h : List Int) (a : Nat) : ∀ m, runF f h (a + m) = runF (fun j => f (a + j)) (runF f h a) m
 | 0 => rfl
 | m + 1 => by rw [← Nat.add_assoc]; simp only [runF]; rw [Pyz f h a m]
def blk (p : Zb) (j : Nat) : Zb := p.extract (64 * j) (64 * j + 64)
theorem Ple {p : Zb} {j : Nat} (h : 64 * j + 64 ≤ p.size) : (blk p j).size = 64 := by
 unfold blk; rw [V.Pbh p h]; omega
def zz (n : Nat) : Nat := (64 - (n + 9) % 64) % 64
def pad (n : Nat) : Zb := (⟨#[128]⟩ ++ strOfNums (List.replicate (zz n + 1) 0)) ++ fix7 (8 * n)
theorem Pyw (n : Nat) : (pad n).size = zz n + 9 := by
 unfold pad
 rw [Zs, Zs, V.Pas, Pqv, List.length_replicate]
 show 1 + _ + 7 = _
 omega
def fix4 (n : Int) : Zb := strOfNums [n / 256 / 256 / 256 % 256, n / 256 / 256 % 256, n / 256 % 256, n % 256]
theorem Pqu (n : Int) : (fix4 n).size = 4 := by unfold fix4; rw [V.Pas]; rfl
def outF (h : List Int) : Nat → Zb
 | 0 => ⟨#[]⟩
 | i + 1 => outF h i ++ fix4 (h.getD i 0)
theorem Pol (h : List Int) : ∀ i, (outF h i).size = 4 * i
 | 0 => rfl
 | i + 1 => by simp only [outF]; rw [Zs, Pol h i, Pqu]; omega
def shaF (s : Zb) : Zb := outF (runF (blk (s ++ pad s.size)) H0 ((s.size + zz s.size + 9) / 64)) 8
theorem shaF_size (s : Zb) : (shaF s).size = 32 := Pol _ 8
def Small (h : List Int) : Prop := ∀ j, j < 8 → 0 ≤ h.getD j 0 ∧ h.getD j 0 < 4294967296
theorem Pwp (h : List Int) (b : Zb) : Small (Ppq h b) := fun j hj => by
 unfold Ppq
 rw [Pyd _ _ hj, Pzp]
 omega
theorem Pbdo : Small H0 := by unfold Small; decide
theorem Pvx {f : Nat → Zb} : ∀ m, Small (runF f H0 m)
 | 0 => Pbdo
 | m + 1 => Pwp _ _
theorem Pbed {k} (hk : Zk k) (h : List Int) (hh : h.length = 8) (hs : Small h) : Pdq.d0 k (⟨#[]⟩, h) = some (outF h 8) := by
 unfold Pdq.d0
 dsimp only
 rw [Pck hh]
 have := Qos (B := Pdq.b1 k) (X := U7 ⊕ Zb) 8 (fun i => ((⟨#[]⟩ : Zb), outF h i, h, (i : Int))) (.inl (⟨#[]⟩, outF h 8)) (fun i hi => by
  unfold Pdq.b1
  dsimp only
  obtain ⟨h1, h2⟩ := hs i hi
  rw [Zt (show (i : Int) < 8 by omega), Qqx (n := 8) (i := (i : Int)) (by omega) (by omega), Pck hh, Zn]
  simp only [Zy, Zo]
  rw [Zw (n := h.getD i 0), Pip hk _ h1 h2]
  simp only [Zo]
  rw [Qqv (by rw [Pol]; have := Pqu (h.getD i 0); unfold fix4 at this; rw [this]; omega), Zw (n := (i : Int) + 1)]
  rfl) (by unfold Pdq.b1; rfl) k (by omega)
 have e : iter (X := U7 ⊕ Zb) (Pdq.b1 k) k ((⟨#[]⟩ : Zb), (⟨#[]⟩ : Zb), h, 0) = some (.inl (⟨#[]⟩, outF h 8)) := this
 rw [e]
 rfl
theorem Pbes {k} (hk : Zk k) (h : List Int) (hh : h.length = 8) (hs : Small h) : Pbj.d2 k (⟨#[]⟩, h) = some (outF h 8) := by
 unfold Pbj.d2
 dsimp only
 have := Qos (B := Pbj.b3 k) (X := U7 ⊕ Zb) 8 (fun i => ((⟨#[]⟩ : Zb), h, outF h i, (i : Int))) (.inl (⟨#[]⟩, outF h 8)) (fun i hi => by
  unfold Pbj.b3
  dsimp only
  obtain ⟨h1, h2⟩ := hs i hi
  rw [Zt (show (i : Int) < 8 by omega), Zi, Zn]
  simp only [Zy, Zo, Plu (show i < h.length by omega)]
  rw [Zw (n := h.getD i 0), Pkw hk _ h1 h2]
  simp only [Zo]
  rw [Qqv (by rw [Pol]; have := Pqu (h.getD i 0); unfold fix4 at this; rw [this]; omega), Zw (n := (i : Int) + 1)]
  rfl) (by unfold Pbj.b3; rfl) k (by omega)
 have e : iter (X := U7 ⊕ Zb) (Pbj.b3 k) k ((⟨#[]⟩ : Zb), h, (⟨#[]⟩ : Zb), 0) = some (.inl (⟨#[]⟩, outF h 8)) := this
 rw [e]
 rfl
theorem Pbci (n : Nat) : (n + zz n + 9) % 64 = 0 := by unfold zz; omega
theorem impl_sha {k} (hk : Zk k) (s : Zb) (hn : s.size ≤ 1099511627776) : Pdq.f k s = some (shaF s) := by
 unfold Pdq.f
 have hz : zz s.size < 64 := by unfold zz; omega
 have ez : Zr ((Int.tmod (Zr (64 - (Int.tmod (Zr ((s.size : Int) + 9)) 64))) 64) + 1) = ((zz s.size + 1 : Nat) : Int) := by
  rw [Zw (n := (s.size : Int) + 9), Int.tmod_eq_emod_of_nonneg (a := (s.size : Int) + 9) (by omega), Zw (n := 64 - ((s.size : Int) + 9) % 64), Int.tmod_eq_emod_of_nonneg (by omega), Zw]
  unfold zz; omega
 have h128 : (⟨#[128]⟩ : Zb).size = 1 := rfl
 rw [Qqv (by rw [h128]; omega), ez, mk_ok (by omega) (by unfold limOf; omega), Zw (n := 8 * (s.size : Int)), Pbbo hk _ (by omega) (by omega)]
 simp only [Zo, Zn]
 rw [Qqv (by rw [Zs, V.Pas, List.length_replicate, h128]; omega)]
 simp only [Zo]
 rw [Qqv (by rw [Zs, Zs, V.Pas, List.length_replicate, h128, Pqv]; omega)]
 simp only [Zo]
 have ep : s ++ ⟨#[128]⟩ ++ strOfNums (List.replicate (zz s.size + 1) 0) ++ fix7 (8 * (s.size : Int)) = s ++ pad s.size := by
  unfold pad; simp only [ByteArray.append_assoc]
 rw [ep]
 have hps : (s ++ pad s.size).size = s.size + zz s.size + 9 := by rw [Zs, Pyw]; omega
 have hm := Pbci s.size
 have hNb : s.size + zz s.size + 9 ≤ 2199023255552 := by omega
 unfold shaF
 generalize s ++ pad s.size = p at hps
 generalize s.size + zz s.size + 9 = N at hps hm hNb
 have := Qos (B := Pdq.b0 k) (X := U9 ⊕ Zb) (N / 64) (fun i => ((⟨#[]⟩ : Zb), p, ((64 * i : Nat) : Int), runF (blk p) H0 i)) (.inl (⟨#[]⟩, runF (blk p) H0 (N / 64))) (fun i hi => by
  unfold Pdq.b0
  dsimp only
  have hl := Piv (f := blk p) (h := H0) rfl i
  rw [Zt (show ((64 * i : Nat) : Int) < (p.size : Int) by omega), Zw (n := ((64 * i : Nat) : Int) + 64), Zc, Pck hl]
  simp only [Zy, Zo]
  have hb : p.extract (((64 * i : Nat) : Int)).toNat (((64 * i : Nat) : Int) + 64).toNat = blk p i := by
   unfold blk; congr 1
  rw [hb, Pzu hk _ hl _ (Ple (by omega))]
  simp only [Zo]
  rw [Pck (show (Ppq (runF (blk p) H0 i) (blk p i)).length = 8 from rfl)]
  rfl) (by
  unfold Pdq.b0
  dsimp only
  rw [Zf (by omega), Pck (Piv (f := blk p) (h := H0) rfl _)]
  rfl) k (by omega)
 have e : iter (X := U9 ⊕ Zb) (Pdq.b0 k) k ((⟨#[]⟩ : Zb), p, 0, [1779033703, 3144134277, 1013904242, 2773480762, 1359893119, 2600822924, 528734635, 1541459225]) = some (.inl (⟨#[]⟩, runF (blk p) H0 (N / 64))) := this
 rw [e]
 simp only [Zo]
 rw [Pbed hk _ (Piv rfl _) (Pvx _)]
theorem spec_sha {k} (hk : Zk k) (s : Zb) (hn : s.size ≤ 1099511627776) : Pbj.f k s = some (shaF s) := by
 unfold Pbj.f
 have hz : zz s.size < 64 := by unfold zz; omega
 rw [show Pkz.f k = some H0 from rfl, show Pla.f k = some Qlr from rfl]
 simp only [Zo]
 have h1 := Qos (B := Pbj.b0 k) (X := (Zb × Zb × U5) ⊕ Zb) (zz s.size) (fun j => (s, (⟨#[]⟩ : Zb), H0, Qlr, [128] ++ List.replicate j 0)) (.inl (s, ⟨#[]⟩, H0, Qlr, [128] ++ List.replicate (zz s.size) 0)) (fun j hj => by
  unfold Pbj.b0
  dsimp only
  have e : Int.tmod (Zr ((s.size : Int) + (([128] ++ List.replicate j 0 : List Int).length : Int))) 64 = (((s.size + 1 + j) % 64 : Nat) : Int) := by
   rw [List.length_append, List.length_replicate]
   simp only [Zl, List.length_nil]
   rw [Zw, Int.tmod_eq_emod_of_nonneg (by omega)]; omega
  rw [e, Zf (by unfold zz at hj; omega), Qrr (by simp; unfold limOf; omega)]
  simp only [Bool.not_false, Zy, Zo]
  rw [List.append_assoc, show List.replicate j (0 : Int) ++ [0] = List.replicate (j + 1) 0 from (List.replicate_succ' (n := j) (a := (0 : Int))).symm]) (by
  unfold Pbj.b0
  dsimp only
  have e : Int.tmod (Zr ((s.size : Int) + (([128] ++ List.replicate (zz s.size) 0 : List Int).length : Int))) 64 = (((s.size + 1 + zz s.size) % 64 : Nat) : Int) := by
   rw [List.length_append, List.length_replicate]
   simp only [Zl, List.length_nil]
   rw [Zw, Int.tmod_eq_emod_of_nonneg (by omega)]; omega
  rw [e, Zt (by unfold zz; omega)]
  rfl) k (by omega)
 have e1 : iter (X := (Zb × Zb × U5) ⊕ Zb) (Pbj.b0 k) k (s, (⟨#[]⟩ : Zb), H0, Qlr, [128]) = some (.inl (s, ⟨#[]⟩, H0, Qlr, [128] ++ List.replicate (zz s.size) 0)) := h1
 rw [e1]
 simp only [Zo]
 unfold Pbj.d0
 dsimp only
 have hp0 : (strOfNums ([128] ++ List.replicate (zz s.size) 0)).size = zz s.size + 1 := by rw [V.Pas]; simp
 have hp1 : (strOfNums [0]).size = 1 := rfl
 rw [Qqv (by rw [hp0, hp1]; omega), Zw (n := 8 * (s.size : Int)), Pbcr hk _ (by omega) (by omega)]
 simp only [Zo]
 rw [Qqv (by rw [Zs, hp0, hp1, Pqv]; omega)]
 simp only [Zo]
 have ep : strOfNums ([128] ++ List.replicate (zz s.size) 0) ++ strOfNums [0] ++ fix7 (8 * (s.size : Int)) = pad s.size := by
  unfold pad
  rw [← Prg, List.append_assoc, show List.replicate (zz s.size) (0 : Int) ++ [0] = List.replicate (zz s.size + 1) 0 from (List.replicate_succ' (n := zz s.size) (a := (0 : Int))).symm, Prg]
  rfl
 rw [ep]
 have ea : Zr ((Zr (Int.tdiv (s.size : Int) 64)) * 64) = ((64 * (s.size / 64) : Nat) : Int) := by
  rw [Int.tdiv_eq_ediv_of_nonneg (by omega), Zw (n := (s.size : Int) / 64), Zw]; omega
 rw [ea]
 have h2 := Qos (B := Pbj.b1 k) (X := (Zb × Zb × List Int × List Int × U0) ⊕ Zb) (s.size / 64) (fun i => (s, (⟨#[]⟩ : Zb), runF (blk s) H0 i, Qlr, pad s.size, ((64 * (s.size / 64) : Nat) : Int), ((64 * i : Nat) : Int))) (.inl (s, ⟨#[]⟩, runF (blk s) H0 (s.size / 64), Qlr, pad s.size, ((64 * (s.size / 64) : Nat) : Int))) (fun i hi => by
  unfold Pbj.b1
  dsimp only
  have hl := Piv (f := blk s) (h := H0) rfl i
  rw [Zt (show ((64 * i : Nat) : Int) < ((64 * (s.size / 64) : Nat) : Int) by omega), Zw (n := ((64 * i : Nat) : Int) + 64), Zc]
  simp only [Zy, Zo]
  have hb : s.extract (((64 * i : Nat) : Int)).toNat (((64 * i : Nat) : Int) + 64).toNat = blk s i := by
   unfold blk; congr 1
  rw [hb, Psx hk _ hl _ (Ple (by omega))]
  rfl) (by
  unfold Pbj.b1
  dsimp only
  rw [Zf (by omega)]
  rfl) k (by omega)
 have e2 : iter (X := (Zb × Zb × List Int × List Int × U0) ⊕ Zb) (Pbj.b1 k) k (s, (⟨#[]⟩ : Zb), H0, Qlr, pad s.size, ((64 * (s.size / 64) : Nat) : Int), 0) = some (.inl (s, ⟨#[]⟩, runF (blk s) H0 (s.size / 64), Qlr, pad s.size, ((64 * (s.size / 64) : Nat) : Int))) := h2
 rw [e2]
 simp only [Zo]
 unfold Pbj.d1
 dsimp only
 rw [Zc]
 simp only [Zo, Zn]
 have hps := Pyw s.size
 have hes : (s.extract (64 * (s.size / 64)) s.size).size = s.size - 64 * (s.size / 64) := V.Pbh s (Nat.le_refl _)
 rw [Qqv (by rw [hes, hps]; omega)]
 simp only [Zo]
 have hm := Pbci s.size
 have hrs : (s.extract (64 * (s.size / 64)) s.size ++ pad s.size).size = s.size + zz s.size + 9 - 64 * (s.size / 64) := by rw [Zs, hes, hps]; omega
 have hP : (s ++ pad s.size).size = s.size + zz s.size + 9 := by rw [Zs, hps]; omega
 -- the blocks are the same
 have b1 : ∀ j, j < s.size / 64 → blk (s ++ pad s.size) j = blk s j := fun j hj => by
  refine V.Pmu (by rw [Ple (by omega), Ple (by omega)]) fun i hi => ?_
  rw [Ple (by omega)] at hi
  unfold blk
  rw [V.Pdd _ (by omega) (by omega), V.Pdd _ (by omega) (by omega), Pgm (by omega)]
 have b2 : ∀ j, j < (s.size + zz s.size + 9) / 64 - s.size / 64 → blk (s ++ pad s.size) (s.size / 64 + j) = blk (s.extract (64 * (s.size / 64)) s.size ++ pad s.size) j := fun j hj => by
  refine V.Pmu (by rw [Ple (by omega), Ple (by omega)]) fun i hi => ?_
  rw [Ple (by omega)] at hi
  unfold blk
  rw [V.Pdd _ (by omega) (by omega), V.Pdd _ (by omega) (by omega)]
  by_cases hc : 64 * (s.size / 64 + j) + i < s.size
  ·rw [Pgm hc, Pgm (by rw [hes]; omega), V.Pdd s (Nat.le_refl _) (by omega)]
   congr 1; omega
  ·rw [Pml (by omega) (by omega), Pml (by rw [hes]; omega) (by rw [hes]; omega), hes]
   congr 1; omega
 have hrun : runF (blk (s ++ pad s.size)) H0 ((s.size + zz s.size + 9) / 64) = runF (blk (s.extract (64 * (s.size / 64)) s.size ++ pad s.size)) (runF (blk s) H0 (s.size / 64)) ((s.size + zz s.size + 9) / 64 - s.size / 64) := by
  have e : (s.size + zz s.size + 9) / 64 = s.size / 64 + ((s.size + zz s.size + 9) / 64 - s.size / 64) := by omega
  conv => lhs; rw [e]
  rw [Pyz, Ppn b1, Ppn (f := fun j => blk (s ++ pad s.size) (s.size / 64 + j)) b2]
 unfold shaF
 have hsm := Pvx (f := blk (s ++ pad s.size)) ((s.size + zz s.size + 9) / 64)
 have hl8 := Piv (f := blk (s ++ pad s.size)) (h := H0) rfl ((s.size + zz s.size + 9) / 64)
 rw [hrun] at hsm hl8 ⊢
 have hl0 := Piv (f := blk s) (h := H0) rfl (s.size / 64)
 generalize runF (blk s) H0 (s.size / 64) = h0 at hl0 hsm hl8
 generalize s.extract (64 * (s.size / 64)) s.size ++ pad s.size = p at hrs hsm hl8
 have hN : (s.size + zz s.size + 9) / 64 - s.size / 64 = p.size / 64 := by omega
 have hpm : p.size % 64 = 0 := by omega
 have hpb : p.size ≤ 2199023255552 := by omega
 rw [hN] at hsm hl8 ⊢
 have h3 := Qos (B := Pbj.b2 k) (X := U9 ⊕ Zb) (p.size / 64) (fun i => ((⟨#[]⟩ : Zb), runF (blk p) h0 i, Qlr, p, ((64 * i : Nat) : Int))) (.inl (⟨#[]⟩, runF (blk p) h0 (p.size / 64))) (fun i hi => by
  unfold Pbj.b2
  dsimp only
  have hl := Piv (f := blk p) hl0 i
  rw [Zw (n := ((64 * i : Nat) : Int) + 64), Zt (by omega), Zc]
  simp only [Zy, Zo]
  have hb : p.extract (((64 * i : Nat) : Int)).toNat (((64 * i : Nat) : Int) + 64).toNat = blk p i := by
   unfold blk; congr 1
  rw [hb, Psx hk _ hl _ (Ple (by omega))]
  rfl) (by
  unfold Pbj.b2
  dsimp only
  rw [Zw, Zf (by omega)]
  rfl) k (by omega)
 have e3 : iter (X := U9 ⊕ Zb) (Pbj.b2 k) k ((⟨#[]⟩ : Zb), h0, Qlr, p, 0) = some (.inl (⟨#[]⟩, runF (blk p) h0 (p.size / 64))) := h3
 rw [e3]
 simp only [Zo]
 rw [Pbes hk _ hl8 hsm]
end S
section
theorem Pyq {k} (hk : Zk k) {d : DiskT} (hr : Right d) (n : Zb) : ∃ r, Phl.f k d n = some r ∧ r.2 = decide (0 ≤ fileM d n) := by
 have hs := hr.small
 unfold Phl.f
 simp only [Prod.eta, Psw hk d hs, hr.ok, Zo, Zx, Zz, Pzb hk hs]
 by_cases c : fileM d n < 0
 ·rw [Zt c]; exact ⟨_, rfl, by simp; omega⟩
 ·obtain ⟨e1, x, e2, e3⟩ := Pbbh c
  rw [Zf c]
  simp only [Zz, e1, e2, Zo]
  exact ⟨_, rfl, by simp; omega⟩
abbrev RecT := Int × Int × Int × Int × Zb
theorem Pzz (k : Nat) (a b : Int) : Pgo.f k a b = some (decide ((a = 0 ∧ b = 0) ∨ (1 ≤ a ∧ a ≤ 100000 ∧ 1 ≤ b ∧ b ≤ 100000))) := by rw [W.Pve, W.Pmx]
theorem Ptw (k : Nat) (r : RecT) : Pli.f k r = Pfd.f k r ∧ ∃ b, Pfd.f k r = some b := by
 unfold Pli.f Pfd.f Phe.f Phf.f
 simp only [V.l1, W.Pdr, W.Pmx, Pzz, Zo]
 by_cases h1 : r.1 = 1
 ·simp only [Zt h1, Zy]
  generalize (decide (0 ≤ r.2.1) && decide (r.2.1 ≤ 100000)) = p
  generalize (decide (-1 ≤ r.2.2.2.1) && decide (r.2.2.2.1 ≤ 4)) = q
  cases p <;> cases q <;> cases decide (r.2.2.1 = 0) <;> first | exact ⟨rfl, _, rfl⟩ | exact ⟨trivial, _, rfl⟩
 simp only [Zf h1, Zz]
 by_cases h2 : r.1 = 2
 ·simp only [Zt h2, Zy]
  generalize (decide (1 ≤ r.2.1) && decide (r.2.1 ≤ 100000)) = p
  generalize (decide (1 ≤ r.2.2.1) && decide (r.2.2.1 ≤ 100000)) = q
  cases p <;> cases q <;> cases decide (r.2.2.2.1 = 0) <;> cases decide ((r.2.2.2.2.size : Int) ≤ 900) <;> first | exact ⟨rfl, _, rfl⟩ | exact ⟨trivial, _, rfl⟩
 simp only [Zf h2, Zz]
 by_cases h3 : r.1 = 3
 ·simp only [Zt h3, Zy, decide_true, Bool.true_and, Bool.and_true]
  generalize (decide (1 ≤ r.2.2.1) && decide (r.2.2.1 ≤ 100000)) = q
  cases q <;> cases decide (r.2.1 = 0) <;> cases decide (r.2.2.2.1 = 0) <;> cases decide (r.2.2.2.2 = ⟨#[]⟩) <;> first | exact ⟨rfl, _, rfl⟩ | exact ⟨trivial, _, rfl⟩
 simp only [Zf h3, Zz]
 by_cases h4 : r.1 = 4
 ·simp only [Zt h4, Zy]
  generalize decide ((r.2.2.1 = 0 ∧ r.2.1 = 0) ∨ (1 ≤ r.2.2.1 ∧ r.2.2.1 ≤ 100000 ∧ 1 ≤ r.2.1 ∧ r.2.1 ≤ 100000)) = p
  cases p <;> cases decide (r.2.2.2.1 = 0) <;> first | exact ⟨rfl, _, rfl⟩ | exact ⟨trivial, _, rfl⟩
 simp only [Zf h4, Zz]
 exact ⟨trivial, _, rfl⟩
theorem Pvy {k} (hk : Zk k) (r : RecT) (hd : r.2.2.2.2.size ≤ 1048576) : ∃ s, Phn.f k r = some s ∧ Piz.f k r = some s := by
 obtain ⟨h1, b, h2⟩ := Ptw k r
 unfold Phn.f Piz.f
 rw [h1, h2, V.Pot]
 simp only [Zo]
 cases b with
 | false => exact ⟨_, rfl, rfl⟩
 | true =>
  simp only [Zx, Zz]
  obtain ⟨s1, e1, z1⟩ := V.Pks hk r.2.1
  obtain ⟨s2, e2, z2⟩ := V.Pks hk r.2.2.1
  obtain ⟨s3, e3, z3⟩ := V.Pks hk (Zr (r.2.2.2.1 + 1))
  have hz : (strOfNums [IntKind.wrap .u8 r.1]).size = 1 := by rw [V.Pas]; rfl
  rw [e1, e2, e3]
  simp only [Zo]
  rw [Za]
  simp only [Zo]
  rw [Qqv (by simp only [Zs]; omega)]
  simp only [Zo]
  rw [Qqv (by simp only [Zs]; omega)]
  simp only [Zo]
  rw [Qqv (by simp only [Zs]; omega)]
  exact ⟨_, rfl, rfl⟩
theorem Pzt {k} (hk : Zk k) (s : Zb) : ∃ f, Pge.f k s = some f ∧ Pfi.f k s = some f ∧ f.size ≤ 2008 := by
 unfold Pge.f Pfi.f
 rw [W.Pdr]
 simp only [Zo]
 by_cases c1 : (s.size : Int) = 0
 ·have e : (decide (1 ≤ (s.size : Int)) && decide ((s.size : Int) ≤ 2000)) = false := by simp; omega
  rw [Zt c1, e]
  exact ⟨_, rfl, rfl, Nat.zero_le _⟩
 ·by_cases c2 : 2000 < (s.size : Int)
  ·have e : (decide (1 ≤ (s.size : Int)) && decide ((s.size : Int) ≤ 2000)) = false := by simp; omega
   rw [Zf c1, Zt c2, e]
   exact ⟨_, rfl, rfl, Nat.zero_le _⟩
  ·have e : (decide (1 ≤ (s.size : Int)) && decide ((s.size : Int) ≤ 2000)) = true := by simp; omega
   rw [Zf c1, Zf c2, e]
   simp only [Zz, Zx]
   rw [Y.Pkw hk (s.size : Int) (by omega) (by omega), Y.Pip hk (s.size : Int) (by omega) (by omega)]
   simp only [Zo]
   obtain ⟨h, hh⟩ : ∃ h, strOfNums [(s.size : Int) / 256 / 256 / 256 % 256, (s.size : Int) / 256 / 256 % 256, (s.size : Int) / 256 % 256, (s.size : Int) % 256] = h := ⟨_, rfl⟩
   have hz : h.size = 4 := by rw [← hh, V.Pas]; rfl
   rw [hh, Za]
   simp only [Zo]
   obtain ⟨c, p, q, c0, c3⟩ := Y.Pyg hk (h ++ s) (by simp only [Zs]; omega)
   rw [p, q]
   simp only [Zo]
   rw [Y.Pkw hk c c0 c3, Y.Pip hk c c0 c3]
   simp only [Zo]
   obtain ⟨g, hg⟩ : ∃ g, strOfNums [c / 256 / 256 / 256 % 256, c / 256 / 256 % 256, c / 256 % 256, c % 256] = g := ⟨_, rfl⟩
   have gz : g.size = 4 := by rw [← hg, V.Pas]; rfl
   rw [hg, Za]
   simp only [Zo]
   rw [Qqv (by simp only [Zs]; omega)]
   exact ⟨_, rfl, rfl, by simp only [Zs]; omega⟩
abbrev WalT := Int × Int × Int × Int × List U2
end
section
open S (spec_sha impl_sha shaF shaF_size)
theorem Pww {k} (hk : Zk k) (s : Zb) (n1 : 1 ≤ s.size) (n2 : s.size ≤ 2000) : ∃ f, Pge.f k s = some f ∧ Pfi.f k s = some f ∧ f.size ≤ 2008 ∧ 1 ≤ f.size := by
 unfold Pge.f Pfi.f
 rw [W.Pdr]
 simp only [Zo]
 by_cases c1 : (s.size : Int) = 0
 ·have e : (decide (1 ≤ (s.size : Int)) && decide ((s.size : Int) ≤ 2000)) = false := by simp; omega
  rw [Zt c1, e]
  exact absurd c1 (by omega)
 ·by_cases c2 : 2000 < (s.size : Int)
  ·have e : (decide (1 ≤ (s.size : Int)) && decide ((s.size : Int) ≤ 2000)) = false := by simp; omega
   rw [Zf c1, Zt c2, e]
   exact absurd c2 (by omega)
  ·have e : (decide (1 ≤ (s.size : Int)) && decide ((s.size : Int) ≤ 2000)) = true := by simp; omega
   rw [Zf c1, Zf c2, e]
   simp only [Zz, Zx]
   rw [Y.Pkw hk (s.size : Int) (by omega) (by omega), Y.Pip hk (s.size : Int) (by omega) (by omega)]
   simp only [Zo]
   obtain ⟨h, hh⟩ : ∃ h, strOfNums [(s.size : Int) / 256 / 256 / 256 % 256, (s.size : Int) / 256 / 256 % 256, (s.size : Int) / 256 % 256, (s.size : Int) % 256] = h := ⟨_, rfl⟩
   have hz : h.size = 4 := by rw [← hh, V.Pas]; rfl
   rw [hh, Za]
   simp only [Zo]
   obtain ⟨c, p, q, c0, c3⟩ := Y.Pyg hk (h ++ s) (by simp only [Zs]; omega)
   rw [p, q]
   simp only [Zo]
   rw [Y.Pkw hk c c0 c3, Y.Pip hk c c0 c3]
   simp only [Zo]
   obtain ⟨g, hg⟩ : ∃ g, strOfNums [c / 256 / 256 / 256 % 256, c / 256 / 256 % 256, c / 256 % 256, c % 256] = g := ⟨_, rfl⟩
   have gz : g.size = 4 := by rw [← hg, V.Pas]; rfl
   rw [hg, Za]
   simp only [Zo]
   rw [Qqv (by simp only [Zs]; omega)]
   exact ⟨_, rfl, rfl, by simp only [Zs]; omega, by simp only [Zs]; omega⟩
abbrev SnapT := Int × Int × Zb
def snapB (s : SnapT) : Bool := if s.1 = 0 then decide (s.2.1 = 0) && decide (s.2.2 = (⟨#[]⟩ : Zb)) else (decide (1 ≤ s.1) && decide (s.1 ≤ 100000)) && ((decide (1 ≤ s.2.1) && decide (s.2.1 ≤ 100000)) && decide ((s.2.2.size : Int) ≤ 8000))
theorem Pzd (k : Nat) (s : SnapT) : Pho.f k s = some (snapB s) := by
 unfold Pho.f snapB
 by_cases h : s.1 = 0
 ·rw [Zt h, if_pos h]
  simp only [Zy]
  cases decide (s.2.1 = 0) <;> rfl
 ·rw [Zf h, if_neg h, V.l1, V.l1]
  simp only [Zz, Zo]
  cases (decide (1 ≤ s.1) && decide (s.1 ≤ 100000)) <;> cases (decide (1 ≤ s.2.1) && decide (s.2.1 ≤ 100000)) <;> rfl
theorem Pym (k : Nat) (s : SnapT) : Phd.f k s = some (snapB s) := by
 unfold Phd.f snapB
 rw [W.Pdr, W.Pdr]
 simp only [Zo]
 by_cases h : s.1 = 0
 ·rw [Zt h, if_pos h, Zf (show ¬ 1 ≤ s.1 by omega)]
  cases decide (s.2.1 = 0) <;> cases decide (s.2.2 = (⟨#[]⟩ : Zb)) <;> rfl
 ·rw [Zf h, if_neg h]
  simp only [Bool.false_and, Zz]
  cases (decide (1 ≤ s.1) && decide (s.1 ≤ 100000)) <;> cases (decide (1 ≤ s.2.1) && decide (s.2.1 ≤ 100000)) <;> rfl
theorem Pty {k} (hk : Zk k) (s : SnapT) (hs : s.2.2.size ≤ 1048576) : ∃ t, Pim.f k s = some t ∧ Pht.f k s = some t ∧ (t = ⟨#[]⟩ ↔ snapB s = false ∨ s.1 = 0) := by
 unfold Pim.f Pht.f
 rw [Pzd, Pym]
 simp only [Zo]
 cases hB : snapB s with
 | false => exact ⟨_, rfl, rfl, by simp⟩
 | true =>
  simp only [Zx, Zz]
  unfold snapB at hB
  by_cases h : s.1 = 0
  ·rw [if_pos h] at hB
   simp only [Zd] at hB
   rw [Zt h, hB.1, hB.2]
   exact ⟨_, rfl, rfl, by simp [h]⟩
  ·rw [if_neg h] at hB
   simp only [Zd, Zq] at hB
   obtain ⟨⟨a1, a2⟩, ⟨a3, a4⟩, a5⟩ := hB
   rw [Zf h]
   simp only [Bool.false_and, Zz]
   rw [Y.Pkw hk s.1 (by omega) (by omega), Y.Pkw hk s.2.1 (by omega) (by omega), Y.Pkw hk (s.2.2.size : Int) (by omega) (by omega), Y.Pip hk s.1 (by omega) (by omega), Y.Pip hk s.2.1 (by omega) (by omega), Y.Pip hk (s.2.2.size : Int) (by omega) (by omega), spec_sha hk _ (by omega), impl_sha hk _ (by omega)]
   obtain ⟨f1, e1⟩ : ∃ f, strOfNums [s.1 / 256 / 256 / 256 % 256, s.1 / 256 / 256 % 256, s.1 / 256 % 256, s.1 % 256] = f := ⟨_, rfl⟩
   obtain ⟨f2, e2⟩ : ∃ f, strOfNums [s.2.1 / 256 / 256 / 256 % 256, s.2.1 / 256 / 256 % 256, s.2.1 / 256 % 256, s.2.1 % 256] = f := ⟨_, rfl⟩
   obtain ⟨f3, e3⟩ : ∃ f, strOfNums [(s.2.2.size : Int) / 256 / 256 / 256 % 256, (s.2.2.size : Int) / 256 / 256 % 256, (s.2.2.size : Int) / 256 % 256, (s.2.2.size : Int) % 256] = f := ⟨_, rfl⟩
   have z1 : f1.size = 4 := by rw [← e1]; rfl
   have z2 : f2.size = 4 := by rw [← e2]; rfl
   have z3 : f3.size = 4 := by rw [← e3]; rfl
   have z4 := shaF_size s.2.2
   rw [e1, e2, e3]
   simp only [Zo]
   rw [Za]
   simp only [Zo]
   rw [Qqv (by simp only [Zs]; omega)]
   simp only [Zo]
   rw [Qqv (by simp only [Zs]; omega)]
   simp only [Zo]
   obtain ⟨q, hq⟩ : ∃ q, f1 ++ f2 ++ f3 ++ shaF s.2.2 = q := ⟨_, rfl⟩
   have zq : q.size = 44 := by rw [← hq]; simp only [Zs]; omega
   rw [hq]
   obtain ⟨f, g1, g2, g3, g4⟩ := Pww hk q (by omega) (by omega)
   rw [g1, g2]
   simp only [Zo]
   rw [Za]
   refine ⟨_, rfl, rfl, ?_⟩
   constructor
   ·intro e
    have := congrArg ByteArray.size e
    have z : (⟨#[]⟩ : Zb).size = 0 := rfl
    rw [Zs, z] at this
    omega
   ·rintro (e | e)
    ·cases e
    ·exact absurd e h
end
namespace T
open V Y
theorem Ppp {k} (hk : Zk k) (s : Zb) : Pbx.f k s 4 = some (if s.size < 4 then (0, false) else (rv s, true)) := by
 unfold Pbx.f
 rw [V.l1]
 simp only [Zo]
 rw [show (decide ((1 : Int) ≤ 4) && decide ((4 : Int) ≤ 7)) = true from rfl]
 simp only [Zx, Zz]
 by_cases h : s.size < 4
 ·rw [Zt (show ((s.size : Int) < 4) by omega), if_pos h]; rfl
 ·rw [Zf (show ¬ ((s.size : Int) < 4) by omega), if_neg h]
  simp only [Zz]
  have step : ∀ (z : Int) (g : Bool) (a : Int) (i : Nat), i < 4 → 0 ≤ a → a < 16777216 → Pbx.b0 k (s, 4, z, g, a, (i : Int)) = some (.inl (s, 4, z, g, a * 256 + Qmy s i, ((i + 1 : Nat) : Int))) := by
   intro z g a i hi a0 a1
   unfold Pbx.b0
   dsimp only
   have b0 := Peh s i
   have b1 := Pep s i
   rw [Zt (show (i : Int) < 4 by omega), Zi]
   simp only [Zy, Zo, Zn]
   rw [Zw (n := a * 256), Zw (n := Qmy s i), Zw (n := a * 256 + Qmy s i), Zw]
   have e1 : (i : Int) + 1 = ((i + 1 : Nat) : Int) := by omega
   rw [e1]
  obtain ⟨k, rfl⟩ : ∃ m, k = m + 5 := ⟨k - 5, by omega⟩
  have b0 := Peh s 0
  have b1 := Pep s 0
  have c0 := Peh s 1
  have c1 := Pep s 1
  have d0 := Peh s 2
  have d1 := Pep s 2
  have key : iter (X := (Int × Bool × Int) ⊕ (Int × Bool)) (Pbx.b0 (k + 5)) (k + 5) (s, 4, 0, false, 0, ((0 : Nat) : Int)) = some (.inl (0, false, rv s)) := by
   rw [Paz (step 0 false 0 0 (by omega) (by omega) (by omega)), Paz (step 0 false _ 1 (by omega) (by omega) (by omega)), Paz (step 0 false _ 2 (by omega) (by omega) (by omega)), Paz (step 0 false _ 3 (by omega) (by omega) (by omega))]
   refine Pbi ?_
   unfold Pbx.b0
   dsimp only
   rw [Zf (by omega)]
   simp only [Zz]
   unfold rv
   rw [show (0 : Int) * 256 + Qmy s 0 = Qmy s 0 by omega]
  rw [show (s, (4 : Int), (0 : Int), false, (0 : Int), (0 : Int)) = (s, (4 : Int), (0 : Int), false, (0 : Int), ((0 : Nat) : Int)) from rfl, key]
  rfl
theorem Pbaf {k} (hk : Zk k) (p : Zb) : Pge.f k p = some (Pqx p) := by
 obtain ⟨f, h1, h2, _⟩ := Pzt hk p
 rw [Psn hk] at h2
 injection h2 with h2
 rw [h1, h2]
theorem Pqd {k} (hk : Zk k) (s : Zb) : Pgj.f k s = some (unF s) := by
 unfold Pgj.f unF
 rw [Ppp hk]
 have hrv := rv_nn s
 simp only [Zo]
 by_cases h : s.size < 4
 ·rw [if_pos h, if_pos h]; rfl
 rw [if_neg h, if_neg h]
 simp only [Zx, Zz]
 by_cases h1 : 1 ≤ rv s ∧ rv s ≤ 2000
 ·rw [Zf (show ¬ rv s = 0 by omega), Zf (show ¬ 2000 < rv s by omega), if_neg (by simpa using h1)]
  simp only [Zz]
  rw [Zw]
  by_cases h2 : (s.size : Int) < 8 + rv s
  ·rw [Zt h2, if_pos h2]; rfl
  ·rw [Zf h2, if_neg h2]
   simp only [Zz]
   rw [Zc]
   simp only [Zo]
   rw [show (8 + rv s).toNat = 8 + (rv s).toNat by omega, show (8 : Int).toNat = 8 from rfl, Pbaf hk]
   simp only [Zo]
   rw [Zc]
   simp only [Zo]
   rw [show (8 + rv s).toNat = 8 + (rv s).toNat by omega, show (0 : Int).toNat = 0 from rfl]
   by_cases h3 : Pqx (s.extract 8 (8 + (rv s).toNat)) = s.extract 0 (8 + (rv s).toNat)
   ·rw [Zt h3, if_neg (by simp [h3])]; rfl
   ·rw [Zf h3, if_pos h3]; rfl
 ·rw [if_pos h1]
  by_cases h0 : rv s = 0
  ·rw [Zt h0]; rfl
  ·rw [Zf h0, Zt (show 2000 < rv s by omega)]; rfl
end T
namespace T
open V Y
theorem Pqn {s : Zb} (h : (unF s).2.2 = 0) : 9 ≤ (unF s).2.1 ∧ (unF s).2.1 ≤ s.size ∧ 1 ≤ (unF s).1.size ∧ (unF s).1.size ≤ 2000 := by
 unfold unF at h ⊢
 split at h
 ·cases h
 rename_i c1
 rw [if_neg c1]
 split at h
 ·cases h
 rename_i c2
 rw [if_neg c2]
 split at h
 ·cases h
 rename_i c3
 rw [if_neg c3]
 split at h
 ·cases h
 rename_i c4
 rw [if_neg c4]
 have c2 : 1 ≤ rv s ∧ rv s ≤ 2000 := by simpa using c2
 have hz : (s.extract 8 (8 + (rv s).toNat)).size = (rv s).toNat := by rw [Pbh _ (by omega)]; omega
 simp only [hz]
 omega
theorem Pwx {k} (hk : Zk k) (s : Zb) (hs : s.size ≤ 4194304) (z1 : List Zb) (z2 : Int) : ∀ (d pos : Nat) (acc : List Zb) (kk : Nat), pos + d = s.size → d < kk → acc.length ≤ pos → (∀ p ∈ acc, 1 ≤ p.size ∧ p.size ≤ 2000) →
  ∃ (ps : List Zb) (n : Nat), iter (X := Unit ⊕ U12) (Peq.b0 k) kk (s, z1, z2, acc, (pos : Int)) = some (.inr (ps, (n : Int))) ∧
   (iter (X := (List Zb × Int × U12) ⊕ U12) (Pdz.b0 k) kk (s, z1, z2, acc, (pos : Int)) = some (.inr (ps, (n : Int))) ∨ iter (X := (List Zb × Int × U12) ⊕ U12) (Pdz.b0 k) kk (s, z1, z2, acc, (pos : Int)) = some (.inl (z1, z2, ps, (n : Int)))) ∧ n ≤ s.size ∧ ps.length ≤ n ∧ ∀ p ∈ ps, 1 ≤ p.size ∧ p.size ≤ 2000 := by
 intro d
 induction d using Nat.strongRecOn with
 | ind d ih =>
  intro pos acc kk hp hkk ha hb
  obtain ⟨kk, rfl⟩ : ∃ m, kk = m + 1 := ⟨kk - 1, by omega⟩
  obtain ⟨u, hu⟩ : ∃ u, s.extract pos s.size = u := ⟨_, rfl⟩
  have hz : u.size = d := by rw [← hu, Pbh _ (Nat.le_refl _)]; omega
  have ei : Peq.b0 k (s, z1, z2, acc, (pos : Int)) = if (unF u).2.2 = 0 then some (.inl (s, z1, z2, acc ++ [(unF u).1], (pos : Int) + (unF u).2.1)) else some (.inr (.inr (acc, (pos : Int)))) := by
   unfold Peq.b0
   dsimp only
   rw [Zc]
   simp only [Zo]
   rw [show ((pos : Int)).toNat = pos from rfl, show ((s.size : Int)).toNat = s.size from rfl, hu, Ppy hk]
   simp only [Zo]
   by_cases h : (unF u).2.2 = 0
   ·have g := Pqn h
    rw [Zt h, if_pos h, Qrr (by simp [limOf]; omega), Zw]
    rfl
   ·rw [Zf h, if_neg h]; rfl
  have es : pos < s.size → Pdz.b0 k (s, z1, z2, acc, (pos : Int)) = if (unF u).2.2 = 0 then some (.inl (s, z1, z2, acc ++ [(unF u).1], (pos : Int) + (unF u).2.1)) else some (.inr (.inr (acc, (pos : Int)))) := fun hlt => by
   unfold Pdz.b0
   dsimp only
   rw [Zt (by omega), Zc]
   simp only [Zy, Zo]
   rw [show ((pos : Int)).toNat = pos from rfl, show ((s.size : Int)).toNat = s.size from rfl, hu, Pqd hk]
   simp only [Zo]
   by_cases h : (unF u).2.2 = 0
   ·have g := Pqn h
    rw [Zt h, if_pos h, Qrr (by simp [limOf]; omega), Zw]
    rfl
   ·rw [Zf h, if_neg h]; rfl
  by_cases h : (unF u).2.2 = 0
  ·have g := Pqn h
   rw [if_pos h] at ei es
   have es := es (by omega)
   obtain ⟨m, hm⟩ : ∃ m : Nat, (unF u).2.1 = (m : Int) := ⟨(unF u).2.1.toNat, by omega⟩
   have e2 : (pos : Int) + (unF u).2.1 = ((pos + m : Nat) : Int) := by omega
   rw [e2] at ei es
   obtain ⟨ps, n, h1, h2, h3⟩ := ih (d - m) (by omega) (pos + m) (acc ++ [(unF u).1]) kk (by omega) (by omega) (by simp; omega) (fun p hp => by
    rcases List.mem_append.1 hp with hp | hp
    ·exact hb p hp
    ·simp only [List.mem_singleton] at hp; subst hp; exact g.2.2)
   refine ⟨ps, n, ?_, ?_, h3⟩
   ·rw [V.Paz ei]; exact h1
   ·rw [V.Paz es]; exact h2
  ·rw [if_neg h] at ei es
   refine ⟨acc, pos, V.Pbi ei, ?_, by omega, ha, hb⟩
   by_cases hlt : pos < s.size
   ·exact .inl (V.Pbi (es hlt))
   ·refine .inr (V.Pbi ?_)
    unfold Pdz.b0
    dsimp only
    rw [Zf (by omega)]
    rfl
theorem Pwy {k} (hk : Zk k) (s : Zb) (hs : s.size ≤ 4194304) : ∃ (ps : List Zb) (n : Nat), Pdz.f k s = some (ps, (n : Int)) ∧ Peq.f k s = some (ps, (n : Int)) ∧ n ≤ s.size ∧ ps.length ≤ n ∧ ∀ p ∈ ps, 1 ≤ p.size ∧ p.size ≤ 2000 := by
 obtain ⟨ps, n, h1, h2, h3⟩ := Pwx hk s hs [] 0 s.size 0 [] k (by omega) (by omega) (by simp) (by simp)
 rw [show ((0 : Nat) : Int) = 0 from rfl] at h1 h2
 refine ⟨ps, n, ?_, ?_, h3⟩
 ·unfold Pdz.f
  rcases h2 with h2 | h2
  ·rw [h2]; rfl
  ·rw [h2]; rfl
 ·unfold Peq.f
  rw [h1]; rfl
end T
namespace T
open V Y
theorem Pnu {k} (hk : Zk k) (t : Zb) (ht : t.size ≤ 1048576) : 0 ≤ (rdv k t).1 ∧ (rdv k t).1 ≤ 562949953421311 ∧ 0 ≤ (rdv k t).2 ∧ (rdv k t).2 ≤ t.size := by
 rcases (Pij hk t (by omega)).2.2 with e | ⟨h1, h1', h2, _, h3, _⟩
 ·rw [e]; simp
 ·exact ⟨h1, h1', by omega, h3⟩
theorem Pqa {k} (hk : Zk k) (t : Zb) (h1 : 1 ≤ t.size) (h2 : t.size ≤ 2000) : ∃ r, Phm.f k t = some r ∧ Phb.f k t = some r ∧ (r.2 = true → Pfd.f k r.1 = some true) := by
 have b0 := Peh t 0
 have b1 := Pep t 0
 have hne : t ≠ ⟨#[]⟩ := fun e => by
  have := congrArg ByteArray.size e
  have z : (⟨#[]⟩ : Zb).size = 0 := rfl
  omega
 have zx : ∀ a : Nat, a ≤ t.size → (t.extract a t.size).size = t.size - a := fun a ha => Pbh _ (Nat.le_refl _)
 have v1 := Pnu hk (t.extract 1 t.size) (by rw [zx 1 h1]; omega)
 rw [zx 1 h1] at v1
 obtain ⟨a1, ha1⟩ : ∃ a : Nat, (a : Int) = 1 + (rdv k (t.extract 1 t.size)).2 := ⟨(1 + (rdv k (t.extract 1 t.size)).2).toNat, by omega⟩
 have hle1 : a1 ≤ t.size := by omega
 have v2 := Pnu hk (t.extract a1 t.size) (by rw [zx a1 hle1]; omega)
 rw [zx a1 hle1] at v2
 obtain ⟨a2, ha2⟩ : ∃ a : Nat, (a : Int) = a1 + (rdv k (t.extract a1 t.size)).2 := ⟨((a1 : Int) + (rdv k (t.extract a1 t.size)).2).toNat, by omega⟩
 have hle2 : a2 ≤ t.size := by omega
 have v3 := Pnu hk (t.extract a2 t.size) (by rw [zx a2 hle2]; omega)
 rw [zx a2 hle2] at v3
 obtain ⟨a3, ha3⟩ : ∃ a : Nat, (a : Int) = a2 + (rdv k (t.extract a2 t.size)).2 := ⟨((a2 : Int) + (rdv k (t.extract a2 t.size)).2).toNat, by omega⟩
 have hle3 : a3 ≤ t.size := by omega
 obtain ⟨s, e1, e2⟩ := Pvy hk (Qmy t 0, (rdv k (t.extract 1 t.size)).1, (rdv k (t.extract a1 t.size)).1, (rdv k (t.extract a2 t.size)).1 - 1, t.extract a3 t.size) (by simp only [zx a3 hle3]; omega)
 obtain ⟨R, hR⟩ : ∃ R : (Int × Int × Int × U2) × Bool, R = if (rdv k (t.extract 1 t.size)).2 = 0 ∨ (rdv k (t.extract a1 t.size)).2 = 0 ∨ (rdv k (t.extract a2 t.size)).2 = 0 ∨ s ≠ t then ((0, 0, 0, 0, ⟨#[]⟩), false) else ((Qmy t 0, (rdv k (t.extract 1 t.size)).1, (rdv k (t.extract a1 t.size)).1, (rdv k (t.extract a2 t.size)).1 - 1, t.extract a3 t.size), true) := ⟨_, rfl⟩
 refine ⟨R, ?_, ?_, ?_⟩
 rotate_left 2
 ·rw [hR]
  split
  ·intro h; cases h
  ·rename_i c
   intro _
   obtain ⟨_, b, hb⟩ := Ptw k (Qmy t 0, (rdv k (t.extract 1 t.size)).1, (rdv k (t.extract a1 t.size)).1, (rdv k (t.extract a2 t.size)).1 - 1, t.extract a3 t.size)
   cases b with
   | true => exact hb
   | false =>
    unfold Phn.f at e1
    rw [hb] at e1
    have e1 : (⟨#[]⟩ : Zb) = s := by simpa using e1
    have : s = t := by simpa using (fun x => c (.inr (.inr (.inr x))))
    exact absurd (e1.trans this).symm hne
 ·unfold Phm.f
  rw [Zf (show ¬ ((t.size : Int) = 0) by omega), Zf (show ¬ (2000 < (t.size : Int)) by omega), Zi, Zc]
  simp only [Zz, Zo]
  rw [show (0 : Int).toNat = 0 from rfl, show (1 : Int).toNat = 1 from rfl, show ((t.size : Int)).toNat = t.size from rfl, (Pij hk (t.extract 1 t.size) (by rw [zx 1 h1]; omega)).1]
  simp only [Zo]
  rw [Zw (n := 1 + (rdv k (t.extract 1 t.size)).2), ← ha1, Zc]
  simp only [Zo]
  rw [show ((a1 : Int)).toNat = a1 from rfl, show ((t.size : Int)).toNat = t.size from rfl, (Pij hk (t.extract a1 t.size) (by rw [zx a1 hle1]; omega)).1]
  simp only [Zo]
  rw [Zw (n := (a1 : Int) + (rdv k (t.extract a1 t.size)).2), ← ha2, Zc]
  simp only [Zo]
  rw [show ((a2 : Int)).toNat = a2 from rfl, show ((t.size : Int)).toNat = t.size from rfl, (Pij hk (t.extract a2 t.size) (by rw [zx a2 hle2]; omega)).1]
  simp only [Zo]
  rw [Zw (n := (a2 : Int) + (rdv k (t.extract a2 t.size)).2), ← ha3, Zc]
  simp only [Zo]
  rw [show ((a3 : Int)).toNat = a3 from rfl, show ((t.size : Int)).toNat = t.size from rfl, Zw (n := Qmy t 0), Zw (n := (rdv k (t.extract a2 t.size)).1 - 1), e1, hR]
  by_cases c1 : (rdv k (t.extract 1 t.size)).2 = 0
  ·rw [Zt c1, if_pos (.inl c1)]; rfl
  by_cases c2 : (rdv k (t.extract a1 t.size)).2 = 0
  ·rw [Zf c1, Zt c2, if_pos (.inr (.inl c2))]; rfl
  by_cases c3 : (rdv k (t.extract a2 t.size)).2 = 0
  ·rw [Zf c1, Zf c2, Zt c3, if_pos (.inr (.inr (.inl c3)))]; rfl
  rw [Zf c1, Zf c2, Zf c3]
  simp only [Zz, Zo]
  by_cases c4 : s = t
  ·rw [Zt c4, if_neg (by simp [c1, c2, c3, c4])]; rfl
  ·rw [Zf c4, if_pos (.inr (.inr (.inr c4)))]; rfl
 ·have hb : Pds.f k (t, false) = some (Qmy t 0, t.extract 1 t.size, false) := by
   unfold Pds.f Pdx.f
   rw [W.Pdr, Zt (show (0 : Int) ≤ 1 by omega), Zt (show (1 : Int) ≤ ((t, false).1.size : Int) by simp only; omega)]
   simp only [Zz, Zo, Bool.and_self, Zx]
   rw [Zc, Zc]
   simp only [Zo]
   rw [show (0 : Int).toNat = 0 from rfl, show (1 : Int).toNat = 1 from rfl, show ((t.size : Int)).toNat = t.size from rfl]
   have z : (t.extract 0 1).size = 1 := Pbh _ h1
   have hn : t.extract 0 1 ≠ ⟨#[]⟩ := fun e => by
    have := congrArg ByteArray.size e
    have z0 : (⟨#[]⟩ : Zb).size = 0 := rfl
    omega
   rw [Zf hn, Zi]
   simp only [Zz, Zo]
   rw [show (0 : Int).toNat = 0 from rfl, Pdd t h1 (by omega), Nat.zero_add, Zw]
  have hx : ∀ a c : Nat, a + c ≤ t.size → (t.extract a t.size).extract c (t.extract a t.size).size = t.extract (a + c) t.size := fun a c h => Pln t a (by omega) c h
  unfold Phb.f
  rw [hb]
  simp only [Zo]
  rw [Pmq hk _ _ (by rw [zx 1 h1]; omega), hR]
  simp only [Zo]
  have bad : ∀ u : Zb, u.size ≤ 2000 → Pax.f k (u, true) = some (0, u, true) := fun u hu => by rw [Pmq hk u true (by omega), Pyu]
  by_cases c1 : (rdv k (t.extract 1 t.size)).2 = 0
  ·rw [Poj c1, if_pos (.inl c1)]
   simp only
   rw [bad _ (by rw [zx 1 h1]; omega)]
   simp only [Zo]
   rw [bad _ (by rw [zx 1 h1]; omega)]
   rfl
  rw [Pok c1, hx 1 _ (by omega), show 1 + (rdv k (t.extract 1 t.size)).2.toNat = a1 by omega]
  simp only
  rw [Pmq hk _ _ (by rw [zx a1 hle1]; omega)]
  simp only [Zo]
  by_cases c2 : (rdv k (t.extract a1 t.size)).2 = 0
  ·rw [Poj c2, if_pos (.inr (.inl c2))]
   simp only
   rw [bad _ (by rw [zx a1 hle1]; omega)]
   rfl
  rw [Pok c2, hx a1 _ (by omega), show a1 + (rdv k (t.extract a1 t.size)).2.toNat = a2 by omega]
  simp only
  rw [Pmq hk _ _ (by rw [zx a2 hle2]; omega)]
  simp only [Zo]
  by_cases c3 : (rdv k (t.extract a2 t.size)).2 = 0
  ·rw [Poj c3, if_pos (.inr (.inr (.inl c3)))]
   rfl
  rw [Pok c3, hx a2 _ (by omega), show a2 + (rdv k (t.extract a2 t.size)).2.toNat = a3 by omega]
  simp only [Zz]
  rw [Zf hne, Zw (n := (rdv k (t.extract a2 t.size)).1 - 1), e2]
  simp only [Zz, Zo]
  by_cases c4 : s = t
  ·rw [Zt c4, if_neg (by simp [c1, c2, c3, c4])]; rfl
  ·rw [Zf c4, if_pos (.inr (.inr (.inr c4)))]; rfl
end T
namespace T
open V Y
theorem Pbfz {s : Zb} (h : (unF s).2.2 ≠ 0) : (unF s).1 = ⟨#[]⟩ ∧ (unF s).2.1 = 0 := by
 unfold unF at h ⊢
 split
 ·exact ⟨rfl, rfl⟩
 split
 ·exact ⟨rfl, rfl⟩
 split
 ·exact ⟨rfl, rfl⟩
 split
 ·exact ⟨rfl, rfl⟩
 ·rename_i c1 c2 c3 c4
  rw [if_neg c1, if_neg c2, if_neg c3, if_neg c4] at h
  exact absurd rfl h
theorem Ptv {k} (hk : Zk k) (s : Zb) (hs : s.size ≤ 1048576) : ∃ r, Pil.f k s = some r ∧ Phs.f k s = some r ∧ 0 ≤ r.1.1 ∧ r.1.1 < 4294967296 ∧ r.1.2.2.size ≤ 1048576 ∧ (r.2 = true → 0 < r.1.1) := by
 unfold Pil.f Phs.f
 rw [Pqd hk, Ppy hk]
 simp only [Zo]
 rw [Ppp hk]
 simp only [Zo]
 by_cases h : (unF s).2.2 = 0
 ·obtain ⟨g1, g2, g3, g4⟩ := Pqn h
  rw [Zt h]
  simp only [Zx, Zz]
  by_cases h44 : ((unF s).1.size : Int) = 44
  ·rw [Zt h44, if_neg (by omega), Zw (n := (s.size : Int) - (unF s).2.1), Zc, Zc (n := s.size)]
   simp only [Zx, Zz, Zo]
   obtain ⟨q, hq⟩ : ∃ q, (unF s).1.extract (4 : Int).toNat ((unF s).1.size : Int).toNat = q := ⟨_, rfl⟩
   obtain ⟨x, hx⟩ : ∃ x, s.extract (unF s).2.1.toNat (s.size : Int).toNat = x := ⟨_, rfl⟩
   have zx : (x.size : Int) = s.size - (unF s).2.1 := by rw [← hx, show ((s.size : Int)).toNat = s.size from rfl, Pbh _ (Nat.le_refl _)]; omega
   rw [hq, hx, Ppp hk, read4 hk, read4 hk]
   simp only [Zo]
   rw [if_neg (show ¬ (unF s).1.size < 4 by omega)]
   obtain ⟨t, e1, e2, e3⟩ := Pty hk (rv (unF s).1, (if q.size < 4 then ((0 : Int), false) else (rv q, true)).1, x) (by simp only; omega)
   rw [e1, e2]
   simp only [Zo]
   by_cases hb : 8000 < (s.size : Int) - (unF s).2.1
   ·rw [Zt hb]
    have ht : t = ⟨#[]⟩ := e3.2 (by
     by_cases h0 : rv (unF s).1 = 0
     ·exact .inr h0
     ·left
      unfold snapB
      rw [if_neg h0, Zf (show ¬ ((x.size : Int) ≤ 8000) by omega)]
      simp)
    have hne : t ≠ s := fun e => by
     have z : (⟨#[]⟩ : Zb).size = 0 := rfl
     rw [ht] at e
     have := congrArg ByteArray.size e
     omega
    rw [Zf hne]
    exact ⟨_, rfl, rfl, by decide, by decide, by decide, by decide⟩
   ·rw [Zf hb]
    simp only [Zz]
    by_cases ht : t = s
    ·rw [Zt ht]
     have hne : ¬ rv (unF s).1 = 0 := fun e => by
      have z : (⟨#[]⟩ : Zb).size = 0 := rfl
      have := congrArg ByteArray.size ((e3.2 (.inr e)).symm.trans ht)
      omega
     have := rv_nn (unF s).1
     exact ⟨_, rfl, rfl, this.1, this.2, by show x.size ≤ _; omega, fun _ => by show 0 < rv (unF s).1; omega⟩
    ·rw [Zf ht]; exact ⟨_, rfl, rfl, by decide, by decide, by decide, by decide⟩
  ·rw [Zf h44]
   exact ⟨_, rfl, rfl, by decide, by decide, by decide, by decide⟩
 ·obtain ⟨b1, b2⟩ := Pbfz h
  rw [Zf h, b1]
  exact ⟨_, rfl, rfl, by decide, by decide, by decide, by decide⟩
end T
namespace T
open W V Y
structure WalG (w : WalT) : Prop where
 term : 0 ≤ w.1 ∧ w.1 ≤ 100000
 vote : -1 ≤ w.2.1 ∧ w.2.1 ≤ 4
 base : (w.2.2.1 = 0 ∧ w.2.2.2.1 = 0) ∨ (1 ≤ w.2.2.1 ∧ w.2.2.1 ≤ 100000 ∧ 1 ≤ w.2.2.2.1 ∧ w.2.2.2.1 ≤ 100000)
 le : w.2.2.2.1 ≤ w.1
 len : w.2.2.2.2.length ≤ 60
 top : w.2.2.1 + w.2.2.2.2.length ≤ 100000
 ents : ∀ i (h : i < w.2.2.2.2.length), 1 ≤ (w.2.2.2.2[i]).1 ∧ Phi w.2.2.2.2 w.2.2.2.1 i ≤ (w.2.2.2.2[i]).1 ∧ (w.2.2.2.2[i]).1 ≤ w.1 ∧ (w.2.2.2.2[i]).2.size ≤ 900
theorem WalG.ok {w : WalT} (h : WalG w) : walB w = true := by
 unfold walB
 simp only [Zd, Zq]
 refine ⟨⟨⟨⟨⟨⟨h.term, h.vote⟩, h.base⟩, h.le⟩, h.len⟩, h.top⟩, List.all_eq_true.2 fun i hi => ?_⟩
 have hi := List.mem_range.1 hi
 have := h.ents i hi
 unfold entP
 rw [Zg hi]
 simp only [Zd, Zq]
 exact ⟨⟨⟨this.1, this.2.1⟩, this.2.2.1⟩, this.2.2.2⟩
theorem Psp {l m : List U2} (bt : Int) {i : Nat} (hi : i ≤ l.length) : Phi (l ++ m) bt i = Phi l bt i := by
 cases i with
 | zero => rfl
 | succ i => rw [Phj _ _ (by rw [List.length_append]; omega), Phj _ _ (by omega), List.getElem_append_left (by omega)]
theorem WalG.pre {t v b bt : Int} {l m : List U2} (h : WalG (t, v, b, bt, l ++ m)) : WalG (t, v, b, bt, l) := by
 obtain ⟨h1, h2, h3, h4, h5, h6, h7⟩ := h
 dsimp only at h1 h2 h3 h4 h5 h6 h7
 rw [List.length_append] at h5 h6
 refine ⟨h1, h2, h3, h4, by simp only; omega, by simp only; omega, fun i hi => ?_⟩
 dsimp only at hi ⊢
 have := h7 i (by rw [List.length_append]; omega)
 rw [List.getElem_append_left hi] at this
 refine ⟨this.1, ?_, this.2.2⟩
 rw [← Psp (m := m) bt (Nat.le_of_lt hi)]; exact this.2.1
theorem WalG.more {t v b bt : Int} {l : List U2} {e : Int × Zb} (h : WalG (t, v, b, bt, l)) (hl : l.length < 60) (ht : b + l.length + 1 ≤ 100000) (e1 : 1 ≤ e.1) (e2 : Phi l bt l.length ≤ e.1) (e3 : e.1 ≤ t) (e4 : e.2.size ≤ 900) : WalG (t, v, b, bt, l ++ [e]) := by
 obtain ⟨h1, h2, h3, h4, h5, h6, h7⟩ := h
 dsimp only at h1 h2 h3 h4 h5 h6 h7
 refine ⟨h1, h2, h3, h4, by simp; omega, by simp; omega, fun i hi => ?_⟩
 dsimp only at hi ⊢
 simp only [List.length_append, Zl, List.length_nil] at hi
 rw [Psp bt (by omega)]
 by_cases hc : i < l.length
 ·rw [List.getElem_append_left hc]; exact h7 i hc
 ·obtain rfl : i = l.length := by omega
  rw [List.getElem_append_right (Nat.le_refl _)]
  simp only [Nat.sub_self, List.getElem_cons_zero]
  exact ⟨e1, e2, e3, e4⟩
def fitW (w : WalT) (r : RecT) : Bool :=
 if r.1 = 1 then decide (w.1 < r.2.1) || (decide (r.2.1 = w.1) && (decide (w.2.1 = -1) || decide (r.2.2.2.1 = w.2.1)))
 else if r.1 = 2 then decide (r.2.2.1 = w.2.2.1 + w.2.2.2.2.length + 1) && (decide ((w.2.2.2.2.length : Int) < 60) && (decide (Phi w.2.2.2.2 w.2.2.2.1 w.2.2.2.2.length ≤ r.2.1) && decide (r.2.1 ≤ w.1)))
 else if r.1 = 3 then decide (w.2.2.1 < r.2.2.1) && decide (r.2.2.1 ≤ w.2.2.1 + w.2.2.2.2.length)
 else false
def stepW (w : WalT) (r : RecT) : WalT :=
 if r.1 = 1 then (r.2.1, r.2.2.2.1, w.2.2.1, w.2.2.2.1, w.2.2.2.2)
 else if r.1 = 2 then (w.1, w.2.1, w.2.2.1, w.2.2.2.1, w.2.2.2.2 ++ [(r.2.1, r.2.2.2.2)])
 else (w.1, w.2.1, w.2.2.1, w.2.2.2.1, w.2.2.2.2.take (r.2.2.1 - w.2.2.1 - 1).toNat)
structure RecF (r : RecT) : Prop where
 one : r.1 = 1 → (0 ≤ r.2.1 ∧ r.2.1 ≤ 100000) ∧ (-1 ≤ r.2.2.2.1 ∧ r.2.2.2.1 ≤ 4)
 two : r.1 = 2 → (1 ≤ r.2.1 ∧ r.2.1 ≤ 100000) ∧ (1 ≤ r.2.2.1 ∧ r.2.2.1 ≤ 100000) ∧ r.2.2.2.2.size ≤ 900
 three : r.1 = 3 → 1 ≤ r.2.2.1 ∧ r.2.2.1 ≤ 100000
 four : r.1 = 4 → (r.2.2.1 = 0 ∧ r.2.1 = 0) ∨ (1 ≤ r.2.2.1 ∧ r.2.2.1 ≤ 100000 ∧ 1 ≤ r.2.1 ∧ r.2.1 ≤ 100000)
theorem Pbcw {w : WalT} {r : RecT} (hw : WalG w) (hr : RecF r) (hf : fitW w r = true) : WalG (stepW w r) := by
 obtain ⟨t, v, b, bt, l⟩ := w
 unfold fitW at hf
 unfold stepW
 dsimp only at hf ⊢
 by_cases c1 : r.1 = 1
 ·rw [if_pos c1] at hf ⊢
  have := hr.one c1
  simp only [Bool.or_eq_true, Zd, Zq] at hf
  obtain ⟨h1, h2, h3, h4, h5, h6, h7⟩ := hw
  dsimp only at h1 h2 h3 h4 h5 h6 h7
  have hle : t ≤ r.2.1 := by omega
  exact ⟨this.1, this.2, h3, by simp only; omega, h5, h6, fun i hi => by have := h7 i hi; dsimp only; exact ⟨this.1, this.2.1, by omega, this.2.2.2⟩⟩
 rw [if_neg c1] at hf ⊢
 by_cases c2 : r.1 = 2
 ·rw [if_pos c2] at hf ⊢
  have := hr.two c2
  simp only [Zd, Zq] at hf
  exact hw.more (by omega) (by omega) this.1.1 hf.2.2.1 hf.2.2.2 this.2.2
 rw [if_neg c2] at hf ⊢
 refine WalG.pre (m := l.drop (r.2.2.1 - b - 1).toNat) ?_
 rw [List.take_append_drop]; exact hw
end T
namespace T
open W V Y
theorem Prj {k : Nat} {r : RecT} (h : Pfd.f k r = some true) : RecF r := by
 unfold Pfd.f at h
 simp only [V.l1, W.Pmx, Zo] at h
 refine ⟨fun e => ?_, fun e => ?_, fun e => ?_, fun e => ?_⟩
 ·rw [Zt e] at h
  cases h1 : (decide (0 ≤ r.2.1) && decide (r.2.1 ≤ 100000)) with
  | false => rw [h1] at h; cases h
  | true =>
   cases h2 : (decide (-1 ≤ r.2.2.2.1) && decide (r.2.2.2.1 ≤ 4)) with
   | false => rw [h1, h2] at h; cases h
   | true =>
    simp only [Zd, Zq] at h1 h2
    exact ⟨h1, h2⟩
 ·rw [Zt e, Zf (show ¬ r.1 = 1 by omega)] at h
  cases h1 : (decide (1 ≤ r.2.1) && decide (r.2.1 ≤ 100000)) with
  | false => rw [h1] at h; cases h
  | true =>
   cases h2 : (decide (1 ≤ r.2.2.1) && decide (r.2.2.1 ≤ 100000)) with
   | false => rw [h1, h2] at h; cases h
   | true =>
    rw [h1, h2] at h
    simp only [Zy, Zz] at h
    by_cases h3 : (r.2.2.2.2.size : Int) ≤ 900
    ·simp only [Zd, Zq] at h1 h2
     exact ⟨h1, h2, by omega⟩
    ·rw [Zf h3] at h
     cases hd : decide (r.2.2.2.1 = 0) <;> rw [hd] at h <;> cases h
 ·rw [Zt e, Zf (show ¬ r.1 = 1 by omega), Zf (show ¬ r.1 = 2 by omega)] at h
  cases h2 : (decide (1 ≤ r.2.2.1) && decide (r.2.2.1 ≤ 100000)) with
  | false =>
   rw [h2] at h
   cases hd : decide (r.2.1 = 0) <;> rw [hd] at h <;> cases h
  | true =>
   simp only [Zd, Zq] at h2
   exact h2
 ·rw [Zt e, Zf (show ¬ r.1 = 1 by omega), Zf (show ¬ r.1 = 2 by omega), Zf (show ¬ r.1 = 3 by omega)] at h
  by_cases h2 : (r.2.2.1 = 0 ∧ r.2.1 = 0) ∨ (1 ≤ r.2.2.1 ∧ r.2.2.1 ≤ 100000 ∧ 1 ≤ r.2.1 ∧ r.2.1 ≤ 100000)
  ·exact h2
  ·rw [Zf h2] at h; cases h
theorem Pbbz {k : Nat} {w : WalT} (hl : w.2.2.2.2.length ≤ 60) : Pgg.f k w = some (Phi w.2.2.2.2 w.2.2.2.1 w.2.2.2.2.length) := by
 unfold Pgg.f
 cases hp : w.2.2.2.2.length with
 | zero => rfl
 | succ n =>
  rw [Zf (by omega), Zw, Zi]
  simp only [Zz, Zo]
  rw [show (((n + 1 : Nat) : Int) - 1).toNat = n by omega, Zg (show n < w.2.2.2.2.length by omega), Phj _ _ (by omega)]
  rfl
theorem Pbby {k : Nat} {w : WalT} (hl : w.2.2.2.2.length ≤ 60) : Pfj.f k w = some (Phi w.2.2.2.2 w.2.2.2.1 w.2.2.2.2.length) := by
 unfold Pfj.f
 cases hp : w.2.2.2.2.length with
 | zero => rfl
 | succ n =>
  rw [Zt (by omega), Zw, Zi]
  simp only [Zy, Zo]
  rw [show (((n + 1 : Nat) : Int) - 1).toNat = n by omega, Zg (show n < w.2.2.2.2.length by omega), Phj _ _ (by omega)]
  rfl
theorem Pbfr {k : Nat} {w : WalT} (r : RecT) (hw : WalG w) : Pkq.f k w r = some (fitW w r) := by
 have hlen := hw.len
 have hb := hw.base
 unfold Pkq.f fitW
 rw [Pbbz hlen, Zw (n := w.2.2.1 + (w.2.2.2.2.length : Int)), Zw (n := w.2.2.1 + (w.2.2.2.2.length : Int) + 1)]
 simp only [Zo]
 by_cases c1 : r.1 = 1
 ·rw [Zt c1, if_pos c1]
  cases decide (w.1 < r.2.1) <;> cases decide (r.2.1 = w.1) <;> cases decide (w.2.1 = -1) <;> rfl
 rw [Zf c1, if_neg c1]
 by_cases c2 : r.1 = 2
 ·rw [Zt c2, if_pos c2]
  cases decide (r.2.2.1 = w.2.2.1 + (w.2.2.2.2.length : Int) + 1) <;> cases decide ((w.2.2.2.2.length : Int) < 60) <;> cases decide (Phi w.2.2.2.2 w.2.2.2.1 w.2.2.2.2.length ≤ r.2.1) <;> rfl
 rw [Zf c2, if_neg c2]
 by_cases c3 : r.1 = 3
 ·rw [Zt c3, if_pos c3]
  cases decide (w.2.2.1 < r.2.2.1) <;> rfl
 rw [Zf c3, if_neg c3]
 rfl
theorem Pzh {α : Type} (l : List α) (n : Int) (h0 : 0 ≤ n) (h1 : n ≤ l.length) : ∃ p, cut? l.length 0 n = some p ∧ (l.take p.2).drop p.1 = l.take n.toNat := by
 rw [Zc]
 exact ⟨_, rfl, rfl⟩
theorem Pbez {k : Nat} {w : WalT} {r : RecT} (hw : WalG w) (hr : RecF r) : Pez.f k w r = some (fitW w r, if fitW w r = true then stepW w r else w) := by
 have hlen := hw.len
 have hb := hw.base
 unfold Pez.f Pfl.f fitW stepW
 rw [Pbby hlen, Zw (n := w.2.2.1 + (w.2.2.2.2.length : Int))]
 simp only [Zo]
 rw [Zw (n := w.2.2.1 + (w.2.2.2.2.length : Int) + 1), Zw (n := w.2.2.1 + 1), W.Pdr, W.Pdr]
 simp only [Zo]
 by_cases c1 : r.1 = 1
 ·rw [Zt c1, if_pos c1, if_pos c1]
  by_cases h1 : r.2.1 < w.1
  ·rw [Zt h1, Zf (show ¬ w.1 < r.2.1 by omega), Zf (show ¬ r.2.1 = w.1 by omega)]; rfl
  rw [Zf h1]
  by_cases h2 : r.2.1 = w.1
  ·rw [Zt h2, Zf (show ¬ w.1 < r.2.1 by omega)]
   by_cases h3 : w.2.1 = -1
   ·rw [Zt h3]; rfl
   ·rw [Zf h3]
    by_cases h4 : w.2.1 = r.2.2.2.1
    ·rw [Zt h4, Zt h4.symm]; rfl
    ·rw [Zf h4, Zf (show ¬ r.2.2.2.1 = w.2.1 from fun e => h4 e.symm)]; rfl
  ·rw [Zf h2, Zt (show w.1 < r.2.1 by omega)]; rfl
 rw [Zf c1, if_neg c1, if_neg c1]
 by_cases c2 : r.1 = 2
 ·rw [Zt c2, if_pos c2, if_pos c2]
  by_cases h1 : r.2.2.1 = w.2.2.1 + (w.2.2.2.2.length : Int) + 1
  ·rw [Zt h1]
   by_cases h2 : (w.2.2.2.2.length : Int) < 60
   ·rw [Zt h2, Zf (show ¬ (60 : Int) ≤ (w.2.2.2.2.length : Int) by omega)]
    rw [Qrr (by simp [limOf]; omega)]
    cases decide (Phi w.2.2.2.2 w.2.2.2.1 w.2.2.2.2.length ≤ r.2.1) <;> cases decide (r.2.1 ≤ w.1) <;> rfl
   ·rw [Zf h2, Zt (show (60 : Int) ≤ (w.2.2.2.2.length : Int) by omega)]; rfl
  ·rw [Zf h1]; rfl
 rw [Zf c2, if_neg c2, if_neg c2]
 by_cases c3 : r.1 = 3
 ·have := hr.three c3
  rw [Zt c3, if_pos c3]
  by_cases h1 : w.2.2.1 < r.2.2.1
  ·rw [Zt h1, Zt (show w.2.2.1 + 1 ≤ r.2.2.1 by omega)]
   by_cases h2 : r.2.2.1 ≤ w.2.2.1 + (w.2.2.2.2.length : Int)
   ·rw [Zt h2, Zw (n := r.2.2.1 - w.2.2.1), Zw (n := r.2.2.1 - w.2.2.1 - 1)]
    obtain ⟨p, e1, e2⟩ := Pzh w.2.2.2.2 (r.2.2.1 - w.2.2.1 - 1) (by omega) (by omega)
    rw [e1]
    simp only [Bool.and_self, Zx, Zy, Zz, Zo, e2, if_true]
   ·rw [Zf h2]; rfl
  ·rw [Zf h1, Zf (show ¬ w.2.2.1 + 1 ≤ r.2.2.1 by omega)]; rfl
 rw [Zf c3, if_neg c3]
 rfl
theorem Pwe {k} (hk : Zk k) {w : WalT} {r : RecT} (hw : WalG w) (hr : Pfd.f k r = some true) : Pfp.f k w r = some (if fitW w r = true then (stepW w r, true) else (w, false)) := by
 have hlen := hw.len
 have hb := hw.base
 unfold Pfp.f Pkp.f
 rw [W.Pxp hk w (by omega), hw.ok, Qrr (by simp [limOf]; omega), hr]
 simp only [Zo, Zx, Zz, List.nil_append, Prod.eta]
 rw [Pbfr r hw]
 simp only [Zo]
 cases hf : fitW w r with
 | false => rfl
 | true =>
  simp only [Zx, Zz, if_true]
  unfold stepW
  by_cases c1 : r.1 = 1
  ·rw [Zt c1, if_pos c1]; rfl
  rw [Zf c1, if_neg c1]
  by_cases c2 : r.1 = 2
  ·rw [Zt c2, if_pos c2, Qrr (by simp [limOf]; omega)]; rfl
  rw [Zf c2, if_neg c2]
  unfold fitW at hf
  rw [if_neg c1, if_neg c2] at hf
  by_cases c3 : r.1 = 3
  ·rw [if_pos c3] at hf
   simp only [Zd, Zq] at hf
   rw [Zw (n := r.2.2.1 - w.2.2.1), Zw (n := r.2.2.1 - w.2.2.1 - 1)]
   obtain ⟨p, e1, e2⟩ := Pzh w.2.2.2.2 (r.2.2.1 - w.2.2.1 - 1) (by omega) (by omega)
   rw [e1]
   simp only [Zz, Zo, e2]
  ·rw [if_neg c3] at hf; cases hf
theorem Pua {k} (hk : Zk k) {w : WalT} (r : RecT) (hw : WalG w) : ∃ x, Pfp.f k w r = some x := by
 obtain ⟨_, b, hb⟩ := Ptw k r
 cases b with
 | true => exact ⟨_, Pwe hk hw hb⟩
 | false =>
  have hlen := hw.len
  unfold Pfp.f Pkp.f
  rw [W.Pxp hk w (by omega), hw.ok, Qrr (by simp [limOf]; omega), hb]
  exact ⟨_, rfl⟩
theorem Pxm {k} (hk : Zk k) (p0 : Zb) (T : List Zb) (hL : T.length ≤ 4194304) (hp : ∀ p ∈ T, 1 ≤ p.size ∧ p.size ≤ 2000) (z1 : Int) (z2 : Bool) (z3 : WalT) : ∀ (d i : Nat) (n : Int) (w : WalT) (r0 : RecT) (kk : Nat), i + d = T.length → d < kk → WalG w → 0 ≤ n → n ≤ (i + 1) * 2008 →
  ∃ (w' : WalT) (n' : Int), iter (X := (Int × Bool × Int × WalT × WalT) ⊕ (WalT × Int × Bool)) (Pek.b0 k) kk (z1, z2, n, T, (T.length : Int), (i : Int), z3, w) = some (.inl (z1, z2, n', z3, w')) ∧
   (iter (X := (Int × Bool × Int × WalT × WalT) ⊕ (WalT × Int × Bool)) (Pea.b0 k) kk (z1, z2, p0 :: T, n, ((i + 1 : Nat) : Int), z3, r0, w) = some (.inl (z1, z2, n', z3, w')) ∨ iter (X := (Int × Bool × Int × WalT × WalT) ⊕ (WalT × Int × Bool)) (Pea.b0 k) kk (z1, z2, p0 :: T, n, ((i + 1 : Nat) : Int), z3, r0, w) = some (.inr (w', n', true))) ∧ WalG w' := by
 intro d
 induction d with
 | zero =>
  intro i n w r0 kk hi hkk hw n0 n1
  obtain ⟨kk, rfl⟩ : ∃ m, kk = m + 1 := ⟨kk - 1, by omega⟩
  refine ⟨w, n, V.Pbi ?_, .inl (V.Pbi ?_), hw⟩
  ·unfold Pek.b0
   dsimp only
   rw [Zf (by omega)]; rfl
  ·unfold Pea.b0
   dsimp only
   rw [Zf (by simp only [Zl]; omega)]; rfl
 | succ d ih =>
  intro i n w r0 kk hi hkk hw n0 n1
  obtain ⟨kk, rfl⟩ : ∃ m, kk = m + 1 := ⟨kk - 1, by omega⟩
  have hlt : i < T.length := by omega
  have hb := hp T[i] (List.getElem_mem hlt)
  obtain ⟨r, e1, e2, e3⟩ := Pqa hk T[i] hb.1 hb.2
  have gi : T[i]? = some T[i] := Zg hlt
  have gs : (p0 :: T)[i + 1]? = some T[i] := by rw [List.getElem?_cons_succ]; exact gi
  have ei : Pek.b0 k (z1, z2, n, T, (T.length : Int), (i : Int), z3, w) = bif !r.2 then some (.inr (.inl (z1, z2, n, z3, w))) else ((Pez.f k w r.1).bind fun r4 => bif (!r4.1) then (some (.inr (.inl (z1, z2, n, z3, r4.2)))) else (some (.inl (z1, z2, n + 8 + (T[i].size : Int), T, (T.length : Int), ((i + 1 : Nat) : Int), z3, r4.2)))) := by
   unfold Pek.b0
   dsimp only
   rw [Zt (by omega), Zi]
   simp only [Zy, Zo]
   rw [show ((i : Int)).toNat = i from rfl, gi]
   simp only [Zo]
   rw [e2]
   simp only [Zo]
   rw [Zw (n := n + 8), Zw (n := n + 8 + _), Zw (n := (i : Int) + 1)]
   rfl
  have es : Pea.b0 k (z1, z2, p0 :: T, n, ((i + 1 : Nat) : Int), z3, r0, w) = (Pfp.f k w r.1).bind fun r4 => bif !r.2 then some (.inr (.inr (w, n, true))) else (bif (!r4.2) then (some (.inr (.inr (w, n, true)))) else (some (.inl (z1, z2, p0 :: T, n + 8 + (T[i].size : Int), ((i + 1 + 1 : Nat) : Int), z3, r.1, r4.1)))) := by
   unfold Pea.b0
   dsimp only
   rw [Zt (by simp only [Zl]; omega), Qqx (by omega) (by simp only [Zl]; omega)]
   simp only [Zy, Zo]
   rw [show (((i + 1 : Nat) : Int)).toNat = i + 1 from rfl, gs]
   simp only [Zo]
   rw [e1]
   simp only [Zo]
   rw [Zw (n := n + 8), Zw (n := n + 8 + _), Zw (n := ((i + 1 : Nat) : Int) + 1)]
   rfl
  cases hg : r.2 with
  | false =>
   obtain ⟨x, hx⟩ := Pua hk r.1 hw
   rw [hg] at ei es
   rw [hx] at es
   exact ⟨w, n, V.Pbi ei, .inr (V.Pbi es), hw⟩
  | true =>
   have hr := e3 hg
   rw [hg, Pbez hw (Prj hr)] at ei
   rw [hg, Pwe hk hw hr] at es
   cases hf : fitW w r.1 with
   | false =>
    rw [hf] at ei es
    exact ⟨w, n, V.Pbi ei, .inr (V.Pbi es), hw⟩
   | true =>
    rw [hf] at ei es
    obtain ⟨w', n', h1, h2, h3⟩ := ih (i + 1) (n + 8 + (T[i].size : Int)) (stepW w r.1) r.1 kk (by omega) (by omega) (Pbcw hw (Prj hr) hf) (by omega) (by omega)
    refine ⟨w', n', ?_, ?_, h3⟩
    ·rw [V.Paz ei]; exact h1
    ·rw [V.Paz es]; exact h2
theorem Pxn {k} (hk : Zk k) (s : Zb) (hs : s.size ≤ 4194304) : ∃ r, Pea.f k s = some r ∧ Pek.f k s = some r ∧ (r.2.2 = true → WalG r.1) := by
 obtain ⟨ps, n, h1, h2, h3, h4, h5⟩ := Pwy hk s hs
 unfold Pea.f Pek.f
 rw [h1, h2]
 simp only [Zo]
 cases ps with
 | nil => exact ⟨_, rfl, rfl, fun h => by cases h⟩
 | cons p0 T =>
  simp only [Zl] at h4
  have hb := h5 p0 (List.mem_cons_self ..)
  obtain ⟨r, e1, e2, e3⟩ := Pqa hk p0 hb.1 hb.2
  rw [Zf (show ¬ (((p0 :: T).length : Int) = 0) by simp only [Zl]; omega), Qqx (by omega) (by simp only [Zl]; omega)]
  simp only [Zz, Zo]
  rw [show (0 : Int).toNat = 0 from rfl, List.getElem?_cons_zero]
  simp only [Zo]
  rw [e1, e2, Qqw (by omega) (by simp only [Zl]; omega) (by omega)]
  simp only [Zo]
  cases hg : r.2 with
  | false => exact ⟨_, rfl, rfl, fun h => by cases h⟩
  | true =>
   simp only [Zx, Zz]
   by_cases c4 : r.1.1 = 4
   ·rw [Zt c4]
    simp only [Zx, Zz]
    rw [show (((p0 :: T).length : Int)).toNat = (p0 :: T).length from rfl, List.take_length, show (1 : Int).toNat = 1 from rfl, List.drop_one, List.tail_cons, Zw (n := 8 + (p0.size : Int))]
    have hr := (Prj (e3 hg)).four c4
    have hw : WalG (r.1.2.1, -1, r.1.2.2.1, r.1.2.1, []) := ⟨by simp only; omega, by simp, hr, by simp, by simp, by simp only [List.length_nil]; omega, fun i hi => by simp at hi⟩
    obtain ⟨w', n', g1, g2, g3⟩ := Pxm hk p0 T (by omega) (fun p hp => h5 p (List.mem_cons_of_mem _ hp)) 0 false (0, 0, 0, 0, []) T.length 0 (8 + (p0.size : Int)) _ r.1 k (by omega) (by omega) hw (by omega) (by omega)
    rw [show ((0 : Nat) : Int) = 0 from rfl] at g1
    rw [show ((0 + 1 : Nat) : Int) = 1 from rfl] at g2
    rw [g1]
    refine ⟨(w', n', true), ?_, rfl, fun _ => g3⟩
    rcases g2 with g2 | g2
    ·rw [g2]; rfl
    ·rw [g2]; rfl
   ·rw [Zf c4]; exact ⟨_, rfl, rfl, fun h => by cases h⟩
end T
namespace T
open W V Y
def leftE (w : WalT) (s : SnapT) : List U2 :=
 if s.1 - w.2.2.1 ≤ w.2.2.2.2.length ∧ (w.2.2.2.2[(s.1 - w.2.2.1 - 1).toNat]?).map (·.1) = some s.2.1 then w.2.2.2.2.drop (s.1 - w.2.2.1).toNat else []
def keptW (w : WalT) (s : SnapT) : WalT :=
 if w.2.2.1 < s.1 then (if w.1 < s.2.1 then (s.2.1, -1, s.1, s.2.1, leftE w s) else (w.1, w.2.1, s.1, s.2.1, leftE w s)) else w
theorem Pvj (w : WalT) (s : SnapT) : (leftE w s).length ≤ w.2.2.2.2.length := by
 unfold leftE
 split
 ·rw [List.length_drop]; omega
 ·simp
theorem Pvg (w : WalT) (s : SnapT) : (keptW w s).2.2.2.2.length ≤ w.2.2.2.2.length := by
 have := Pvj w s
 unfold keptW
 split
 ·split <;> exact this
 ·exact Nat.le_refl _
def Pyh (d : DiskT) (w : WalT) (s : SnapT) (n : Int) (x : Zb) : Bool :=
 decide (n < (x.size : Int)) || (decide (w.2.2.1 < s.1) || (decide (0 ≤ fileM d Zl0) || decide (0 ≤ fileM d Zl2)))
theorem Psq {w : WalT} {s : SnapT} (hw : WalG w) (h1 : s.1 < 4294967296) (c : w.2.2.1 < s.1) :
  (s.1 - w.2.2.1 ≤ (w.2.2.2.2.length : Int) ∧ ∃ y, inb? w.2.2.2.2.length (s.1 - w.2.2.1 - 1) = some (s.1 - w.2.2.1 - 1).toNat ∧ w.2.2.2.2[(s.1 - w.2.2.1 - 1).toNat]? = some y ∧
   ((y.1 = s.2.1 ∧ ∃ p, cut? w.2.2.2.2.length (s.1 - w.2.2.1) w.2.2.2.2.length = some p ∧ (w.2.2.2.2.take p.2).drop p.1 = leftE w s) ∨ (¬ y.1 = s.2.1 ∧ leftE w s = []))) ∨ (¬ s.1 - w.2.2.1 ≤ (w.2.2.2.2.length : Int) ∧ leftE w s = []) := by
 have hb := hw.base
 by_cases c1 : s.1 - w.2.2.1 ≤ (w.2.2.2.2.length : Int)
 ·left
  refine ⟨c1, ?_⟩
  have hlt : (s.1 - w.2.2.1 - 1).toNat < w.2.2.2.2.length := by omega
  refine ⟨w.2.2.2.2[(s.1 - w.2.2.1 - 1).toNat], Zi, Zg hlt, ?_⟩
  by_cases c2 : (w.2.2.2.2[(s.1 - w.2.2.1 - 1).toNat]).1 = s.2.1
  ·left
   refine ⟨c2, _, Zc, ?_⟩
   unfold leftE
   rw [if_pos ⟨c1, by rw [Zg hlt, Option.map_some, c2]⟩, show ((w.2.2.2.2.length : Int)).toNat = w.2.2.2.2.length from rfl, List.take_length]
  ·right
   refine ⟨c2, ?_⟩
   unfold leftE
   rw [if_neg]
   rintro ⟨_, e⟩
   rw [Zg hlt] at e
   simp only [Option.map_some, Zj] at e
   exact c2 e
 ·right
  refine ⟨c1, ?_⟩
  unfold leftE
  rw [if_neg (fun e => c1 e.1)]
theorem Pbcq {k} (hk : Zk k) {d : DiskT} (hr : Right d) (z : Int) (kz : (WalT × SnapT × Bool)) (x : Zb) (n : Int) {w : WalT} {s : SnapT} (hw : WalG w) (h0 : 0 ≤ s.1) (h1 : s.1 < 4294967296) :
  Pbs.c1 k (z, x, n, d, kz, w, s) = some ((keptW w s, s, Pyh d w s n x), 0) := by
 obtain ⟨r1, a1, a2⟩ := Pyq hk hr Zl0
 obtain ⟨r2, b1, b2⟩ := Pyq hk hr Zl2
 have hb := hw.base
 have hl := hw.len
 have c3e : ∀ (a : Int) (q : Bool) (b : WalT × SnapT × Bool) (w1 : WalT) (s1 : SnapT), Pbs.c3 k (a, q, d, b, w1, s1) = some ((w1, s1, q || (decide (0 ≤ fileM d Zl0) || decide (0 ≤ fileM d Zl2))), 0) := fun a q b w1 s1 => by
  unfold Pbs.c3
  dsimp only
  rw [a1, b1]
  simp only [Zo, a2, b2]
  cases q <;> cases decide (0 ≤ fileM d Zl0) <;> rfl
 unfold Pbs.c1 Pbs.c2 Pyh keptW
 dsimp only
 by_cases c : w.2.2.1 < s.1
 ·rw [Zt c, if_pos c, Zw (n := s.1 - w.2.2.1), Zw (n := s.1 - w.2.2.1 - 1)]
  rcases Psq hw h1 c with ⟨c1, y, e1, e2, h⟩ | ⟨c1, e⟩
  ·rw [Zt c1, e1]
   simp only [Zy, Zo, e2]
   rcases h with ⟨c2, p, e3, e4⟩ | ⟨c2, e4⟩
   ·rw [Zt c2, e3]
    simp only [Zy, Zo, e4]
    by_cases c3 : w.1 < s.2.1
    ·rw [Zt c3, if_pos c3]; simp only [Zy, Zo, c3e, Bool.true_or, Bool.or_true]
    ·rw [Zf c3, if_neg c3]; simp only [Zz, Zo, c3e, Bool.true_or, Bool.or_true]
   ·rw [Zf c2, e4]
    simp only [Zz, Zo]
    by_cases c3 : w.1 < s.2.1
    ·rw [Zt c3, if_pos c3]; simp only [Zy, Zo, c3e, Bool.true_or, Bool.or_true]
    ·rw [Zf c3, if_neg c3]; simp only [Zz, Zo, c3e, Bool.true_or, Bool.or_true]
  ·rw [Zf c1, e]
   simp only [Zy, Zz, Zo]
   by_cases c3 : w.1 < s.2.1
   ·rw [Zt c3, if_pos c3]; simp only [Zy, Zo, c3e, Bool.true_or, Bool.or_true]
   ·rw [Zf c3, if_neg c3]; simp only [Zz, Zo, c3e, Bool.true_or, Bool.or_true]
 ·rw [Zf c, if_neg c]
  simp only [Zz, Zo, c3e, Bool.false_or]
theorem Pbbn {k} (hk : Zk k) {d : DiskT} (hr : Right d) (z : Int) (kz : (WalT × SnapT × Bool)) (x : Zb) (n : Int) {w : WalT} {s : SnapT} (hw : WalG w) (h0 : 0 ≤ s.1) (h1 : s.1 < 4294967296) :
  Pba.c1 k (z, x, n, d, kz, w, s) = some ((keptW w s, s, Pyh d w s n x), 0) := by
 have hb := hw.base
 have hl := hw.len
 have hk' := Pvj w s
 have cpE : ∀ l : List U2, l.length ≤ 60 → Pbd.f k l = some l := fun l h => by
  unfold Pbd.f
  rw [Qrr (by simp [limOf]; omega)]; rfl
 have c3e : ∀ (a : Int) (b : WalT × SnapT × Bool) (w1 w2 : WalT) (s1 : SnapT) (q : Bool), w1.2.2.2.2.length ≤ 60 → Pba.c3 k (a, b, w1, w2, s1, q) = some ((w1, s1, q), 0) := fun a b w1 w2 s1 q h => by
  unfold Pba.c3 Pkv.f
  dsimp only
  rw [cpE _ h]; rfl
 have key : ∀ q : Bool, Option.bind (α := (Int × (WalT × SnapT × Bool) × WalT × WalT × SnapT × Bool) ⊕ ((WalT × SnapT × Bool) × Int)) (bif (decide (w.2.2.1 < s.1)) then (Option.bind (α := (Int × List U2 × (WalT × SnapT × Bool) × WalT × SnapT × WalT × SnapT × Bool) ⊕ ((WalT × SnapT × Bool) × Int)) (bif (decide (Zr (s.1 - w.2.2.1) ≤ (w.2.2.2.2.length : Int))) then ((inb? w.2.2.2.2.length (Zr ((Zr (s.1 - w.2.2.1)) - 1))).bind fun j1 => (w.2.2.2.2[j1]?).bind fun y2 => bif (decide (y2.1 = s.2.1)) then ((cut? w.2.2.2.2.length (Zr (s.1 - w.2.2.1)) w.2.2.2.2.length).bind fun p3 => (Pbd.f k ((w.2.2.2.2.take p3.2).drop p3.1)).bind fun r4 => some (.inl (z, r4, kz, w, s, (0, 0, 0, 0, []), s, q))) else (some (.inl (z, [], kz, w, s, (0, 0, 0, 0, []), s, q)))) else (some (.inl (z, [], kz, w, s, (0, 0, 0, 0, []), s, q)))) fun r => match r with | .inl y => Pba.c2 k y | .inr o => some (.inr o)) else (some (.inl (z, kz, w, (0, 0, 0, 0, []), s, q)))) (fun r => match r with | .inl y => Pba.c3 k y | .inr o => some o) = some ((keptW w s, s, q), 0) := fun q => by
  have hkl := Pvg w s
  unfold keptW at hkl ⊢
  unfold Pba.c2
  by_cases c : w.2.2.1 < s.1
  ·rw [if_pos c] at hkl ⊢
   rw [Zt c, Zw (n := s.1 - w.2.2.1), Zw (n := s.1 - w.2.2.1 - 1)]
   have fin : ∀ l, l = leftE w s → Option.bind (α := (Int × (WalT × SnapT × Bool) × WalT × WalT × SnapT × Bool) ⊕ ((WalT × SnapT × Bool) × Int)) (bif (decide (w.1 < s.2.1)) then (some (.inl (z, kz, (s.2.1, (-1), s.1, s.2.1, l), (0, 0, 0, 0, []), s, q))) else (some (.inl (z, kz, (w.1, w.2.1, s.1, s.2.1, l), (0, 0, 0, 0, []), s, q)))) (fun r => match r with | .inl y => Pba.c3 k y | .inr o => some o) = some (((if w.1 < s.2.1 then (s.2.1, -1, s.1, s.2.1, leftE w s) else (w.1, w.2.1, s.1, s.2.1, leftE w s)), s, q), 0) := fun l e => by
    subst e
    by_cases c3 : w.1 < s.2.1
    ·rw [Zt c3, if_pos c3]
     simp only [Zy, Zo]
     exact c3e _ _ _ _ _ _ (by simp only; omega)
    ·rw [Zf c3, if_neg c3]
     simp only [Zz, Zo]
     exact c3e _ _ _ _ _ _ (by simp only; omega)
   rcases Psq hw h1 c with ⟨c1, y, e1, e2, h⟩ | ⟨c1, e⟩
   ·rw [Zt c1, e1]
    simp only [Zy, Zo, e2]
    rcases h with ⟨c2, p, e3, e4⟩ | ⟨c2, e4⟩
    ·rw [Zt c2, e3]
     simp only [Zy, Zo, e4]
     rw [cpE _ (by omega)]
     simp only [Zo]
     exact fin _ rfl
    ·rw [Zf c2]
     simp only [Zz, Zo]
     exact fin _ e4.symm
   ·rw [Zf c1]
    simp only [Zy, Zz, Zo]
    exact fin _ e.symm
  ·rw [Zf c, if_neg c]
   simp only [Zz, Zo]
   exact c3e _ _ _ _ _ _ hl
 have k1 := key true
 have k2 := fun q => key q
 unfold Pba.c1 Pyh
 dsimp only
 simp only [Pyl hk hr, Zo]
 by_cases g1 : n < (x.size : Int)
 ·rw [Zt g1]
  exact k1
 ·rw [Zf g1]
  by_cases c : w.2.2.1 < s.1
  ·have k1 := key true
   rw [Zt c] at k1 ⊢
   exact k1
  ·by_cases g2 : 0 ≤ fileM d Zl0
   ·have k1 := key true
    rw [Zf c] at k1 ⊢
    rw [Zt g2]
    exact k1
   ·have k1 := key (decide (0 ≤ fileM d Zl2))
    rw [Zf c] at k1 ⊢
    rw [Zf g2]
    exact k1
def KeptF (r : (WalT × SnapT × Bool) × Int) : Prop :=
 r.1.1.2.2.2.2.length ≤ 60 ∧ (∀ x ∈ r.1.1.2.2.2.2, x.2.size ≤ 900) ∧ r.1.2.1.2.2.size ≤ 1048576 ∧ (r.2 = 0 → r.1.2.1 = (0, 0, ⟨#[]⟩) ∨ 0 < r.1.2.1.1)
theorem Pbcb (w : WalT) (s : SnapT) : ∀ x ∈ leftE w s, x ∈ w.2.2.2.2 := by
 unfold leftE
 split
 ·exact fun x hx => List.mem_of_mem_drop hx
 ·simp
theorem Pbbx (w : WalT) (s : SnapT) : ∀ x ∈ (keptW w s).2.2.2.2, x ∈ w.2.2.2.2 := by
 have := Pbcb w s
 unfold keptW
 split
 ·split <;> exact this
 ·exact fun x hx => hx
theorem Pyp {w : WalT} {s : SnapT} (hw : WalG w) (hs : s.2.2.size ≤ 1048576) (h : s = (0, 0, ⟨#[]⟩) ∨ 0 < s.1) (q : Bool) : KeptF ((keptW w s, s, q), 0) := by
 have hl := hw.len
 have hkl := Pvg w s
 refine ⟨by simp only; omega, fun x hx => ?_, hs, fun _ => h⟩
 obtain ⟨i, hi, rfl⟩ := List.getElem_of_mem (Pbbx w s x hx)
 exact (hw.ents i hi).2.2.2
theorem Pmn (c : Int) (h : c ≠ 0) : KeptF (((0, 0, 0, 0, []), (0, 0, ⟨#[]⟩), false), c) := ⟨by simp, by simp, Nat.zero_le _, fun e => absurd e h⟩
theorem Pbcm {k} (hk : Zk k) {d : DiskT} (hr : Right d) (z : Int) (kz : (WalT × SnapT × Bool)) (x : Zb) (n : Int) (g : Bool) {w : WalT} {s : SnapT} (hw : g = true → WalG w) (h0 : 0 ≤ s.1) (h1 : s.1 < 4294967296) (hs : s.2.2.size ≤ 1048576) (hz : g = true → s = (0, 0, ⟨#[]⟩) ∨ 0 < s.1) :
  ∃ r, Pbs.c0 k (z, x, n, g, d, kz, w, s) = some r ∧ Pba.c0 k (z, x, n, g, d, kz, w, s) = some r ∧ KeptF r := by
 unfold Pbs.c0 Pba.c0
 dsimp only
 cases g with
 | false => exact ⟨_, rfl, rfl, Pmn 2 (by decide)⟩
 | true =>
  have hw := hw rfl
  have hz := hz rfl
  simp only [Zx, Zz]
  by_cases c1 : s.1 < w.2.2.1
  ·rw [Zt c1]; exact ⟨_, rfl, rfl, Pmn 2 (by decide)⟩
  rw [Zf c1]
  simp only [Zz]
  by_cases c2 : w.2.2.1 = s.1
  ·rw [Zt c2]
   by_cases c3 : w.2.2.2.1 = s.2.1
   ·rw [Zt c3]
    simp only [Zx, Zy, Zz, Zo]
    exact ⟨_, Pbcq hk hr z kz x n hw h0 h1, Pbbn hk hr z kz x n hw h0 h1, Pyp hw hs hz _⟩
   ·rw [Zf c3]; exact ⟨_, rfl, rfl, Pmn 2 (by decide)⟩
  ·rw [Zf c2]
   simp only [Zz, Zo]
   exact ⟨_, Pbcq hk hr z kz x n hw h0 h1, Pbbn hk hr z kz x n hw h0 h1, Pyp hw hs hz _⟩
theorem Ptx {k} (hk : Zk k) {d : DiskT} (hs : Small d) : ∃ r, Pbs.f k d = some r ∧ Pba.f k d = some r ∧ KeptF r := by
 unfold Pbs.f Pba.f
 rw [Psw hk d hs, Pva hk d hs, ← Pmm]
 simp only [Zo]
 cases hd : diskS d with
 | false => exact ⟨_, rfl, rfl, Pmn 2 (by decide)⟩
 | true =>
  have hr : Right d := ⟨hs, hd⟩
  simp only [Zx, Zz]
  obtain ⟨r2, a1, a2, a3⟩ := Pbcc hk hs ⟨#[108, 111, 103]⟩
  rw [a1, a2]
  simp only [Zo]
  cases hl : r2.2 with
  | false => exact ⟨_, rfl, rfl, Pmn 1 (by decide)⟩
  | true =>
   simp only [Zx, Zz]
   obtain ⟨r3, b1, b2, b3⟩ := Pxn hk r2.1 (by omega)
   obtain ⟨r4, d1, d2, d3⟩ := Pbcc hk hs ⟨#[115, 110, 97, 112]⟩
   rw [b1, b2, d1, d2]
   simp only [Zo]
   cases hs4 : r4.2 with
   | false =>
    simp only [Zz, Zo]
    exact Pbcm hk hr _ _ _ _ _ b3 (by simp) (by simp) (by decide) (fun _ => .inl rfl)
   | true =>
    obtain ⟨r5, e1, e2, e3, e4, e5, e6⟩ := Ptv hk r4.1 (by omega)
    rw [e1, e2]
    simp only [Zy, Zo]
    cases h3 : r3.2.2 with
    | false =>
     simp only [Zz, Zo]
     exact Pbcm hk hr _ _ _ _ _ (fun h => by cases h) e3 e4 e5 (fun h => by cases h)
    | true =>
     simp only [Zy, Zo]
     exact Pbcm hk hr _ _ _ _ _ (fun _ => b3 h3) e3 e4 e5 (fun h => .inr (e6 h))
theorem Pvt {k} (hk : Zk k) {d : DiskT} (hs : Small d) : ∃ r, Pbs.f k d = some r ∧ Pba.f k d = some r ∧ r.1.1.2.2.2.2.length ≤ 60 := by
 obtain ⟨r, h1, h2, h3⟩ := Ptx hk hs
 exact ⟨r, h1, h2, h3.1⟩
end T
namespace S
open Y V
theorem Prw {s t : Zb} : ∀ {c : Nat}, (∀ i, i < c → Qmy s i = Qmy t i) → val s c = val t c
 | 0, _ => rfl
 | c + 1, h => by
  simp only [val]
  rw [Prw fun i hi => h i (by omega), h c (by omega)]
theorem Pbfh {k} (hk : Zk k) (s : Zb) (hs : s.size ≤ 4611686018427387904) (c : Nat) (h1 : 1 ≤ c) (h7 : c ≤ 7) (hc : c ≤ s.size) {n : Int} (hv : Paw.f k n = some (s.extract 0 c)) (hn : val s c = n)
  (hb : ∀ i, i + 1 < c → 128 ≤ Qmy s i) : rdv k s = (n, (c : Int)) := by
 have key : ∀ d j kk, j + d = c → d < kk → 1 ≤ j → iter (X := U3 ⊕ U3) (Pau.b0 k) kk (s, 0, 0, (j : Int)) = some (.inr (n, (c : Int))) := by
  intro d
  induction d with
  | zero =>
   intro j kk hj hkk hj1
   obtain ⟨kk, rfl⟩ : ∃ m, kk = m + 1 := ⟨kk - 1, by omega⟩
   have e : j = c := by omega
   subst e
   have := Plv hk s hs j hj1 h7 hc (v := s.extract 0 j) (by rw [hn]; exact hv)
   rw [if_pos rfl, hn] at this
   exact Pbi this
  | succ d ih =>
   intro j kk hj hkk hj1
   obtain ⟨kk, rfl⟩ : ∃ m, kk = m + 1 := ⟨kk - 1, by omega⟩
   obtain ⟨v, hvv, hv0, hv1, hv2⟩ := Prx hk (val7 s (show j ≤ 7 by omega)).1 (val7 s (show j ≤ 7 by omega)).2
   have := Plv hk s hs j hj1 (by omega) (by omega) hvv
   have hne : v ≠ s.extract 0 j := by
    intro e
    have hz : v.size = j := by rw [e, Pbh s (by omega)]; omega
    rw [hz, e, Pdd s (by omega) (by omega)] at hv2
    have := hb (j - 1) (by omega)
    rw [Nat.zero_add] at hv2
    omega
   rw [if_neg hne] at this
   rw [Paz this]
   exact ih (j + 1) kk (by omega) (by omega) (by omega)
 unfold rdv Pau.f
 have := key (c - 1) 1 k (by omega) (by omega) (Nat.le_refl _)
 rw [show ((1 : Nat) : Int) = 1 from rfl] at this
 rw [this]
 rfl
theorem Pqj (s t : Zb) : (s ++ t).extract 0 s.size = s := by
 refine Pmu (by rw [Pbh _ (by rw [Zs]; omega)]; omega) fun i hi => ?_
 rw [Pbh _ (by rw [Zs]; omega)] at hi
 rw [Pdd _ (by rw [Zs]; omega) (by omega), Nat.zero_add, Pgm (by omega)]
theorem Pgz (s t : Zb) : (s ++ t).extract s.size (s ++ t).size = t := by
 refine Pmu (by rw [Pbh _ (Nat.le_refl _), Zs]; omega) fun i hi => ?_
 rw [Pbh _ (Nat.le_refl _), Zs] at hi
 rw [Pdd _ (Nat.le_refl _) (by rw [Zs]; omega), Pml (by omega) (by omega)]
 congr 1; omega
def vb (n : Int) : Zb := if n < 128 then strOfNums [n] else strOfNums [128 + n % 128, n / 128]
theorem Pkr (n : Int) : 1 ≤ (vb n).size ∧ (vb n).size ≤ 2 := by
 unfold vb; split <;> rw [Pas] <;> simp
theorem Puj {n : Int} (h : n < 128) : (vb n).size = 1 := by unfold vb; rw [if_pos h]; rfl
theorem vb_eq {k} (hk : Zk k) {n : Int} (h0 : 0 ≤ n) (h1 : n < 16384) : Paw.f k n = some (vb n) := by
 unfold Paw.f
 rw [l1]
 have : (decide (0 ≤ n) && decide (n ≤ 562949953421311)) = true := by simp [h0]; omega
 simp only [Zo, this, Zx, Zz]
 obtain ⟨kk, hkk⟩ : ∃ m, k = m + 2 := ⟨k - 2, by omega⟩
 unfold vb
 by_cases h : n < 128
 ·rw [if_pos h]
  have e := Pmh h0 (by omega) (⟨#[]⟩ : Zb) [] k
  rw [if_neg (by omega)] at e
  rw [show iter (X := (Int × U9) ⊕ Zb) (Paw.b0 k) k (n, (⟨#[]⟩ : Zb), []) = some (.inl (n, ⟨#[]⟩, [])) from by
   conv => lhs; arg 2; rw [hkk]
   exact Pbi e]
  simp only [Zo]
  unfold Paw.d0
  dsimp only
  rw [Qrr (by unfold limOf; simp), Qrq h0 (by omega)]
  rfl
 ·rw [if_neg h]
  have e := Pmh h0 (by omega) (⟨#[]⟩ : Zb) [] k
  rw [if_pos (by omega), Qrr (by unfold limOf; simp), Int.tmod_eq_emod_of_nonneg h0, Zw, Qrq (by omega) (by omega)] at e
  simp only [Zo, List.nil_append] at e
  have e2 := Pmh (n := n / 128) (by omega) (by omega) (⟨#[]⟩ : Zb) [128 + n % 128] k
  rw [if_neg (by omega)] at e2
  rw [show iter (X := (Int × U9) ⊕ Zb) (Paw.b0 k) k (n, (⟨#[]⟩ : Zb), []) = some (.inl (n / 128, ⟨#[]⟩, [128 + n % 128])) from by
   conv => lhs; arg 2; rw [hkk]
   rw [Paz e]; exact Pbi e2]
  simp only [Zo]
  unfold Paw.d0
  dsimp only
  rw [Qrr (by unfold limOf; simp), Qrq (by omega) (by omega)]
  rfl
theorem Pbcl {k} (hk : Zk k) {n : Int} (h0 : 0 ≤ n) (h1 : n < 16384) (t : Zb) (ht : t.size ≤ 1048576) : rdv k (vb n ++ t) = (n, ((vb n).size : Int)) := by
 have hz := Pkr n
 have hb : ∀ i, i < (vb n).size → Qmy (vb n ++ t) i = Qmy (vb n) i := fun i hi => Pgm hi
 refine Pbfh hk _ (by rw [Zs]; omega) _ hz.1 (by omega) (by rw [Zs]; omega) (by rw [Pqj]; exact vb_eq hk h0 h1) ?_ fun i hi => ?_
 ·rw [Prw hb]
  by_cases h : n < 128
  ·have e : vb n = strOfNums [n] := by unfold vb; rw [if_pos h]
   rw [e, Pas]
   show 0 + Qmy (strOfNums [n]) 0 % 128 * pw 0 = n
   rw [Pff (l := [n]) (i := 0) (by simp) (by simpa using h0) (by simp; omega), pw0]
   simp; omega
  ·have e : vb n = strOfNums [128 + n % 128, n / 128] := by unfold vb; rw [if_neg h]
   rw [e, Pas]
   show 0 + Qmy (strOfNums [128 + n % 128, n / 128]) 0 % 128 * pw 0 + Qmy (strOfNums [128 + n % 128, n / 128]) 1 % 128 * pw 1 = n
   rw [Pff (l := [128 + n % 128, n / 128]) (i := 0) (by simp) (by simp; omega) (by simp; omega), Pff (l := [128 + n % 128, n / 128]) (i := 1) (by simp) (by simp; omega) (by simp; omega), pw1, pw0]
   simp; omega
 ·rw [hb i (by omega)]
  by_cases h : n < 128
  ·have := Puj h; omega
  ·have e : vb n = strOfNums [128 + n % 128, n / 128] := by unfold vb; rw [if_neg h]
   have hi0 : i = 0 := by omega
   subst hi0
   rw [e, Pff (l := [128 + n % 128, n / 128]) (i := 0) (by simp) (by simp; omega) (by simp; omega)]
   simp; omega
end S
namespace S
open Y V
def byt (made : List Zb) (id : Int) : Zb := if id < 256 then strOfNums [IntKind.wrap .u8 id] else made.getD (id - 256).toNat ⟨#[]⟩
def has (made : List Zb) (t : Zb) : Bool := made.any fun x => decide (x = t)
def idOk (i : Nat) (a : Int) : Bool := decide (0 ≤ a) && decide (a ≤ 255 + i)
def tokR : List U3 → List Zb → List Zb × Bool
 | [], made => (made, true)
 | p :: l, made => bif idOk made.length p.1 && (idOk made.length p.2 && (!decide (24 < (byt made p.1 ++ byt made p.2).size) && !has made (byt made p.1 ++ byt made p.2))) then tokR l (made ++ [byt made p.1 ++ byt made p.2]) else (made, false)
def Short (made : List Zb) : Prop := ∀ x ∈ made, x.size ≤ 24
theorem Short.push {made : List Zb} (h : Short made) {t : Zb} (ht : t.size ≤ 24) : Short (made ++ [t]) := fun x hx => by
 rcases List.mem_append.1 hx with hx | hx
 ·exact h x hx
 ·rw [List.mem_singleton.1 hx]; exact ht
theorem Pqi {made : List Zb} (h : Short made) (id : Int) : (byt made id).size ≤ 24 := by
 unfold byt
 split
 ·rw [Pas]; simp
 ·rw [List.getD_eq_getElem?_getD]
  cases hx : made[(id - 256).toNat]? with
  | none => show (0 : Nat) ≤ 24; omega
  | some x => exact h x (List.mem_of_getElem? hx)
theorem Ppo (k : Nat) {made : List Zb} {id : Int} (hl : made.length ≤ 1000) (h : idOk made.length id = true) : Phq.f k made id = some (byt made id) := by
 unfold idOk at h
 simp only [Zd, Zq] at h
 unfold Phq.f byt
 by_cases h1 : id < 256
 ·rw [if_pos h1, Zt h1]; rfl
 ·rw [if_neg h1, Zf h1, Zw, Zi]
  simp only [Zz, Zo]
  rw [List.getD_eq_getElem?_getD, Zg (show (id - 256).toNat < made.length by omega)]
  rfl
theorem Psm (k : Nat) {made : List Zb} {id : Int} (hl : made.length ≤ 1000) (h : idOk made.length id = true) : Pjc.f k made id = some (byt made id) := Ppo k hl h
theorem Pps {t : Zb} (made : List Zb) : has made t = !decide (idxOf (fun x => decide (x = t)) made < 0) := Qrm _ _
theorem Pbcs {k} (hk : Zk k) (z1 : List Zb) (z2 : Bool) (made : List Zb) (t : Zb) (v : List U3) (hl : made.length ≤ 1000) :
  iter (X := U13 ⊕ (List Zb × Bool)) (Pbo.b1 k) k (z1, z2, made, (made.length : Int), t, 0, v) = some (bif has made t then .inr (made, false) else .inl (z1, z2, made, (made.length : Int), t, v)) := by
 have := Qqy (B := Pbo.b1 k) (X := U13 ⊕ (List Zb × Bool)) made (fun i => (z1, z2, made, (made.length : Int), t, (i : Int), v)) (fun x => decide (x = t)) (fun _ => .inr (made, false)) (.inl (z1, z2, made, (made.length : Int), t, v)) (fun i hi => by
  unfold Pbo.b1
  dsimp only
  rw [Zt (by omega), Zi, Zw (n := (i : Int) + 1)]
  simp only [Zy, Zo, Zn, Zg hi]
  rfl) (by
  unfold Pbo.b1
  dsimp only
  rw [Zf (by omega)]
  rfl) k (by omega)
 rw [show ((0 : Nat) : Int) = 0 from rfl] at this
 rw [this, Pps]
 unfold idxOf
 cases h : made.findIdx? (fun x => decide (x = t)) with
 | none => rfl
 | some i =>
  have e : decide ((i : Int) < 0) = false := Zf (by omega)
  simp only [e]; rfl
theorem Pbec {k} (hk : Zk k) (made : List Zb) (t : Zb) (hl : made.length ≤ 1000) : Pdw.f k made t = some (has made t) := by
 unfold Pdw.f Pbr.f
 have := Qqy (B := Pbr.b0 k) (X := Int ⊕ Int) made (fun i => (made, t, 0, (made.length : Int), (i : Int))) (fun x => decide (t = x)) (fun i => .inr (i : Int)) (.inl 0) (fun i hi => by
  unfold Pbr.b0
  dsimp only
  rw [Zt (by omega), Zi, Zw (n := (i : Int) + 1)]
  simp only [Zy, Zo, Zn, Zg hi]
  rfl) (by
  unfold Pbr.b0
  dsimp only
  rw [Zf (by omega)]
  rfl) k (by omega)
 rw [show ((0 : Nat) : Int) = 0 from rfl] at this
 rw [this, Pps]
 have e : (fun x : Zb => decide (t = x)) = fun x => decide (x = t) := by funext x; by_cases h : t = x <;> simp [h, eq_comm]
 rw [e]
 unfold idxOf
 cases h : made.findIdx? (fun x => decide (x = t)) with
 | none => rfl
 | some i => simp
theorem in_ok (k : Nat) (a : Int) (i : Nat) (hi : i ≤ 1000) : Pan.f k a 0 (Zr (255 + (i : Int))) = some (idOk i a) := by
 rw [V.l1, Zw]; rfl
theorem Pbgg (k : Nat) (a : Int) (i : Nat) (hi : i ≤ 1000) : Paa.f k a 0 (Zr (255 + (i : Int))) = some (idOk i a) := in_ok k a i hi
theorem Pzg {k} (hk : Zk k) (v : List U3) (hv : v.length ≤ 1000) : ∀ (l : List U3) (made : List Zb) (kk : Nat), Short made → v.drop made.length = l → made.length ≤ v.length → l.length < kk →
  ∃ x, iter (X := (List Zb × Bool × List Zb) ⊕ (List Zb × Bool)) (Pbo.b0 k) kk ([], false, made, (made.length : Int), v) = some x ∧ (match x with | .inl y => (y.2.2, true) | .inr o => o) = tokR l made
 | [], made, kk, hs, hd, hle, hkk => by
  obtain ⟨kk, rfl⟩ : ∃ m, kk = m + 1 := ⟨kk - 1, by omega⟩
  have hlen : v.length ≤ made.length := List.drop_eq_nil_iff.1 hd
  refine ⟨_, Pbi (x := .inl ([], false, made)) ?_, rfl⟩
  unfold Pbo.b0
  dsimp only
  rw [Zf (by omega)]; rfl
 | p :: l, made, kk, hs, hd, hle, hkk => by
  obtain ⟨kk, rfl⟩ : ∃ m, kk = m + 1 := ⟨kk - 1, by omega⟩
  have hlt : made.length < v.length := by
   have := congrArg List.length hd; simp at this; omega
  have hg : v[made.length]? = some p := by
   have := congrArg (fun z => z[0]?) hd
   simpa [List.getElem?_drop] using this
  have hd2 : v.drop (made.length + 1) = l := by rw [← List.drop_drop, hd]; rfl
  have step : Pbo.b0 k ([], false, made, (made.length : Int), v) = some (bif idOk made.length p.1 && (idOk made.length p.2 && (!decide (24 < (byt made p.1 ++ byt made p.2).size) && !has made (byt made p.1 ++ byt made p.2))) then .inl ([], false, made ++ [byt made p.1 ++ byt made p.2], ((made.length + 1 : Nat) : Int), v) else .inr (.inr (made, false))) := by
   unfold Pbo.b0
   dsimp only
   rw [Zt (by omega), Zi, Zn]
   simp only [Zy, Zo, hg, in_ok k _ _ (show made.length ≤ 1000 by omega)]
   cases h1 : idOk made.length p.1 with
   | false => rfl
   | true =>
    cases h2 : idOk made.length p.2 with
    | false => rfl
    | true =>
     simp only [Zx, Zz, Ppo k (show made.length ≤ 1000 by omega) h1, Ppo k (show made.length ≤ 1000 by omega) h2, Zo]
     have z1 := Pqi hs p.1
     have z2 := Pqi hs p.2
     rw [Za]
     simp only [Zo]
     generalize byt made p.1 ++ byt made p.2 = t
     have e : decide (24 < (t.size : Int)) = decide (24 < t.size) := by by_cases h : 24 < t.size <;> simp [h] <;> omega
     rw [e]
     cases h3 : decide (24 < t.size) with
     | true => rfl
     | false =>
      simp only [Zz]
      rw [Pbcs hk [] false made t v (by omega)]
      cases h4 : has made t with
      | true => rfl
      | false =>
       simp only [Zz, Zo]
       unfold Pbo.d0
       dsimp only
       rw [Qrr (by unfold limOf; simp; omega), Zw]
       rfl
  cases hc : (idOk made.length p.1 && (idOk made.length p.2 && (!decide (24 < (byt made p.1 ++ byt made p.2).size) && !has made (byt made p.1 ++ byt made p.2)))) with
  | false =>
   rw [hc] at step
   refine ⟨_, Pbi step, ?_⟩
   simp only [tokR]; rw [hc]; rfl
  | true =>
   rw [hc] at step
   rw [Paz step]
   have hsz : (byt made p.1 ++ byt made p.2).size ≤ 24 := by
    simp only [Zd, Bool.not_eq_true', decide_eq_false_iff_not] at hc
    omega
   have hlen : (made ++ [byt made p.1 ++ byt made p.2]).length = made.length + 1 := by simp
   obtain ⟨x, h1, h2⟩ := Pzg hk v hv l (made ++ [byt made p.1 ++ byt made p.2]) kk (hs.push hsz) (by rw [hlen]; exact hd2) (by rw [hlen]; omega) (by simp at hkk; omega)
   rw [hlen] at h1
   refine ⟨x, h1, ?_⟩
   rw [h2]
   simp only [tokR]; rw [hc]; rfl
theorem Pyn {k} (hk : Zk k) (v : List U3) (hv : v.length ≤ 1000) : ∀ (l : List U3) (made : List Zb) (kk : Nat), Short made → v.drop made.length = l → made.length ≤ v.length → l.length < kk →
  ∃ x, iter (X := (List Zb × Bool × List Zb) ⊕ (List Zb × Bool)) (Pem.b0 k) kk ([], false, made, v, (v.length : Int), (made.length : Int)) = some x ∧ (match x with | .inl y => (y.2.2, true) | .inr o => o) = tokR l made
 | [], made, kk, hs, hd, hle, hkk => by
  obtain ⟨kk, rfl⟩ : ∃ m, kk = m + 1 := ⟨kk - 1, by omega⟩
  have hlen : v.length ≤ made.length := List.drop_eq_nil_iff.1 hd
  refine ⟨_, Pbi (x := .inl ([], false, made)) ?_, rfl⟩
  unfold Pem.b0
  dsimp only
  rw [Zf (by omega)]; rfl
 | p :: l, made, kk, hs, hd, hle, hkk => by
  obtain ⟨kk, rfl⟩ : ∃ m, kk = m + 1 := ⟨kk - 1, by omega⟩
  have hlt : made.length < v.length := by
   have := congrArg List.length hd; simp at this; omega
  have hg : v[made.length]? = some p := by
   have := congrArg (fun z => z[0]?) hd
   simpa [List.getElem?_drop] using this
  have hd2 : v.drop (made.length + 1) = l := by rw [← List.drop_drop, hd]; rfl
  have step : Pem.b0 k ([], false, made, v, (v.length : Int), (made.length : Int)) = some (bif idOk made.length p.1 && (idOk made.length p.2 && (!decide (24 < (byt made p.1 ++ byt made p.2).size) && !has made (byt made p.1 ++ byt made p.2))) then .inl ([], false, made ++ [byt made p.1 ++ byt made p.2], v, (v.length : Int), ((made.length + 1 : Nat) : Int)) else .inr (.inr (made, false))) := by
   unfold Pem.b0
   dsimp only
   rw [Zt (by omega), Zi, Zn]
   simp only [Zy, Zo, hg, Pbgg k _ _ (show made.length ≤ 1000 by omega)]
   cases h1 : idOk made.length p.1 with
   | false => rfl
   | true =>
    cases h2 : idOk made.length p.2 with
    | false => rfl
    | true =>
     simp only [Zx, Zz, Psm k (show made.length ≤ 1000 by omega) h1, Psm k (show made.length ≤ 1000 by omega) h2, Zo]
     have z1 := Pqi hs p.1
     have z2 := Pqi hs p.2
     rw [Za]
     simp only [Zo]
     generalize byt made p.1 ++ byt made p.2 = t
     have e : decide (24 < (t.size : Int)) = decide (24 < t.size) := by by_cases h : 24 < t.size <;> simp [h] <;> omega
     rw [e]
     cases h3 : decide (24 < t.size) with
     | true => rfl
     | false =>
      simp only [Zz]
      rw [Pbec hk made t (by omega)]
      cases h4 : has made t with
      | true => rfl
      | false =>
       simp only [Zz, Zo]
       rw [Qrr (by unfold limOf; simp; omega), Zw]
       rfl
  cases hc : (idOk made.length p.1 && (idOk made.length p.2 && (!decide (24 < (byt made p.1 ++ byt made p.2).size) && !has made (byt made p.1 ++ byt made p.2)))) with
  | false =>
   rw [hc] at step
   refine ⟨_, Pbi step, ?_⟩
   simp only [tokR]; rw [hc]; rfl
  | true =>
   rw [hc] at step
   rw [Paz step]
   have hsz : (byt made p.1 ++ byt made p.2).size ≤ 24 := by
    simp only [Zd, Bool.not_eq_true', decide_eq_false_iff_not] at hc
    omega
   have hlen : (made ++ [byt made p.1 ++ byt made p.2]).length = made.length + 1 := by simp
   obtain ⟨x, h1, h2⟩ := Pyn hk v hv l (made ++ [byt made p.1 ++ byt made p.2]) kk (hs.push hsz) (by rw [hlen]; exact hd2) (by rw [hlen]; omega) (by simp at hkk; omega)
   rw [hlen] at h1
   refine ⟨x, h1, ?_⟩
   rw [h2]
   simp only [tokR]; rw [hc]; rfl
def toks (v : List U3) : List Zb × Bool := if 60 < v.length then ([], false) else tokR v []
theorem Pbcu {k} (hk : Zk k) (v : List U3) : Pbo.f k v = some (toks v) := by
 unfold Pbo.f toks
 by_cases h : 60 < v.length
 ·rw [if_pos h, Zt (by omega)]; rfl
 ·rw [if_neg h, Zf (by omega)]
  obtain ⟨x, h1, h2⟩ := Pzg hk v (by omega) v [] k (fun x hx => by cases hx) rfl (by simp) (by omega)
  rw [show ((([] : List Zb).length : Nat) : Int) = 0 from rfl] at h1
  simp only [Zz, h1, Zo, ← h2]
  cases x <;> rfl
theorem Pbbs {k} (hk : Zk k) (v : List U3) : Pem.f k v = some (toks v) := by
 unfold Pem.f toks
 by_cases h : 60 < v.length
 ·rw [if_pos h, Zt (by omega)]; rfl
 ·rw [if_neg h, Zf (by omega)]
  obtain ⟨x, h1, h2⟩ := Pyn hk v (by omega) v [] k (fun x hx => by cases hx) rfl (by simp) (by omega)
  rw [show ((([] : List Zb).length : Nat) : Int) = 0 from rfl] at h1
  simp only [Zz, h1, Zo, ← h2]
  cases x <;> rfl
def vocB (v : List U3) : Bool := (toks v).2
theorem Pbet {k} (hk : Zk k) (v : List U3) : Pjs.f k v = some (vocB v) := by
 unfold Pjs.f; rw [Pbcu hk]; rfl
theorem Pbef {k} (hk : Zk k) (v : List U3) : Pja.f k v = some (vocB v) := by
 unfold Pja.f; rw [Pbbs hk]; rfl
theorem Pzj : ∀ {l : List U3} {made : List Zb}, (tokR l made).2 = true → ∀ p ∈ l, (0 ≤ p.1 ∧ p.1 ≤ 255 + made.length + l.length) ∧ (0 ≤ p.2 ∧ p.2 ≤ 255 + made.length + l.length)
 | [], _, _, p, hp => by cases hp
 | q :: l, made, h, p, hp => by
  simp only [tokR] at h
  cases hc : (idOk made.length q.1 && (idOk made.length q.2 && (!decide (24 < (byt made q.1 ++ byt made q.2).size) && !has made (byt made q.1 ++ byt made q.2)))) with
  | false => rw [hc] at h; cases h
  | true =>
   rw [hc] at h
   simp only [Zd, idOk, Zq] at hc
   rcases List.mem_cons.1 hp with rfl | hp
   ·simp only [Zl]; omega
   ·have := Pzj h p hp
    simp only [List.length_append, Zl, List.length_nil] at this ⊢
    omega
theorem Pmi {v : List U3} (h : vocB v = true) : v.length ≤ 60 ∧ ∀ p ∈ v, (0 ≤ p.1 ∧ p.1 ≤ 315) ∧ (0 ≤ p.2 ∧ p.2 ≤ 315) := by
 unfold vocB toks at h
 split at h
 ·cases h
 ·refine ⟨by omega, fun p hp => ?_⟩
  have := Pzj h p hp
  simp only [List.length_nil] at this
  omega
end S
namespace S
open Y V
def bodyT : List U3 → Zb
 | [] => ⟨#[]⟩
 | p :: l => vb p.1 ++ (vb p.2 ++ bodyT l)
theorem Plg : ∀ l : List U3, (bodyT l).size ≤ 4 * l.length
 | [] => Nat.le_refl _
 | p :: l => by
  have h := Plg l
  have h1 := Pkr p.1
  have h2 := Pkr p.2
  simp only [bodyT, Zs, Zl]; omega
def canG (o : Zb) (p : U3) : Zb := o ++ vb p.1 ++ vb p.2
theorem Pnw (o : Zb) : o ++ (⟨#[]⟩ : Zb) = o := by
 refine Pmu (by rw [Zs]; rfl) fun i hi => Pgm ?_
 rw [Zs] at hi
 have : (⟨#[]⟩ : Zb).size = 0 := rfl
 omega
theorem Pqp : ∀ (l : List U3) (o : Zb), l.foldl canG o = o ++ bodyT l
 | [], o => (Pnw o).symm
 | p :: l, o => by rw [List.foldl_cons, Pqp l]; simp only [canG, bodyT, ByteArray.append_assoc]
def bpe3 : Zb := ⟨#[98, 112, 101]⟩
def canon (v : List U3) : Zb := if vocB v = true then (bpe3 ++ vb v.length) ++ bodyT v else ⟨#[]⟩
theorem Plz {v : List U3} (h : vocB v = true) : 4 ≤ (canon v).size ∧ (canon v).size ≤ 244 := by
 obtain ⟨h1, _⟩ := Pmi h
 unfold canon
 rw [if_pos h, Zs, Zs, Puj (by omega)]
 have := Plg v
 have h3 : bpe3.size = 3 := rfl
 omega
theorem Pyf {v : List U3} (h : canon v ≠ ⟨#[]⟩) : vocB v = true := by
 cases hv : vocB v with
 | true => rfl
 | false => exact absurd (by unfold canon; rw [hv]; rfl) h
theorem Pbac {k} (hk : Zk k) (v : List U3) : Pex.f k v = some (canon v) := by
 unfold Pex.f canon
 rw [Pbet hk]
 simp only [Zo]
 cases hv : vocB v with
 | false => rfl
 | true =>
  obtain ⟨hl, hp⟩ := Pmi hv
  simp only [Zx, Zz, if_true]
  rw [vb_eq hk (by omega) (by omega)]
  simp only [Zo]
  have h3 : Zl1.size = 3 := rfl
  have hv1 := Pkr (v.length : Int)
  rw [Qqv (by rw [h3]; omega)]
  simp only [Zo]
  have := Qqp (B := Pex.b0 k) (X := U7 ⊕ Zb) v (fun i a => ((⟨#[]⟩ : Zb), a, (i : Int), v)) canG (fun a => .inl (⟨#[]⟩, a)) (bpe3 ++ vb v.length) (fun i hi => by
   have hz : ((v.take i).foldl canG (bpe3 ++ vb v.length)).size ≤ 1000 := by
    rw [Pqp, Zs, Zs]
    have := Plg (v.take i)
    rw [List.length_take] at this
    have h3 : bpe3.size = 3 := rfl
    omega
   generalize (v.take i).foldl canG (bpe3 ++ vb v.length) = a at hz
   obtain ⟨p1, p2⟩ := hp v[i] (List.getElem_mem hi)
   unfold Pex.b0
   dsimp only
   rw [Zt (by omega), Zi, Zn]
   simp only [Zy, Zo, Zg hi, vb_eq hk p1.1 (show v[i].1 < 16384 by omega), vb_eq hk p2.1 (show v[i].2 < 16384 by omega)]
   have z1 := Pkr v[i].1
   have z2 := Pkr v[i].2
   rw [Za]
   simp only [Zo]
   rw [Qqv (by rw [Zs]; omega), Zw (n := (i : Int) + 1)]
   rfl) (by
   unfold Pex.b0
   dsimp only
   rw [Zf (by omega)]
   rfl) k (by omega)
  rw [Pqp] at this
  have e : iter (X := U7 ⊕ Zb) (Pex.b0 k) k ((⟨#[]⟩ : Zb), Zl1 ++ vb v.length, 0, v) = some (.inl (⟨#[]⟩, bpe3 ++ vb v.length ++ bodyT v)) := this
  rw [e]
  rfl
theorem Pzv {k} (hk : Zk k) (v : List U3) : Pew.f k v = some (canon v) := by
 unfold Pew.f canon
 rw [Pbef hk, Pot]
 simp only [Zo]
 cases hv : vocB v with
 | false => rfl
 | true =>
  obtain ⟨hl, hp⟩ := Pmi hv
  simp only [Zx, Zz, if_true]
  rw [vb_eq hk (by omega) (by omega)]
  simp only [Zo]
  have h3 : Zl1.size = 3 := rfl
  have hv1 := Pkr (v.length : Int)
  rw [Qqv (by rw [h3]; omega)]
  simp only [Zo]
  have := Qqp (B := Pew.b0 k) (X := U7 ⊕ Zb) v (fun i a => ((⟨#[]⟩ : Zb), a, v, (v.length : Int), (i : Int))) canG (fun a => .inl (⟨#[]⟩, a)) (bpe3 ++ vb v.length) (fun i hi => by
   have hz : ((v.take i).foldl canG (bpe3 ++ vb v.length)).size ≤ 1000 := by
    rw [Pqp, Zs, Zs]
    have := Plg (v.take i)
    rw [List.length_take] at this
    have h3 : bpe3.size = 3 := rfl
    omega
   generalize (v.take i).foldl canG (bpe3 ++ vb v.length) = a at hz
   obtain ⟨p1, p2⟩ := hp v[i] (List.getElem_mem hi)
   unfold Pew.b0
   dsimp only
   rw [Zt (by omega), Zi, Zn, Pot]
   simp only [Zy, Zo, Zg hi, vb_eq hk p1.1 (show v[i].1 < 16384 by omega), vb_eq hk p2.1 (show v[i].2 < 16384 by omega)]
   have z1 := Pkr v[i].1
   have z2 := Pkr v[i].2
   rw [Za]
   simp only [Zo]
   rw [Qqv (by rw [Zs]; omega), Zw (n := (i : Int) + 1)]
   rfl) (by
   unfold Pew.b0
   dsimp only
   rw [Zf (by omega)]
   rfl) k (by omega)
  rw [Pqp] at this
  have e : iter (X := U7 ⊕ Zb) (Pew.b0 k) k ((⟨#[]⟩ : Zb), Zl1 ++ vb v.length, v, (v.length : Int), 0) = some (.inl (⟨#[]⟩, bpe3 ++ vb v.length ++ bodyT v)) := this
  rw [e]
  rfl
def CanR (s : Zb) (r : List U3 × Bool) : Prop :=
 (r.2 = true → vocB r.1 = true ∧ canon r.1 = s) ∧ (r.2 = false → r = ([], false)) ∧ ∀ v, vocB v = true → canon v = s → r = (v, true)
theorem CanR.one {s : Zb} {r r' : List U3 × Bool} (h : CanR s r) (h' : CanR s r') : r = r' := by
 cases hr : r.2 with
 | true => obtain ⟨a, b⟩ := h.1 hr; rw [h'.2.2 _ a b, ← hr]
 | false =>
  cases hr' : r'.2 with
  | true => obtain ⟨a, b⟩ := h'.1 hr'; have := h.2.2 _ a b; rw [this] at hr; cases hr
  | false => rw [h.2.1 hr, h'.2.1 hr']
theorem CanR.no {s : Zb} (h : ∀ v, vocB v = true → canon v ≠ s) : CanR s ([], false) := ⟨fun h => (by cases h), fun _ => rfl, fun v hv hs => absurd hs (h v hv)⟩
theorem Pnl {k} (hk : Zk k) (s : Zb) (hs : s.size ≤ 1048576) (z : List U3) : ∀ (l acc : List U3) (a kk : Nat), (∀ p ∈ l, (0 ≤ p.1 ∧ p.1 ≤ 315) ∧ (0 ≤ p.2 ∧ p.2 ≤ 315)) → a ≤ s.size → s.extract a s.size = bodyT l → acc.length + l.length ≤ 100 → l.length < kk →
  iter (X := (Zb × Bool × List U3 × List U3) ⊕ (List U3 × Bool)) (Pbl.b0 k) kk (s, false, (a : Int), z, acc) = some (.inl (s, false, z, acc ++ l))
 | [], acc, a, kk, _, ha, hb, _, hkk => by
  obtain ⟨kk, rfl⟩ : ∃ m, kk = m + 1 := ⟨kk - 1, by omega⟩
  have : s.size - a = 0 := by have := congrArg ByteArray.size hb; rw [Pbh _ (Nat.le_refl _)] at this; exact this
  refine Pbi ?_
  unfold Pbl.b0
  dsimp only
  rw [Zf (by omega), List.append_nil]; rfl
 | p :: l, acc, a, kk, hp, ha, hb, hl, hkk => by
  obtain ⟨kk, rfl⟩ : ∃ m, kk = m + 1 := ⟨kk - 1, by omega⟩
  obtain ⟨p1, p2⟩ := hp p (by simp)
  have z1 := Pkr p.1
  have z2 := Pkr p.2
  have hz : s.size - a = (vb p.1).size + ((vb p.2).size + (bodyT l).size) := by
   have := congrArg ByteArray.size hb
   rw [Pbh _ (Nat.le_refl _)] at this
   simpa only [bodyT, Zs] using this
  have e1 : s.extract (a + (vb p.1).size) s.size = vb p.2 ++ bodyT l := by
   rw [← Pln s a ha (vb p.1).size (by omega), hb]
   exact Pgz _ _
  have e2 : s.extract (a + (vb p.1).size + (vb p.2).size) s.size = bodyT l := by
   rw [← Pln s (a + (vb p.1).size) (by omega) (vb p.2).size (by omega), e1]
   exact Pgz _ _
  have r1 : Pau.f k (s.extract a s.size) = some (p.1, ((vb p.1).size : Int)) := by
   rw [(Pij hk _ (by rw [Pbh _ (Nat.le_refl _)]; omega)).1, hb]
   simp only [bodyT]
   rw [Pbcl hk p1.1 (by omega) _ (by rw [Zs]; omega)]
  have r2 : Pau.f k (s.extract (a + (vb p.1).size) s.size) = some (p.2, ((vb p.2).size : Int)) := by
   rw [(Pij hk _ (by rw [Pbh _ (Nat.le_refl _)]; omega)).1, e1, Pbcl hk p2.1 (by omega) _ (by omega)]
  have step : Pbl.b0 k (s, false, (a : Int), z, acc) = some (.inl (s, false, ((a + (vb p.1).size + (vb p.2).size : Nat) : Int), z, acc ++ [p])) := by
   unfold Pbl.b0
   dsimp only
   rw [Zt (by omega), Zc]
   simp only [Zy, Zo, Zn]
   rw [r1]
   simp only [Zo]
   rw [Zw (n := (a : Int) + ((vb p.1).size : Int)), Zc]
   simp only [Zo, Zn]
   rw [show ((a : Int) + ((vb p.1).size : Int)).toNat = a + (vb p.1).size by omega, r2]
   simp only [Zo]
   rw [Zf (by omega), Zf (by omega), Qrr (by unfold limOf; simp at hl ⊢; omega), Zw]
   rfl
  rw [Paz step, Pnl hk s hs z l (acc ++ [p]) _ kk (fun q hq => hp q (by simp [hq])) (by omega) e2 (by simp at hl ⊢; omega) (by simp at hkk; omega), List.append_assoc]
  rfl
theorem Pbax {v : List U3} (h : vocB v = true) : (canon v).extract 4 (canon v).size = bodyT v := by
 obtain ⟨h1, _⟩ := Pmi h
 have e : canon v = (bpe3 ++ vb v.length) ++ bodyT v := by unfold canon; rw [if_pos h]
 rw [e]
 have hz : (bpe3 ++ vb v.length).size = 4 := by rw [Zs, Puj (by omega)]; rfl
 have := Pgz (bpe3 ++ vb v.length) (bodyT v)
 rwa [hz] at this
theorem Pzr {v : List U3} (h : vocB v = true) : (canon v).extract 3 (canon v).size = vb v.length ++ bodyT v := by
 have e : canon v = bpe3 ++ (vb v.length ++ bodyT v) := by unfold canon; rw [if_pos h, ByteArray.append_assoc]
 rw [e]
 exact Pgz bpe3 _
theorem Pnk {k} (hk : Zk k) (s : Zb) (hs : s.size ≤ 1048576) : ∃ r, Pbl.f k s = some r ∧ CanR s r := by
 unfold Pbl.f
 by_cases h4 : s.size < 4
 ·rw [Zt (by omega)]
  exact ⟨_, rfl, CanR.no fun v hv he => by have := Plz hv; rw [he] at this; omega⟩
 rw [Zf (by omega)]
 by_cases h250 : 250 < s.size
 ·rw [Zt (by omega)]
  exact ⟨_, rfl, CanR.no fun v hv he => by have := Plz hv; rw [he] at this; omega⟩
 rw [Zf (by omega)]
 simp only [Zz]
 obtain ⟨x, hx, hq⟩ := Qor (B := Pbl.b0 k) (X := (Zb × Bool × List U3 × List U3) ⊕ (List U3 × Bool)) (fun st => ∃ (a : Nat) (acc : List U3), st = (s, false, (a : Int), [], acc) ∧ 4 ≤ a ∧ a ≤ s.size ∧ acc.length ≤ a) (fun st => s.size - st.2.2.1.toNat)
  (fun x => x = .inr ([], false) ∨ ∃ acc, x = .inl (s, false, [], acc)) (fun st hst => by
   obtain ⟨a, acc, rfl, ha4, ha, hacc⟩ := hst
   unfold Pbl.b0
   dsimp only
   by_cases hlt : a < s.size
   ·rw [Zt (by omega), Zc]
    simp only [Zy, Zo, Zn]
    obtain ⟨q1, _, q1'⟩ := Pij hk (s.extract a s.size) (by rw [Pbh _ (Nat.le_refl _)]; omega)
    rw [q1]
    simp only [Zo]
    obtain ⟨c, hc, hcl⟩ : ∃ c : Nat, (rdv k (s.extract a s.size)).2 = (c : Int) ∧ a + c ≤ s.size := by
     rcases q1' with e | ⟨_, _, h1, _, h2, _⟩
     ·exact ⟨0, by rw [e]; rfl, by omega⟩
     ·rw [Pbh _ (Nat.le_refl _)] at h2
      exact ⟨(rdv k (s.extract a s.size)).2.toNat, by omega, by omega⟩
    rw [hc, Zw (n := (a : Int) + (c : Int)), Zc]
    simp only [Zo, Zn]
    rw [show ((a : Int) + (c : Int)).toNat = a + c by omega]
    obtain ⟨q2, _, q2'⟩ := Pij hk (s.extract (a + c) s.size) (by rw [Pbh _ (Nat.le_refl _)]; omega)
    rw [q2]
    simp only [Zo]
    obtain ⟨d, hd, hdl⟩ : ∃ d : Nat, (rdv k (s.extract (a + c) s.size)).2 = (d : Int) ∧ a + c + d ≤ s.size := by
     rcases q2' with e | ⟨_, _, h1, _, h2, _⟩
     ·exact ⟨0, by rw [e]; rfl, by omega⟩
     ·rw [Pbh _ (Nat.le_refl _)] at h2
      exact ⟨(rdv k (s.extract (a + c) s.size)).2.toNat, by omega, by omega⟩
    rw [hd]
    by_cases hc0 : c = 0
    ·rw [Zt (by omega)]; exact .inr ⟨_, rfl, .inl rfl⟩
    rw [Zf (by omega)]
    by_cases hd0 : d = 0
    ·rw [Zt (by omega)]; exact .inr ⟨_, rfl, .inl rfl⟩
    rw [Zf (by omega), Qrr (by unfold limOf; simp; omega), Zw]
    simp only [Zz, Zo]
    refine .inl ⟨_, rfl, ⟨a + c + d, _, rfl, by omega, by omega, by simp; omega⟩, ?_⟩
    show s.size - ((a : Int) + c + d).toNat < s.size - (a : Int).toNat
    omega
   ·rw [Zf (by omega)]
    exact .inr ⟨_, rfl, .inr ⟨_, rfl⟩⟩) k (s, false, 4, [], []) ⟨4, [], rfl, by omega, by omega, by simp⟩ (by omega)
 have third : ∀ v, vocB v = true → canon v = s → x = .inl (s, false, [], v) := fun v hv he => by
  obtain ⟨hl, hp⟩ := Pmi hv
  have := Pnl hk s hs [] v [] 4 k hp (by omega) (by rw [← he]; exact Pbax hv) (by simp; omega) (by omega)
  rw [List.nil_append, show ((4 : Nat) : Int) = 4 from rfl, hx] at this
  exact Option.some.inj this
 rw [hx]
 simp only [Zo]
 rcases hq with rfl | ⟨acc, rfl⟩
 ·exact ⟨_, rfl, CanR.no fun v hv he => by have := third v hv he; cases this⟩
 ·simp only
  unfold Pbl.d0
  dsimp only
  rw [Pbac hk]
  simp only [Zo]
  by_cases hc : canon acc = s
  ·rw [Zt hc]
   refine ⟨_, rfl, fun _ => ⟨Pyf (by rw [hc]; intro e; rw [e] at h4; exact h4 (by show (0 : Nat) < 4; omega)), hc⟩, fun h => (by cases h), fun v hv he => ?_⟩
   have := third v hv he
   simp only [Sum.inl.injEq, Prod.mk.injEq, true_and] at this
   rw [this]
  ·rw [Zf hc]
   refine ⟨_, rfl, CanR.no fun v hv he => ?_⟩
   have := third v hv he
   simp only [Sum.inl.injEq, Prod.mk.injEq, true_and] at this
   exact hc (this ▸ he)
theorem Pbaz (k : Nat) (t : Zb) (bad : Bool) (n : Int) (hn : 0 ≤ n) : Pdx.f k (t, bad) n = some (if bad = true then (⟨#[]⟩, t, true) else if (t.size : Int) < n then (⟨#[]⟩, t, true) else (t.extract 0 n.toNat, t.extract n.toNat t.size, false)) := by
 unfold Pdx.f
 dsimp only
 cases bad
 ·rw [l2]
  simp only [Zo, Zz, Bool.false_eq_true, if_false]
  by_cases h : (t.size : Int) < n
  ·rw [if_pos h, Zf (show ¬ n ≤ (t.size : Int) by omega), Bool.and_false]; rfl
  ·rw [if_neg h, Zt hn, Zt (show n ≤ (t.size : Int) by omega), Zc, Zc]; rfl
 ·rfl
theorem Pxi {k} (hk : Zk k) (t : Zb) (bad : Bool) (ht : t.size ≤ 1048576) (n : Int) : Pcv.f k (t, bad) n = some (if n < (numP k t bad).1 ∨ (numP k t bad).2.2 = true then (0, (numP k t bad).2.1, true) else (numP k t bad)) := by
 unfold Pcv.f
 rw [Pmq hk t bad (by omega)]
 obtain ⟨a, b, c⟩ := numP k t bad
 simp only [Zo]
 by_cases h : n < a
 ·rw [Zt h, if_pos (.inl h)]; rfl
 ·rw [Zf h]
  cases c
  ·rw [if_neg (by simp [h])]; rfl
  ·rw [if_pos (.inr rfl)]; rfl
def runP (k : Nat) : Nat → Zb → Bool → List U3 × Zb × Bool
 | 0, t, b => ([], t, b)
 | d + 1, t, b => (((numP k t b).1, (numP k (numP k t b).2.1 (numP k t b).2.2).1) :: (runP k d (numP k (numP k t b).2.1 (numP k t b).2.2).2.1 (numP k (numP k t b).2.1 (numP k t b).2.2).2.2).1, (runP k d (numP k (numP k t b).2.1 (numP k t b).2.2).2.1 (numP k (numP k t b).2.1 (numP k t b).2.2).2.2).2)
theorem Pso {k} (hk : Zk k) (s : Zb) (n : Nat) (hn : n ≤ 100) (z : List U3) : ∀ (d i kk : Nat) (t : Zb) (b : Bool) (acc : List U3), i + d = n → d < kk → acc.length ≤ i → t.size ≤ 1048576 →
  iter (X := (Zb × Bool × List U3 × U10 × List U3) ⊕ (List U3 × Bool)) (Pbv.b0 k) kk (s, false, (n : Int), (i : Int), z, (t, b), acc) = some (.inl (s, false, z, (runP k d t b).2, acc ++ (runP k d t b).1))
 | 0, i, kk, t, b, acc, hi, hkk, _, _ => by
  obtain ⟨kk, rfl⟩ : ∃ m, kk = m + 1 := ⟨kk - 1, by omega⟩
  refine Pbi ?_
  unfold Pbv.b0
  dsimp only
  rw [Zf (by omega)]
  simp only [runP, List.append_nil]; rfl
 | d + 1, i, kk, t, b, acc, hi, hkk, ha, ht => by
  obtain ⟨kk, rfl⟩ : ∃ m, kk = m + 1 := ⟨kk - 1, by omega⟩
  have s1 := Pls k t b
  have s2 := Pls k (numP k t b).2.1 (numP k t b).2.2
  have step : Pbv.b0 k (s, false, (n : Int), (i : Int), z, (t, b), acc) = some (.inl (s, false, (n : Int), ((i + 1 : Nat) : Int), z, (numP k (numP k t b).2.1 (numP k t b).2.2).2, acc ++ [((numP k t b).1, (numP k (numP k t b).2.1 (numP k t b).2.2).1)])) := by
   unfold Pbv.b0
   dsimp only
   rw [Zt (by omega), Pmq hk t b (by omega)]
   simp only [Zy, Zo]
   rw [show (numP k t b).2 = ((numP k t b).2.1, (numP k t b).2.2) from rfl, Pmq hk _ _ (by omega)]
   simp only [Zo]
   rw [Qrr (by unfold limOf; simp; omega), Zw (n := (i : Int) + 1)]
   rfl
  rw [Paz step]
  rw [show (numP k (numP k t b).2.1 (numP k t b).2.2).2 = ((numP k (numP k t b).2.1 (numP k t b).2.2).2.1, (numP k (numP k t b).2.1 (numP k t b).2.2).2.2) from rfl]
  rw [Pso hk s n hn z d (i + 1) kk _ _ _ (by omega) (by omega) (by simp; omega) (by omega)]
  simp only [runP, List.append_assoc]
  rfl
theorem Pxk {k} (hk : Zk k) {n : Int} (h0 : 0 ≤ n) (h1 : n < 16384) (t : Zb) (ht : t.size ≤ 1048576) : numP k (vb n ++ t) false = (n, t, false) := by
 have h := Pbcl hk h0 h1 t ht
 have hz := Pkr n
 unfold numP
 rw [if_neg (by rw [h]; rintro (h' | h') <;> first | (simp only at h'; omega) | cases h'), h]
 simp only [Zn]
 rw [Pgz]
theorem Pvw {k} (hk : Zk k) : ∀ (l : List U3), l.length ≤ 100 → (∀ p ∈ l, (0 ≤ p.1 ∧ p.1 ≤ 315) ∧ (0 ≤ p.2 ∧ p.2 ≤ 315)) → runP k l.length (bodyT l) false = (l, ⟨#[]⟩, false)
 | [], _, _ => rfl
 | p :: l, hl, hp => by
  obtain ⟨p1, p2⟩ := hp p (by simp)
  have z := Plg l
  have z2 := Pkr p.2
  simp only [Zl] at hl ⊢
  simp only [runP, bodyT]
  rw [Pxk hk p1.1 (by omega) _ (by rw [Zs]; omega)]
  simp only
  rw [Pxk hk p2.1 (by omega) _ (by omega)]
  simp only
  rw [Pvw hk l (by omega) fun q hq => hp q (by simp [hq])]
theorem Psc {k} (hk : Zk k) (s : Zb) (hs : s.size ≤ 1048576) : ∃ r, Pbv.f k s = some r ∧ CanR s r := by
 unfold Pbv.f
 rw [Pbaz k s false 3 (by omega)]
 simp only [Zo, Bool.false_eq_true, if_false]
 have hcut : ∃ t b, (if (s.size : Int) < 3 then ((⟨#[]⟩ : Zb), s, true) else (s.extract 0 (3 : Int).toNat, s.extract (3 : Int).toNat s.size, false)).2 = (t, b) ∧ t.size ≤ 1048576 ∧ ∀ v, vocB v = true → canon v = s → b = false ∧ t = vb v.length ++ bodyT v := by
  by_cases h : (s.size : Int) < 3
  ·rw [if_pos h]
   exact ⟨_, _, rfl, hs, fun v hv he => by have := Plz hv; rw [he] at this; omega⟩
  ·rw [if_neg h]
   exact ⟨_, _, rfl, by rw [Pbh _ (Nat.le_refl _)]; omega, fun v hv he => ⟨rfl, by rw [← he]; exact Pzr hv⟩⟩
 obtain ⟨t, b, e, ht, hv⟩ := hcut
 rw [e, Pxi hk t b ht]
 simp only [Zo]
 have hsz := Pls k t b
 have hmany : ∃ (n : Nat) (t' : Zb) (b' : Bool), (if 60 < (numP k t b).1 ∨ (numP k t b).2.2 = true then (0, (numP k t b).2.1, true) else numP k t b) = ((n : Int), t', b') ∧ n ≤ 60 ∧ t'.size ≤ 1048576 ∧ ∀ v, vocB v = true → canon v = s → b' = false ∧ t' = bodyT v ∧ n = v.length := by
  have hval : ∀ v, vocB v = true → canon v = s → numP k t b = ((v.length : Int), bodyT v, false) ∧ v.length ≤ 60 := fun v hv1 he => by
   obtain ⟨rfl, rfl⟩ := hv v hv1 he
   obtain ⟨hl, _⟩ := Pmi hv1
   have := Plg v
   exact ⟨Pxk hk (by omega) (by omega) _ (by omega), hl⟩
  by_cases h : 60 < (numP k t b).1 ∨ (numP k t b).2.2 = true
  ·rw [if_pos h]
   refine ⟨0, _, _, rfl, by omega, by omega, fun v hv1 he => ?_⟩
   obtain ⟨h1, h2⟩ := hval v hv1 he
   rw [h1] at h
   rcases h with h | h
   ·simp only at h; omega
   ·cases h
  ·rw [if_neg h]
   have h0 : 0 ≤ (numP k t b).1 := by
    unfold numP
    split
    ·simp
    ·rcases (Pij hk t (by omega)).2.2 with e | ⟨h, _⟩
     ·rw [e]; simp
     ·exact h
   refine ⟨(numP k t b).1.toNat, (numP k t b).2.1, (numP k t b).2.2, by rw [Int.toNat_of_nonneg h0], by omega, by omega, fun v hv1 he => ?_⟩
   obtain ⟨h1, h2⟩ := hval v hv1 he
   rw [h1]; exact ⟨rfl, rfl, by simp⟩
 obtain ⟨n, t', b', e2, hn, ht', hv'⟩ := hmany
 rw [e2]
 have hx := Pso hk s n (by omega) [] n 0 k t' b' [] (by omega) (by omega) (by simp) ht'
 rw [show ((0 : Nat) : Int) = 0 from rfl] at hx
 rw [hx]
 simp only [Zo, List.nil_append]
 have third : ∀ v, vocB v = true → canon v = s → runP k n t' b' = (v, ⟨#[]⟩, false) := fun v hv1 he => by
  obtain ⟨rfl, rfl, rfl⟩ := hv' v hv1 he
  obtain ⟨hl, hp⟩ := Pmi hv1
  exact Pvw hk v (by omega) hp
 generalize runP k n t' b' = q at third
 obtain ⟨acc, t2, b2⟩ := q
 unfold Pbv.d0
 dsimp only
 cases b2 with
 | true => exact ⟨_, rfl, CanR.no fun v hv1 he => by have := third v hv1 he; simp at this⟩
 | false =>
  simp only [Zz]
  by_cases h0 : s = ⟨#[]⟩
  ·rw [Zt h0]
   exact ⟨_, rfl, CanR.no fun v hv1 he => by have := Plz hv1; rw [he, h0] at this; exact absurd this.1 (by decide)⟩
  rw [Zf h0, Pzv hk]
  simp only [Zz, Zo]
  by_cases hc : canon acc = s
  ·rw [Zt hc]
   refine ⟨_, rfl, fun _ => ⟨Pyf (by rw [hc]; exact h0), hc⟩, fun h => (by cases h), fun v hv1 he => ?_⟩
   have := third v hv1 he
   simp only [Prod.mk.injEq] at this
   rw [this.1]
  ·rw [Zf hc]
   refine ⟨_, rfl, CanR.no fun v hv1 he => ?_⟩
   have := third v hv1 he
   simp only [Prod.mk.injEq] at this
   exact hc (this.1 ▸ he)
theorem Pnj {k} (hk : Zk k) (s : Zb) (hs : s.size ≤ 1048576) : ∃ r, Pbl.f k s = some r ∧ Pbv.f k s = some r ∧ CanR s r := by
 obtain ⟨r, h1, h2⟩ := Pnk hk s hs
 obtain ⟨r', h3, h4⟩ := Psc hk s hs
 have := h2.one h4
 subst this
 exact ⟨r, h1, h3, h2⟩
end S
end Go.Proofs.YtbkcbfkehncocaaGreatDoor.Rx
