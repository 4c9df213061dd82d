/- Plain lemmas, part 3. No condition beside those that each theorem states. -/
import Derived.Test.YtbkcbfkehncocaaGreatDoorRxPlain2Rise
set_option linter.unusedVariables false
set_option linter.unusedSimpArgs false
namespace Go.Proofs.YtbkcbfkehncocaaGreatDoor.Rx
namespace S
open Y V
theorem Pbay {k} (hk : Zk k) (r : RegT) (hs : RegS r) (h1 : Zh r.1.length) (h2 : Zh r.2.1.length) (h3 : Zh r.2.2.length) : Pba.f k r = some (regB specV specA r) ∧ Pbk.f k r = some (regB specV specA r) :=
 ⟨Pbbf hk r hs h1 h2 h3, by rw [Pbgc hk r hs h1 h2 h3, Pbgj]⟩
theorem Pxh {S X : Type} {B : S → Option (S ⊕ X)} : ∀ {k : Nat} {s : S} {x : X} (j : Nat), iter B k s = some x → iter B (k + j) s = some x
 | 0, _, _, _, h => by cases h
 | k + 1, s, x, j, h => by
  rw [show k + 1 + j = (k + j) + 1 by omega]
  simp only [iter] at h ⊢
  obtain ⟨r, h1, h2⟩ := Option.bind_eq_some_iff.1 h
  rw [h1]
  simp only [Zo]
  cases r with
  | inl s' => exact Pxh j h2
  | inr y => exact h2
def vv (n : Int) : Zb := (Pax.f 9223372036854775808 n).getD ⟨#[]⟩
theorem vv_eq {k} (hk : Zk k) (n : Int) : Pax.f k n = some (vv n) := by
 obtain ⟨s, h, _⟩ := Plv (Nat.le_refl 9223372036854775808) n
 unfold vv
 rw [h]
 unfold Pax.f at h ⊢
 rw [l1] at h ⊢
 simp only [Zo] at h ⊢
 cases hc : (decide (0 ≤ n) && decide (n ≤ 562949953421311)) with
 | false => rw [hc] at h; exact h
 | true =>
  rw [hc] at h
  simp only [Zx, Zz] at h ⊢
  obtain ⟨x, h1, h2⟩ := Option.bind_eq_some_iff.1 h
  obtain ⟨j, rfl⟩ : ∃ j, k = 9223372036854775808 + j := ⟨k - 9223372036854775808, by omega⟩
  have := Pxh j h1
  have h3 : iter (X := (Int × U9) ⊕ Zb) (Pax.b0 (9223372036854775808 + j)) (9223372036854775808 + j) (n, (⟨#[]⟩ : Zb), []) = some x := this
  rw [h3]
  exact h2
theorem Pfy (n : Int) : (vv n).size ≤ 17592186044416 := by
 obtain ⟨s, h, h2⟩ := Plv (Nat.le_refl 9223372036854775808) n
 unfold vv; rw [h]; exact h2
def ansT (a : Int × Int × Int × Zb × U3) : Zb := if ansB a = true then vv a.1 ++ vv a.2.1 ++ vv a.2.2.1 ++ vv a.2.2.2.2.1 ++ vv a.2.2.2.2.2 ++ a.2.2.2.1 else ⟨#[]⟩
theorem Pvh (a : Int × Int × Int × Zb × U3) (h : Zh a.2.2.2.1.size) : (ansT a).size ≤ 87960931270656 := by
 unfold ansT
 split
 ·simp only [Zs]
  have := Pfy a.1; have := Pfy a.2.1; have := Pfy a.2.2.1; have := Pfy a.2.2.2.2.1; have := Pfy a.2.2.2.2.2
  omega
 ·show (0 : Nat) ≤ _; omega
theorem Poc {k} (hk : Zk k) (a : Int × Int × Int × Zb × U3) (h : Zh a.2.2.2.1.size) : Pdk.f k a = some (ansT a) := by
 unfold Pdk.f ansT
 rw [Psf]
 simp only [Zo]
 cases ansB a with
 | false => rfl
 | true =>
  simp only [Zx, Zz, if_true, vv_eq hk, Zo]
  have := Pfy a.1; have := Pfy a.2.1; have := Pfy a.2.2.1; have := Pfy a.2.2.2.2.1; have := Pfy a.2.2.2.2.2
  rw [Za]
  simp only [Zo]
  rw [Qqv (by simp only [Zs]; omega)]
  simp only [Zo]
  rw [Qqv (by simp only [Zs]; omega)]
  simp only [Zo]
  rw [Qqv (by simp only [Zs]; omega)]
  simp only [Zo]
  rw [Qqv (by simp only [Zs]; omega)]
  rfl
theorem Prn {k} (hk : Zk k) (a : Int × Int × Int × Zb × U3) (h : Zh a.2.2.2.1.size) : Peu.f k a = some (ansT a) := by
 rw [Pob]; exact Poc hk a h
def verG (o : Zb) (v : VerT) : Zb := o ++ strOfNums [IntKind.wrap .u8 v.2.2] ++ vv v.1.size ++ v.1
def numG (o : Zb) (n : Int) : Zb := o ++ vv n
def sesG (o : Zb) (s : SesT) : Zb := o ++ vv s.1 ++ vv s.2.1 ++ vv (ansT s.2.2).size ++ ansT s.2.2
def verT : List VerT → Zb
 | [] => ⟨#[]⟩
 | v :: l => strOfNums [IntKind.wrap .u8 v.2.2] ++ (vv v.1.size ++ (v.1 ++ verT l))
def numT : List Int → Zb
 | [] => ⟨#[]⟩
 | n :: l => vv n ++ numT l
def sesT : List SesT → Zb
 | [] => ⟨#[]⟩
 | s :: l => vv s.1 ++ (vv s.2.1 ++ (vv (ansT s.2.2).size ++ (ansT s.2.2 ++ sesT l)))
theorem Ptx : ∀ (l : List VerT) (o : Zb), l.foldl verG o = o ++ verT l
 | [], o => (Ppj o).symm
 | p :: l, o => by rw [List.foldl_cons, Ptx l]; simp only [verG, verT, ByteArray.append_assoc]
theorem Pta : ∀ (l : List Int) (o : Zb), l.foldl numG o = o ++ numT l
 | [], o => (Ppj o).symm
 | p :: l, o => by rw [List.foldl_cons, Pta l]; simp only [numG, numT, ByteArray.append_assoc]
theorem Ptf : ∀ (l : List SesT) (o : Zb), l.foldl sesG o = o ++ sesT l
 | [], o => (Ppj o).symm
 | p :: l, o => by rw [List.foldl_cons, Ptf l]; simp only [sesG, sesT, ByteArray.append_assoc]
theorem Pqk : ∀ {l : List VerT}, (∀ v ∈ l, Zh v.1.size) → (verT l).size ≤ 17592187092993 * l.length
 | [], _ => Nat.le_refl _
 | v :: l, h => by
  have h1 := Pqk fun x hx => h x (List.mem_cons_of_mem _ hx)
  have h2 := h v (by simp)
  have h3 := Pfy v.1.size
  simp only [verT, Zs, Pat, Zl, List.length_nil]; omega
theorem Ppv : ∀ {l : List Int}, (numT l).size ≤ 17592186044416 * l.length
 | [] => Nat.le_refl _
 | v :: l => by
  have h1 := Ppv (l := l)
  have h3 := Pfy v
  simp only [numT, Zs, Zl]; omega
theorem Pqc : ∀ {l : List SesT}, (∀ s ∈ l, Zh s.2.2.2.2.2.1.size) → (sesT l).size ≤ 175921860444160 * l.length
 | [], _ => Nat.le_refl _
 | s :: l, h => by
  have h1 := Pqc fun x hx => h x (List.mem_cons_of_mem _ hx)
  have h2 := Pvh s.2.2 (h s (by simp))
  have h3 := Pfy s.1
  have h4 := Pfy s.2.1
  have h5 := Pfy (ansT s.2.2).size
  simp only [sesT, Zs, Zl]; omega
def okR (r : RegT) : Bool := regB specV specA r
def regT (r : RegT) : Zb := if okR r = true then vv r.1.length ++ (verT r.1 ++ (numT r.2.1 ++ (vv r.2.2.length ++ sesT r.2.2))) else ⟨#[]⟩
theorem Prd {r : RegT} (h : okR r = true) : r.1.length ≤ 6 ∧ r.2.1.length = 3 ∧ r.2.2.length ≤ 6 := by
 unfold okR regB at h
 split at h
 ·cases h
 split at h
 ·cases h
 split at h
 ·cases h
 omega
def RegF (r : RegT) : Prop := RegS r ∧ Zh r.1.length ∧ Zh r.2.1.length ∧ Zh r.2.2.length ∧ ∀ s ∈ r.2.2, Zh s.2.2.2.2.2.1.size
theorem Pqg {α : Type} {l : List α} {i : Nat} {P : α → Prop} (h : ∀ x ∈ l, P x) : ∀ x ∈ l.take i, P x := fun x hx => h x (List.mem_of_mem_take hx)
theorem Pyd {k} (hk : Zk k) (r : RegT) (hf : RegF r) : Pbh.f k r = some (regT r) := by
 obtain ⟨hs, h1, h2, h3, h4⟩ := hf
 unfold Pbh.f regT
 rw [Pbbf hk r hs h1 h2 h3]
 simp only [Zo]
 cases hok : okR r with
 | false => rw [show regB specV specA r = false from hok]; rfl
 | true =>
  rw [show regB specV specA r = true from hok]
  obtain ⟨l1, l2, l3⟩ := Prd hok
  simp only [Zx, Zz, if_true, vv_eq hk, Zo]
  have hv0 := Pfy r.1.length
  have hb := Pqk hs
  have hn := Ppv (l := r.2.1)
  have hss := Pqc h4
  have hv1 := Pfy r.2.2.length
  have e1 := Qqp (B := Pbh.b0 k) (X := (Zb × Zb × RegT) ⊕ Zb) r.1 (fun i o => ((⟨#[]⟩ : Zb), o, (i : Int), r)) verG (fun o => .inl (⟨#[]⟩, o, r)) (vv r.1.length) (fun i hi => by
   have hz : ((r.1.take i).foldl verG (vv r.1.length)).size ≤ 1759218604441600 := by
    rw [Ptx, Zs]
    have := Pqk (Pqg (i := i) hs)
    rw [List.length_take] at this
    omega
   generalize (r.1.take i).foldl verG (vv r.1.length) = o at hz
   have hsz := hs _ (List.getElem_mem hi)
   unfold Pbh.b0
   dsimp only
   rw [Zt (by omega), Zi, Zn]
   simp only [Zy, Zo, Zg hi, vv_eq hk]
   have z2 := Pfy r.1[i].1.size
   rw [Qqv (by rw [Pat]; simp; omega)]
   simp only [Zo]
   rw [Qqv (by rw [Zs, Pat]; simp; omega)]
   simp only [Zo]
   rw [Qqv (by rw [Zs, Zs, Pat]; simp; omega), Zw (n := (i : Int) + 1)]
   rfl) (by
   unfold Pbh.b0
   dsimp only
   rw [Zf (by omega)]; rfl) k (by omega)
  rw [Ptx, show ((0 : Nat) : Int) = 0 from rfl] at e1
  rw [e1]
  simp only [Zo]
  unfold Pbh.d0
  dsimp only
  have e2 := Qqp (B := Pbh.b1 k) (X := (Zb × Zb × RegT) ⊕ Zb) r.2.1 (fun i o => ((⟨#[]⟩ : Zb), o, (i : Int), r)) numG (fun o => .inl (⟨#[]⟩, o, r)) (vv r.1.length ++ verT r.1) (fun i hi => by
   have hz : ((r.2.1.take i).foldl numG (vv r.1.length ++ verT r.1)).size ≤ 1759218604441600 := by
    rw [Pta, Zs, Zs]
    have := Ppv (l := r.2.1.take i)
    rw [List.length_take] at this
    omega
   generalize (r.2.1.take i).foldl numG (vv r.1.length ++ verT r.1) = o at hz
   unfold Pbh.b1
   dsimp only
   rw [Zt (by omega), Zi, Zn]
   simp only [Zy, Zo, Zg hi, vv_eq hk]
   have z2 := Pfy r.2.1[i]
   rw [Za, Zw (n := (i : Int) + 1)]
   rfl) (by
   unfold Pbh.b1
   dsimp only
   rw [Zf (by omega)]; rfl) k (by omega)
  rw [Pta, show ((0 : Nat) : Int) = 0 from rfl] at e2
  rw [e2]
  simp only [Zo]
  unfold Pbh.d1
  dsimp only
  rw [vv_eq hk, Zo, Qqv (by simp only [Zs]; omega), Zo]
  have e3 := Qqp (B := Pbh.b2 k) (X := U5 ⊕ Zb) r.2.2 (fun i o => ((⟨#[]⟩ : Zb), o, (i : Int), r)) sesG (fun o => .inl (⟨#[]⟩, o)) (vv r.1.length ++ verT r.1 ++ numT r.2.1 ++ vv r.2.2.length) (fun i hi => by
   have hz : ((r.2.2.take i).foldl sesG (vv r.1.length ++ verT r.1 ++ numT r.2.1 ++ vv r.2.2.length)).size ≤ 17592186044416000 := by
    rw [Ptf]
    simp only [Zs]
    have := Pqc (Pqg (i := i) h4)
    rw [List.length_take] at this
    omega
   generalize (r.2.2.take i).foldl sesG (vv r.1.length ++ verT r.1 ++ numT r.2.1 ++ vv r.2.2.length) = o at hz
   have hsz := h4 _ (List.getElem_mem hi)
   unfold Pbh.b2
   dsimp only
   rw [Zt (by omega), Zi, Zn]
   simp only [Zy, Zo, Zg hi, vv_eq hk, Poc hk _ hsz]
   have z1 := Pfy r.2.2[i].1
   have z2 := Pfy r.2.2[i].2.1
   have z3 := Pvh _ hsz
   have z4 := Pfy (ansT r.2.2[i].2.2).size
   rw [Za]
   simp only [Zo]
   rw [Qqv (by simp only [Zs]; omega)]
   simp only [Zo]
   rw [Qqv (by simp only [Zs]; omega)]
   simp only [Zo]
   rw [Qqv (by simp only [Zs]; omega), Zw (n := (i : Int) + 1)]
   rfl) (by
   unfold Pbh.b2
   dsimp only
   rw [Zf (by omega)]; rfl) k (by omega)
  rw [Ptf, show ((0 : Nat) : Int) = 0 from rfl] at e3
  rw [e3]
  simp only [Zo]
  unfold Pbh.d2
  simp only [ByteArray.append_assoc]
theorem Pxf {k} (hk : Zk k) (t : Zb) (ht : t.size ≤ 4611686018427387904) : Pla.f k t = some (vv t.size ++ t) := by
 unfold Pla.f
 rw [Pqi, vv_eq hk]
 have := Pfy t.size
 simp only [Zo]
 rw [Za]; rfl
theorem Pxe {k} (hk : Zk k) (r : RegT) (hf : RegF r) : Pbg.f k r = some (regT r) := by
 obtain ⟨hs, h1, h2, h3, h4⟩ := hf
 unfold Pbg.f regT
 rw [(Pbay hk r hs h1 h2 h3).2, Pqi]
 simp only [Zo]
 cases hok : okR r with
 | false => rw [show regB specV specA r = false from hok]; rfl
 | true =>
  rw [show regB specV specA r = true from hok]
  obtain ⟨l1, l2, l3⟩ := Prd hok
  simp only [Zx, Zz, if_true, vv_eq hk, Zo]
  have hv0 := Pfy r.1.length
  have hb := Pqk hs
  have hn := Ppv (l := r.2.1)
  have hss := Pqc h4
  have hv1 := Pfy r.2.2.length
  have e1 := Qqp (B := Pbg.b0 k) (X := (Zb × Zb × RegT) ⊕ Zb) r.1 (fun i o => ((⟨#[]⟩ : Zb), o, r.1, (r.1.length : Int), (i : Int), r)) verG (fun o => .inl (⟨#[]⟩, o, r)) (vv r.1.length) (fun i hi => by
   have hz : ((r.1.take i).foldl verG (vv r.1.length)).size ≤ 1759218604441600 := by
    rw [Ptx, Zs]
    have := Pqk (Pqg (i := i) hs)
    rw [List.length_take] at this
    omega
   generalize (r.1.take i).foldl verG (vv r.1.length) = o at hz
   have hsz := hs _ (List.getElem_mem hi)
   unfold Pbg.b0
   dsimp only
   rw [Zt (by omega), Zi, Zn]
   simp only [Zy, Zo, Zg hi, Pxf hk _ (show r.1[i].1.size ≤ 4611686018427387904 by omega)]
   have z2 := Pfy r.1[i].1.size
   rw [Qqv (by rw [Pat]; simp; omega)]
   simp only [Zo]
   rw [Qqv (by rw [Zs, Zs, Pat]; simp; omega), Zw (n := (i : Int) + 1)]
   simp only [Zo, verG, ByteArray.append_assoc]
   rfl) (by
   unfold Pbg.b0
   dsimp only
   rw [Zf (by omega)]; rfl) k (by omega)
  rw [Ptx, show ((0 : Nat) : Int) = 0 from rfl] at e1
  rw [e1]
  simp only [Zo]
  unfold Pbg.d0
  dsimp only
  have e2 := Qqp (B := Pbg.b1 k) (X := (Zb × Zb × RegT) ⊕ Zb) r.2.1 (fun i o => ((⟨#[]⟩ : Zb), o, r.2.1, (r.2.1.length : Int), (i : Int), r)) numG (fun o => .inl (⟨#[]⟩, o, r)) (vv r.1.length ++ verT r.1) (fun i hi => by
   have hz : ((r.2.1.take i).foldl numG (vv r.1.length ++ verT r.1)).size ≤ 1759218604441600 := by
    rw [Pta, Zs, Zs]
    have := Ppv (l := r.2.1.take i)
    rw [List.length_take] at this
    omega
   generalize (r.2.1.take i).foldl numG (vv r.1.length ++ verT r.1) = o at hz
   unfold Pbg.b1
   dsimp only
   rw [Zt (by omega), Zi, Zn, Pqi]
   simp only [Zy, Zo, Zg hi, vv_eq hk]
   have z2 := Pfy r.2.1[i]
   rw [Za, Zw (n := (i : Int) + 1)]
   rfl) (by
   unfold Pbg.b1
   dsimp only
   rw [Zf (by omega)]; rfl) k (by omega)
  rw [Pta, show ((0 : Nat) : Int) = 0 from rfl] at e2
  rw [e2]
  simp only [Zo]
  unfold Pbg.d1
  dsimp only
  rw [Pqi, vv_eq hk, Zo, Qqv (by simp only [Zs]; omega), Zo]
  have e3 := Qqp (B := Pbg.b2 k) (X := U5 ⊕ Zb) r.2.2 (fun i o => ((⟨#[]⟩ : Zb), o, r.2.2, (r.2.2.length : Int), (i : Int))) sesG (fun o => .inl (⟨#[]⟩, o)) (vv r.1.length ++ verT r.1 ++ numT r.2.1 ++ vv r.2.2.length) (fun i hi => by
   have hz : ((r.2.2.take i).foldl sesG (vv r.1.length ++ verT r.1 ++ numT r.2.1 ++ vv r.2.2.length)).size ≤ 17592186044416000 := by
    rw [Ptf]
    simp only [Zs]
    have := Pqc (Pqg (i := i) h4)
    rw [List.length_take] at this
    omega
   generalize (r.2.2.take i).foldl sesG (vv r.1.length ++ verT r.1 ++ numT r.2.1 ++ vv r.2.2.length) = o at hz
   have hsz := h4 _ (List.getElem_mem hi)
   have z1 := Pfy r.2.2[i].1
   have z2 := Pfy r.2.2[i].2.1
   have z3 := Pvh _ hsz
   have z4 := Pfy (ansT r.2.2[i].2.2).size
   unfold Pbg.b2
   dsimp only
   rw [Zt (by omega), Zi, Zn, Pqi]
   simp only [Zy, Zo, Zg hi, vv_eq hk, Prn hk _ hsz, Pxf hk _ (show (ansT r.2.2[i].2.2).size ≤ 4611686018427387904 by omega)]
   rw [Za]
   simp only [Zo]
   rw [Qqv (by simp only [Zs]; omega)]
   simp only [Zo]
   rw [Qqv (by simp only [Zs]; omega), Zw (n := (i : Int) + 1)]
   simp only [Zo, sesG, ByteArray.append_assoc]
   rfl) (by
   unfold Pbg.b2
   dsimp only
   rw [Zf (by omega)]; rfl) k (by omega)
  rw [Ptf, show ((0 : Nat) : Int) = 0 from rfl] at e3
  rw [e3]
  simp only [Zo]
  unfold Pbg.d2
  simp only [ByteArray.append_assoc]
theorem Pjg {n : Int} (h0 : 0 ≤ n) (h1 : n ≤ 562949953421311) : 0 < (vv n).size ∧ (vv n).size ≤ 7 ∧ (∀ i, i + 1 < (vv n).size → 128 ≤ Qmy (vv n) i) ∧ val (vv n) (vv n).size = n := by
 obtain ⟨v, h2, h3, h4, h5, _, h6⟩ := Pbgu (Nat.le_refl 9223372036854775808) h0 h1
 have e : vv n = v := by unfold vv; rw [h2]; rfl
 rw [e]; exact ⟨h3, h4, h5, h6⟩
theorem Pbhh {k} (hk : Zk k) {n : Int} (h0 : 0 ≤ n) (h1 : n ≤ 562949953421311) (t : Zb) (ht : Zh t.size) : rdv k (vv n ++ t) = (n, ((vv n).size : Int)) := by
 obtain ⟨z1, z2, hb, hv⟩ := Pjg h0 h1
 have hbb : ∀ i, i < (vv n).size → Qmy (vv n ++ t) i = Qmy (vv n) i := fun i hi => Phd hi
 refine Pbhg hk _ (by rw [Zs]; omega) _ z1 z2 (by rw [Zs]; omega) (by rw [Psb]; exact vv_eq hk n) ?_ fun i hi => ?_
 ·rw [Ptv hbb]; exact hv
 ·rw [hbb i (by omega)]; exact hb i hi
theorem Pbeg {k} (hk : Zk k) {n : Int} (h0 : 0 ≤ n) (h1 : n ≤ 562949953421311) (t : Zb) (ht : Zh t.size) : numP k (vv n ++ t) false = (n, t, false) := by
 have h := Pbhh hk h0 h1 t ht
 obtain ⟨z1, _⟩ := Pjg h0 h1
 unfold numP
 rw [if_neg (by rw [h]; rintro (h' | h') <;> first | (simp only at h'; omega) | cases h'), h]
 simp only [Zn]
 rw [Phr]
theorem Ppw {k} (hk : Zk k) {n : Int} (h0 : 0 ≤ n) (h1 : n ≤ 562949953421311) (t : Zb) (ht : Zh t.size) : Paz.f k (vv n ++ t, false) = some (n, t, false) := by
 obtain ⟨_, z2, _⟩ := Pjg h0 h1
 rw [Pnz hk _ _ (by rw [Zs]; omega), Pbeg hk h0 h1 t ht]
theorem Pbfg {k} (hk : Zk k) (b t : Zb) (hb : (b ++ t).size ≤ 1048576) : Pff.f k (vv b.size ++ (b ++ t), false) = some (b, t, false) := by
 have hz := hb
 rw [Zs] at hz
 unfold Pff.f
 rw [Ppw hk (by omega) (by omega) _ hb]
 simp only [Zo]
 rw [Pbdb k _ _ _ (by omega), if_neg (by simp), if_neg (by rw [Zs]; omega)]
 simp only [Zn, Zo]
 rw [Psb, Phr]
theorem Pbhm {k : Nat} (c : Int) (h0 : 0 ≤ c) (h1 : c ≤ 255) (t : Zb) (ht : t.size ≤ 1048000) : Pdy.f k (strOfNums [IntKind.wrap .u8 c] ++ t, false) = some (c, t, false) := by
 have hz : (strOfNums [IntKind.wrap .u8 c]).size = 1 := rfl
 rw [Pbcx _ _ (by rw [Zs, hz]; omega), if_neg (by rw [Zs, hz]; rintro (h | h) <;> first | omega | cases h)]
 have e := Phr (strOfNums [IntKind.wrap .u8 c]) t
 rw [hz] at e
 rw [e, Phd (by rw [hz]; omega), Pfu (l := [IntKind.wrap .u8 c]) (i := 0) (by simp) (by simp only [List.getElem_cons_zero]; rw [Qrq h0 h1]; exact h0) (by simp only [List.getElem_cons_zero]; rw [Qrq h0 h1]; exact h1)]
 simp only [List.getElem_cons_zero]
 rw [Qrq h0 h1]
theorem Pue {a : Int × Int × Int × Zb × Int × Int} (h : ansB a = true) : (0 ≤ a.1 ∧ a.1 ≤ 5) ∧ (0 ≤ a.2.1 ∧ a.2.1 ≤ 6) ∧ (0 ≤ a.2.2.1 ∧ a.2.2.1 ≤ 4) ∧ a.2.2.2.1.size ≤ 32 ∧ (0 ≤ a.2.2.2.2.1 ∧ a.2.2.2.2.1 ≤ 250) ∧ (0 ≤ a.2.2.2.2.2 ∧ a.2.2.2.2.2 ≤ 100000) := by
 have h := Psf 0 a ▸ (show some (ansB a) = some true by rw [h])
 unfold Peg.f at h
 simp only [l1, Zo] at h
 by_cases c1 : (decide (0 ≤ a.1) && decide (a.1 ≤ 5)) = true
 ·rw [c1] at h
  by_cases c2 : (decide (0 ≤ a.2.1) && decide (a.2.1 ≤ 6)) = true
  ·rw [c2] at h
   by_cases c3 : (decide (0 ≤ a.2.2.1) && decide (a.2.2.1 ≤ 4)) = true
   ·rw [c3] at h
    simp only [Zd, Zq] at c1 c2 c3
    refine ⟨c1, c2, c3, ?_⟩
    by_cases c4 : (a.2.2.2.1.size : Int) = 0
    ·simp only [c4, decide_true, Zy] at h
     cases c5 : (decide (0 ≤ a.2.2.2.2.1) && decide (a.2.2.2.2.1 ≤ 250)) with
     | false => rw [c5] at h; simp at h
     | true =>
      cases c6 : (decide (0 ≤ a.2.2.2.2.2) && decide (a.2.2.2.2.2 ≤ 100000)) with
      | false => rw [c5, c6] at h; simp at h
      | true =>
       simp only [Zd, Zq] at c5 c6
       exact ⟨by omega, c5, c6⟩
    ·by_cases c4' : (a.2.2.2.1.size : Int) = 32
     ·simp only [c4', decide_true, Zy] at h
      cases c5 : (decide (0 ≤ a.2.2.2.2.1) && decide (a.2.2.2.2.1 ≤ 250)) with
      | false => rw [c5] at h; simp at h
      | true =>
       cases c6 : (decide (0 ≤ a.2.2.2.2.2) && decide (a.2.2.2.2.2 ≤ 100000)) with
       | false => rw [c5, c6] at h; simp at h
       | true =>
        simp only [Zd, Zq] at c5 c6
        exact ⟨by omega, c5, c6⟩
     ·rw [Zf c4, Zf c4'] at h
      simp at h
   ·simp [Bool.not_eq_true _ ▸ c3] at h
  ·simp [Bool.not_eq_true _ ▸ c2] at h
 ·simp [Bool.not_eq_true _ ▸ c1] at h
theorem Pbct {a : Int × Int × Int × Zb × Int × Int} (h : ansB a = true) : ansT a = vv a.1 ++ (vv a.2.1 ++ (vv a.2.2.1 ++ (vv a.2.2.2.2.1 ++ (vv a.2.2.2.2.2 ++ a.2.2.2.1)))) := by
 unfold ansT; rw [if_pos h]; simp only [ByteArray.append_assoc]
theorem Poe {a : Int × Int × Int × Zb × Int × Int} (h : ansB a = true) : 5 ≤ (ansT a).size ∧ (ansT a).size ≤ 67 := by
 obtain ⟨h1, h2, h3, h4, h5, h6⟩ := Pue h
 obtain ⟨z1, z1', _⟩ := Pjg h1.1 (by omega)
 obtain ⟨z2, z2', _⟩ := Pjg h2.1 (by omega)
 obtain ⟨z3, z3', _⟩ := Pjg h3.1 (by omega)
 obtain ⟨z5, z5', _⟩ := Pjg h5.1 (by omega)
 obtain ⟨z6, z6', _⟩ := Pjg h6.1 (by omega)
 rw [Pbct h]
 simp only [Zs]; omega
theorem Prk {k} (hk : Zk k) {a : Int × Int × Int × Zb × Int × Int} (h : ansB a = true) : Pes.f k (ansT a) = some (a, true) := by
 obtain ⟨h1, h2, h3, h4, h5, h6⟩ := Pue h
 obtain ⟨z1, z1', _⟩ := Pjg h1.1 (by omega)
 obtain ⟨z2, z2', _⟩ := Pjg h2.1 (by omega)
 obtain ⟨z3, z3', _⟩ := Pjg h3.1 (by omega)
 obtain ⟨z5, z5', _⟩ := Pjg h5.1 (by omega)
 obtain ⟨z6, z6', _⟩ := Pjg h6.1 (by omega)
 have hsm := Poe h
 unfold Pes.f
 have e := Pbct h
 have q1 : Paz.f k (ansT a, false) = some (a.1, vv a.2.1 ++ (vv a.2.2.1 ++ (vv a.2.2.2.2.1 ++ (vv a.2.2.2.2.2 ++ a.2.2.2.1))), false) := by
  rw [e]; exact Ppw hk h1.1 (by omega) _ (by simp only [Zs]; omega)
 rw [q1]
 simp only [Zo]
 rw [Ppw hk h2.1 (by omega) _ (by simp only [Zs]; omega)]
 simp only [Zo]
 rw [Ppw hk h3.1 (by omega) _ (by simp only [Zs]; omega)]
 simp only [Zo]
 rw [Ppw hk h5.1 (by omega) _ (by simp only [Zs]; omega)]
 simp only [Zo]
 rw [Ppw hk h6.1 (by omega) _ (by omega)]
 simp only [Zo, Zz]
 have hne : ansT a ≠ ⟨#[]⟩ := fun he => by rw [he] at hsm; exact absurd hsm.1 (by decide)
 rw [Zf hne, Prn hk (a.1, a.2.1, a.2.2.1, a.2.2.2.1, a.2.2.2.2.1, a.2.2.2.2.2) (by show a.2.2.2.1.size ≤ _; omega)]
 simp only [Zo, Prod.eta, Zz, decide_true, Zx]
theorem Pyb {k} (hk : Zk k) {a : Int × Int × Int × Zb × Int × Int} (h : ansB a = true) : Pew.f k (ansT a) = some (a, true) := by
 have hsm := Poe h
 obtain ⟨r, h1, h2⟩ := Poa hk (ansT a) (by omega)
 rw [Prk hk h] at h2
 rw [h1, h2]
def VerF (v : VerT) : Prop := v.1.size ≤ 250 ∧ v.2.1 = shaF v.1 ∧ 1 ≤ v.2.2 ∧ v.2.2 ≤ 4
def SesF (s : SesT) : Prop := (1 ≤ s.1 ∧ s.1 ≤ 6) ∧ (1 ≤ s.2.1 ∧ s.2.1 ≤ 1000000) ∧ ansB s.2.2 = true
theorem Pbcy {s : Zb} (hs : Zh s.size) (h : canB s = true) : s.size ≤ 250 := by
 obtain ⟨r, h1, h2⟩ := Pov (Nat.le_refl 9223372036854775808) s hs
 have h3 : r.2 = true := by unfold canB at h; rw [h1] at h; exact h
 obtain ⟨h4, h5⟩ := h2.1 h3
 have := Pne h4
 rw [h5] at this; omega
theorem Ptc {r : RegT} (hs : RegS r) (h : okR r = true) : (∀ v ∈ r.1, VerF v) ∧ (∀ a ∈ r.2.1, 0 ≤ a ∧ a ≤ 6) ∧ (∀ s ∈ r.2.2, SesF s) := by
 have hl := Prd h
 unfold okR regB at h
 rw [if_neg (by omega), if_neg (by omega), if_neg (by omega)] at h
 simp only [Zd, List.all_eq_true, List.mem_range] at h
 obtain ⟨h1, h2, h3⟩ := h
 refine ⟨fun v hv => ?_, fun a ha => ?_, fun s hss => ?_⟩
 ·obtain ⟨i, hi, e⟩ := List.getElem_of_mem hv
  have := h1 i hi
  unfold specV verC at this
  rw [Zg hi, e] at this
  simp only [Zd, Zq] at this
  obtain ⟨⟨q1, q2, q3, q4⟩, _⟩ := this
  exact ⟨Pbcy (hs v hv) q1, q2, q3, q4⟩
 ·obtain ⟨i, hi, e⟩ := List.getElem_of_mem ha
  have := h2 i hi
  unfold specA at this
  rw [Zg hi, e] at this
  simp only [Zd, Zq] at this
  omega
 ·obtain ⟨i, hi, e⟩ := List.getElem_of_mem hss
  have := h3 i hi
  unfold sesB at this
  rw [Zg hi, e] at this
  simp only [Zd, Zq] at this
  obtain ⟨q1, _, q3, q4⟩ := this
  exact ⟨q1, q3, q4⟩
theorem vv_le {n : Int} (h0 : 0 ≤ n) (h1 : n ≤ 562949953421311) : (vv n).size ≤ 7 := (Pjg h0 h1).2.1
theorem Pno : ∀ {l : List VerT}, (∀ v ∈ l, VerF v) → (verT l).size ≤ 258 * l.length
 | [], _ => Nat.le_refl _
 | v :: l, h => by
  have h1 := Pno fun x hx => h x (List.mem_cons_of_mem _ hx)
  obtain ⟨h2, _⟩ := h v (by simp)
  have h3 := vv_le (n := (v.1.size : Int)) (by omega) (by omega)
  simp only [verT, Zs, Pat, Zl, List.length_nil]; omega
theorem Pnm : ∀ {l : List Int}, (∀ a ∈ l, 0 ≤ a ∧ a ≤ 6) → (numT l).size ≤ 7 * l.length
 | [], _ => Nat.le_refl _
 | v :: l, h => by
  have h1 := Pnm fun x hx => h x (List.mem_cons_of_mem _ hx)
  have h2 := h v (by simp)
  have h3 := vv_le h2.1 (by omega)
  simp only [numT, Zs, Zl]; omega
theorem Pnn : ∀ {l : List SesT}, (∀ s ∈ l, SesF s) → (sesT l).size ≤ 88 * l.length
 | [], _ => Nat.le_refl _
 | s :: l, h => by
  have h1 := Pnn fun x hx => h x (List.mem_cons_of_mem _ hx)
  obtain ⟨h2, h3, h4⟩ := h s (by simp)
  have z1 := vv_le (n := s.1) (by omega) (by omega)
  have z2 := vv_le (n := s.2.1) (by omega) (by omega)
  have z3 := Poe h4
  have z4 := vv_le (n := ((ansT s.2.2).size : Int)) (by omega) (by omega)
  simp only [sesT, Zs, Zl]; omega
def Z0 : RegT := ([], [], [])
theorem Prp {k} (hk : Zk k) (s : Zb) (n : Nat) (hn : n ≤ 1000) (A : List Int) (S : List SesT) (tail : Zb) (ht : tail.size ≤ 100000) : ∀ (l acc : List VerT) (i kk : Nat), (∀ v ∈ l, VerF v) → i + l.length = n → acc.length ≤ i → l.length < kk →
  iter (X := (Zb × Bool × RegT × U10 × RegT) ⊕ (RegT × Bool)) (Pah.b0 k) kk (s, false, (n : Int), (i : Int), Z0, (verT l ++ tail, false), acc, A, S) = some (.inl (s, false, Z0, (tail, false), acc ++ l, A, S))
 | [], acc, i, kk, _, hi, _, hkk => by
  obtain ⟨kk, rfl⟩ := Z1 (n := kk)
  have e0 : verT [] ++ tail = tail := ByteArray.empty_append
  refine Pbn ?_
  unfold Pah.b0
  dsimp only
  simp only [List.length_nil] at hi
  rw [Zf (by omega), e0, List.append_nil]; rfl
 | v :: l, acc, i, kk, hv, hi, ha, hkk => by
  obtain ⟨kk, rfl⟩ := Z1 (n := kk)
  obtain ⟨v1, v2, v3, v4⟩ := hv v (by simp)
  simp only [Zl] at hi hkk
  have hvl : ∀ v ∈ l, VerF v := fun x hx => hv x (by simp [hx])
  have hz := Pno hvl
  have z1 := vv_le (n := (v.1.size : Int)) (by omega) (by omega)
  have e1 : verT (v :: l) ++ tail = strOfNums [IntKind.wrap .u8 v.2.2] ++ (vv v.1.size ++ (v.1 ++ (verT l ++ tail))) := by simp only [verT, ByteArray.append_assoc]
  have step : Pah.b0 k (s, false, (n : Int), (i : Int), Z0, (verT (v :: l) ++ tail, false), acc, A, S) = some (.inl (s, false, (n : Int), ((i + 1 : Nat) : Int), Z0, (verT l ++ tail, false), acc ++ [v], A, S)) := by
   unfold Pah.b0
   dsimp only
   rw [Zt (by omega), e1, Pbhm v.2.2 (by omega) (by omega) _ (by simp only [Zs]; omega)]
   simp only [Zy, Zo]
   rw [Pbfg hk v.1 _ (by simp only [Zs]; omega)]
   simp only [Zo]
   rw [impl_sha hk _ (by omega)]
   simp only [Zo]
   rw [Qrr (by unfold limOf; simp; omega), Zw (n := (i : Int) + 1), ← v2]
   rfl
  rw [Pbc step, Prp hk s n hn A S tail ht l (acc ++ [v]) (i + 1) kk hvl (by omega) (by simp; omega) (by omega), List.append_assoc]
  rfl
theorem Prl {k} (hk : Zk k) (s : Zb) (Vs : List VerT) (S : List SesT) (tail : Zb) (ht : tail.size ≤ 100000) : ∀ (l acc : List Int) (i kk : Nat), (∀ a ∈ l, 0 ≤ a ∧ a ≤ 6) → i + l.length = 3 → acc.length ≤ i → l.length < kk →
  iter (X := (Zb × Bool × RegT × U10 × RegT) ⊕ (RegT × Bool)) (Pah.b1 k) kk (s, false, (i : Int), Z0, (numT l ++ tail, false), Vs, acc, S) = some (.inl (s, false, Z0, (tail, false), Vs, acc ++ l, S))
 | [], acc, i, kk, _, hi, _, hkk => by
  obtain ⟨kk, rfl⟩ := Z1 (n := kk)
  have e0 : numT [] ++ tail = tail := ByteArray.empty_append
  refine Pbn ?_
  unfold Pah.b1
  dsimp only
  simp only [List.length_nil] at hi
  rw [Zf (by omega), e0, List.append_nil]; rfl
 | a :: l, acc, i, kk, hv, hi, ha, hkk => by
  obtain ⟨kk, rfl⟩ := Z1 (n := kk)
  have h1 := hv a (by simp)
  simp only [Zl] at hi hkk
  have hvl : ∀ v ∈ l, 0 ≤ v ∧ v ≤ 6 := fun x hx => hv x (by simp [hx])
  have hz := Pnm hvl
  have e1 : numT (a :: l) ++ tail = vv a ++ (numT l ++ tail) := by simp only [numT, ByteArray.append_assoc]
  have step : Pah.b1 k (s, false, (i : Int), Z0, (numT (a :: l) ++ tail, false), Vs, acc, S) = some (.inl (s, false, ((i + 1 : Nat) : Int), Z0, (numT l ++ tail, false), Vs, acc ++ [a], S)) := by
   unfold Pah.b1
   dsimp only
   rw [Zt (by omega), e1, Ppw hk h1.1 (by omega) _ (by simp only [Zs]; omega)]
   simp only [Zy, Zo]
   rw [Qrr (by unfold limOf; simp; omega), Zw (n := (i : Int) + 1)]
   rfl
  rw [Pbc step, Prl hk s Vs S tail ht l (acc ++ [a]) (i + 1) kk hvl (by omega) (by simp; omega) (by omega), List.append_assoc]
  rfl
theorem Prm {k} (hk : Zk k) (s : Zb) (n : Nat) (hn : n ≤ 1000) (Vs : List VerT) (A : List Int) : ∀ (l acc : List SesT) (i kk : Nat), (∀ v ∈ l, SesF v) → i + l.length = n → acc.length ≤ i → l.length < kk → l.length ≤ 1000 →
  iter (X := (Zb × Bool × RegT × U10 × RegT) ⊕ (RegT × Bool)) (Pah.b2 k) kk (s, false, (n : Int), (i : Int), Z0, (sesT l, false), Vs, A, acc) = some (.inl (s, false, Z0, (⟨#[]⟩, false), Vs, A, acc ++ l))
 | [], acc, i, kk, _, hi, _, hkk, _ => by
  obtain ⟨kk, rfl⟩ := Z1 (n := kk)
  refine Pbn ?_
  unfold Pah.b2
  dsimp only
  simp only [List.length_nil] at hi
  rw [Zf (by omega), List.append_nil]; rfl
 | v :: l, acc, i, kk, hv, hi, ha, hkk, hl => by
  obtain ⟨kk, rfl⟩ := Z1 (n := kk)
  obtain ⟨v1, v2, v3⟩ := hv v (by simp)
  simp only [Zl] at hi hkk hl
  have hvl : ∀ v ∈ l, SesF v := fun x hx => hv x (by simp [hx])
  have hz := Pnn hvl
  have z1 := vv_le (n := v.1) (by omega) (by omega)
  have z2 := vv_le (n := v.2.1) (by omega) (by omega)
  have z3 := Poe v3
  have z4 := vv_le (n := ((ansT v.2.2).size : Int)) (by omega) (by omega)
  have step : Pah.b2 k (s, false, (n : Int), (i : Int), Z0, (sesT (v :: l), false), Vs, A, acc) = some (.inl (s, false, (n : Int), ((i + 1 : Nat) : Int), Z0, (sesT l, false), Vs, A, acc ++ [v])) := by
   unfold Pah.b2
   dsimp only
   simp only [sesT]
   rw [Zt (by omega), Ppw hk (by omega) (by omega) _ (by simp only [Zs]; omega)]
   simp only [Zy, Zo]
   rw [Ppw hk (by omega) (by omega) _ (by simp only [Zs]; omega)]
   simp only [Zo]
   rw [Pbfg hk (ansT v.2.2) _ (by simp only [Zs]; omega)]
   simp only [Zo]
   rw [Prk hk v3]
   simp only [Zo]
   rw [Qrr (by unfold limOf; simp; omega), Zw (n := (i : Int) + 1)]
   rfl
  rw [Pbc step, Prm hk s n hn Vs A l (acc ++ [v]) (i + 1) kk hvl (by omega) (by simp; omega) (by omega) (by omega), List.append_assoc]
  rfl
theorem Pzn {r : RegT} (h : okR r = true) : regT r = vv r.1.length ++ (verT r.1 ++ (numT r.2.1 ++ (vv r.2.2.length ++ sesT r.2.2))) := by unfold regT; rw [if_pos h]
theorem Pxv {r : RegT} (hs : RegS r) (h : okR r = true) : 0 < (regT r).size ∧ (regT r).size ≤ 8000 := by
 obtain ⟨f1, f2, f3⟩ := Ptc hs h
 obtain ⟨l1, l2, l3⟩ := Prd h
 have a1 := Pno f1
 have a2 := Pnm f2
 have a3 := Pnn f3
 obtain ⟨a4, a4', _⟩ := Pjg (n := (r.1.length : Int)) (by omega) (by omega)
 have a5 := vv_le (n := (r.2.2.length : Int)) (by omega) (by omega)
 rw [Pzn h]
 simp only [Zs]; omega
theorem Pbed {k} (hk : Zk k) (n : Nat) (m : Int) (hn : n ≤ 1000) (hm : (n : Int) ≤ m) (t : Zb) (ht : t.size ≤ 1048000) : Pdf.f k (vv n ++ t, false) m = some ((n : Int), t, false) := by
 have := vv_le (n := (n : Int)) (by omega) (by omega)
 rw [Pzk hk _ _ (by rw [Zs]; omega), Pbeg hk (by omega) (by omega) t (by omega), if_neg (fun h => h.elim (fun h => by simp only at h; omega) fun h => by cases h)]
theorem Pxd {k} (hk : Zk k) (r : RegT) (hf : RegF r) (h : okR r = true) : Pah.f k (regT r) = some (r, true) := by
 obtain ⟨f1, f2, f3⟩ := Ptc hf.1 h
 obtain ⟨l1, l2, l3⟩ := Prd h
 have a1 := Pno f1
 have a2 := Pnm f2
 have a3 := Pnn f3
 have a5 := vv_le (n := (r.2.2.length : Int)) (by omega) (by omega)
 have hsz := Pxv hf.1 h
 unfold Pah.f
 have q1 : Pdf.f k (regT r, false) 6 = some ((r.1.length : Int), verT r.1 ++ (numT r.2.1 ++ (vv r.2.2.length ++ sesT r.2.2)), false) := by
  rw [Pzn h]
  exact Pbed hk _ _ (by omega) (by omega) _ (by simp only [Zs]; omega)
 rw [q1]
 simp only [Zo]
 have e1 := Prp hk (regT r) r.1.length (by omega) [] [] (numT r.2.1 ++ (vv r.2.2.length ++ sesT r.2.2)) (by simp only [Zs]; omega) r.1 [] 0 k f1 (by omega) (by simp) (by omega)
 rw [show ((0 : Nat) : Int) = 0 from rfl] at e1
 unfold Z0 at e1
 rw [e1]
 simp only [Zo, List.nil_append]
 unfold Pah.d0
 dsimp only
 have e2 := Prl hk (regT r) r.1 [] (vv r.2.2.length ++ sesT r.2.2) (by simp only [Zs]; omega) r.2.1 [] 0 k f2 (by omega) (by simp) (by omega)
 rw [show ((0 : Nat) : Int) = 0 from rfl] at e2
 unfold Z0 at e2
 rw [e2]
 simp only [Zo, List.nil_append]
 unfold Pah.d1
 dsimp only
 rw [Pbed hk _ _ (by omega) (by omega) _ (by omega)]
 simp only [Zo]
 have e3 := Prm hk (regT r) r.2.2.length (by omega) r.1 r.2.1 r.2.2 [] 0 k f3 (by omega) (by simp) (by omega) (by omega)
 rw [show ((0 : Nat) : Int) = 0 from rfl] at e3
 unfold Z0 at e3
 rw [e3]
 simp only [Zo, List.nil_append]
 unfold Pah.d2
 dsimp only
 have hne : regT r ≠ ⟨#[]⟩ := fun he => by rw [he] at hsz; exact absurd hsz.1 (by decide)
 rw [Zf hne, Pxe hk (r.1, r.2.1, r.2.2) hf]
 simp only [Zo, Zz, Prod.eta, decide_true, Zx]
theorem Pbhr (s : Zb) {a c : Nat} (h : a + c ≤ s.size) : (s.extract a s.size).extract 0 c = s.extract a (a + c) := by
 have hz : (s.extract a s.size).size = s.size - a := Pbm s (Nat.le_refl _)
 refine Pod (by rw [Pbm _ (by omega), Pbm _ h]; omega) fun i hi => ?_
 rw [Pbm _ (by omega)] at hi
 rw [Pdl _ (by omega) (by omega), Pdl _ (Nat.le_refl _) (by omega), Pdl _ h (by omega)]
 congr 1; omega
theorem Pny {k} (hk : Zk k) {n : Int} (h0 : 0 ≤ n) (h1 : n ≤ 562949953421311) (t : Zb) (ht : Zh t.size) (d : Nat) : numN k (d + 1) (vv n ++ t) = (numN k d t).map fun p => (n :: p.1, p.2) := by
 have h := Pbhh hk h0 h1 t ht
 obtain ⟨z1, _⟩ := Pjg h0 h1
 simp only [numN]
 rw [h, if_neg (by simp only; omega)]
 simp only [Zn]
 rw [Phr]
theorem Pwj {k} (hk : Zk k) (s : Zb) (hs : Zh s.size) (n : Nat) (hn : n ≤ 1000) (a : Nat) (ha : a ≤ s.size) {xs : List Int} {u : Zb} (h : numN k n (s.extract a s.size) = some (xs, u)) :
  ∃ a' : Nat, a ≤ a' ∧ a' ≤ s.size ∧ u = s.extract a' s.size ∧ Pbq.f k s (a : Int) (n : Int) = some (xs, (a' : Int)) := by
 have := Pwk hk s (by omega) n hn a ha
 rw [h] at this
 exact this.2
theorem Pbax {k} (hk : Zk k) (s : Zb) (hs : Zh s.size) (a : Nat) (ha : a ≤ s.size) {b t : Zb} (h : s.extract a s.size = vv b.size ++ (b ++ t)) :
  ∃ a' : Nat, a' ≤ s.size ∧ s.extract a' s.size = t ∧ Pfo.f k s (a : Int) = some (b, (a' : Int)) := by
 have hz := congrArg ByteArray.size h
 rw [Pbm _ (Nat.le_refl _)] at hz
 simp only [Zs] at hz
 have hn : numN k 1 (s.extract a s.size) = some ([(b.size : Int)], b ++ t) := by
  rw [h, Pny hk (by omega) (by omega) _ (by rw [Zs]; omega)]; rfl
 obtain ⟨a1, h1, h2, h3, h4⟩ := Pwj hk s hs 1 (by omega) a ha hn
 rw [show ((1 : Nat) : Int) = 1 from rfl] at h4
 have hz1 := congrArg ByteArray.size h3
 rw [Pbm _ (Nat.le_refl _), Zs] at hz1
 refine ⟨a1 + b.size, by omega, ?_, ?_⟩
 ·rw [← Pms s a1 h2 b.size (by omega), ← h3]
  exact Phr b t
 ·unfold Pfo.f
  rw [h4]
  simp only [Zo, Zl, List.length_nil]
  have i0 : inb? (0 + 1) 0 = some 0 := rfl
  rw [Zf (by omega), i0]
  simp only [Zz, Zo, List.getElem?_cons_zero]
  rw [Zw (n := (s.size : Int) - (a1 : Int)), Zf (by omega), Zw (n := (a1 : Int) + (b.size : Int)), Zc]
  simp only [Zz, Zo, Zn]
  rw [show ((a1 : Int) + (b.size : Int)).toNat = a1 + b.size by omega, ← Pbhr s (by omega), ← h3, Psb]
  simp only [Zj, Prod.mk.injEq, true_and]; omega
abbrev ParT := Zb × Bool × Int × RegT × RegT
theorem Prw {k} (hk : Zk k) (s : Zb) (hs : Zh s.size) (A : List Int) (S : List SesT) (tail : Zb) : ∀ (l acc : List VerT) (a kk : Nat), (∀ v ∈ l, VerF v) → a ≤ s.size → s.extract a s.size = verT l ++ tail → acc.length + l.length ≤ 1000 → l.length < kk →
  ∃ a' : Nat, a' ≤ s.size ∧ s.extract a' s.size = tail ∧ iter (X := ParT ⊕ (RegT × Bool)) (Pas.b0 k) kk (s, false, (a : Int), (l.length : Int), Z0, acc, A, S) = some (.inl (s, false, (a' : Int), Z0, acc ++ l, A, S))
 | [], acc, a, kk, _, ha, he, _, hkk => by
  obtain ⟨kk, rfl⟩ := Z1 (n := kk)
  have e0 : verT [] ++ tail = tail := ByteArray.empty_append
  refine ⟨a, ha, by rw [he, e0], Pbn ?_⟩
  unfold Pas.b0
  dsimp only
  rw [Zf (by simp), List.append_nil]; rfl
 | v :: l, acc, a, kk, hv, ha, he, hl, hkk => by
  obtain ⟨kk, rfl⟩ := Z1 (n := kk)
  obtain ⟨v1, v2, v3, v4⟩ := hv v (by simp)
  simp only [Zl] at hl hkk
  have e1 : verT (v :: l) ++ tail = strOfNums [IntKind.wrap .u8 v.2.2] ++ (vv v.1.size ++ (v.1 ++ (verT l ++ tail))) := by simp only [verT, ByteArray.append_assoc]
  rw [e1] at he
  have hz1 : (strOfNums [IntKind.wrap .u8 v.2.2]).size = 1 := rfl
  have hz := congrArg ByteArray.size he
  rw [Pbm _ (Nat.le_refl _), Zs, hz1] at hz
  have he2 : s.extract (a + 1) s.size = vv v.1.size ++ (v.1 ++ (verT l ++ tail)) := by
   rw [← Pms s a ha 1 (by omega), he]
   have := Phr (strOfNums [IntKind.wrap .u8 v.2.2]) (vv v.1.size ++ (v.1 ++ (verT l ++ tail)))
   rwa [hz1] at this
  have hb : Qmy s a = v.2.2 := by
   have h1 : Qmy (s.extract a s.size) 0 = Qmy s (a + 0) := Pdl s (Nat.le_refl _) (by omega)
   rw [he, Phd (by rw [hz1]; omega), Pfu (l := [IntKind.wrap .u8 v.2.2]) (i := 0) (by simp) (by simp only [List.getElem_cons_zero]; rw [Qrq (by omega) (by omega)]; omega) (by simp only [List.getElem_cons_zero]; rw [Qrq (by omega) (by omega)]; omega)] at h1
   simp only [List.getElem_cons_zero] at h1
   rw [Qrq (by omega) (by omega)] at h1
   rw [← Nat.add_zero a, ← h1]
  obtain ⟨a1, p1, p2, p3⟩ := Pbax hk s hs (a + 1) (by omega) he2
  have step : Pas.b0 k (s, false, (a : Int), ((v :: l).length : Int), Z0, acc, A, S) = some (.inl (s, false, (a1 : Int), (l.length : Int), Z0, acc ++ [v], A, S)) := by
   unfold Pas.b0
   dsimp only
   simp only [Zl]
   rw [Zt (by omega), Zf (by omega), Zw (n := (a : Int) + 1)]
   rw [show (a : Int) + 1 = ((a + 1 : Nat) : Int) from rfl, p3]
   simp only [Zy, Zz, Zo]
   rw [Zf (by omega), spec_sha hk _ (by omega), Zi]
   simp only [Zz, Zo, Zn]
   rw [hb, Zw (n := v.2.2), Qrr (by unfold limOf; simp; omega), Zw, ← v2]
   simp only [Zo, Zj, Sum.inl.injEq, Prod.mk.injEq, true_and, and_true]
   omega
  obtain ⟨a', q1, q2, q3⟩ := Prw hk s hs A S tail l (acc ++ [v]) a1 kk (fun x hx => hv x (by simp [hx])) p1 p2 (by simp; omega) (by omega)
  refine ⟨a', q1, q2, ?_⟩
  rw [Pbc step, q3, List.append_assoc]; rfl
theorem Pru {k} (hk : Zk k) (s : Zb) (hs : Zh s.size) (Vs : List VerT) (A : List Int) : ∀ (l acc : List SesT) (a kk : Nat), (∀ v ∈ l, SesF v) → a ≤ s.size → s.extract a s.size = sesT l → acc.length + l.length ≤ 1000 → l.length < kk →
  iter (X := ParT ⊕ (RegT × Bool)) (Pas.b1 k) kk (s, false, (a : Int), (l.length : Int), Z0, Vs, A, acc) = some (.inl (s, false, (s.size : Int), Z0, Vs, A, acc ++ l))
 | [], acc, a, kk, _, ha, he, _, hkk => by
  obtain ⟨kk, rfl⟩ := Z1 (n := kk)
  have hz := congrArg ByteArray.size he
  rw [Pbm _ (Nat.le_refl _)] at hz
  have h0 : (sesT []).size = 0 := rfl
  have ea : a = s.size := by omega
  refine Pbn ?_
  unfold Pas.b1
  dsimp only
  rw [Zf (by simp), List.append_nil, ea]; rfl
 | v :: l, acc, a, kk, hv, ha, he, hl, hkk => by
  obtain ⟨kk, rfl⟩ := Z1 (n := kk)
  obtain ⟨v1, v2, v3⟩ := hv v (by simp)
  simp only [Zl] at hl hkk
  have hz := congrArg ByteArray.size he
  rw [Pbm _ (Nat.le_refl _)] at hz
  simp only [sesT, Zs] at hz
  have hn : numN k 2 (s.extract a s.size) = some ([v.1, v.2.1], vv (ansT v.2.2).size ++ (ansT v.2.2 ++ sesT l)) := by
   rw [he]
   simp only [sesT]
   rw [Pny hk (by omega) (by omega) _ (by simp only [Zs]; omega), Pny hk (by omega) (by omega) _ (by simp only [Zs]; omega)]
   rfl
  obtain ⟨a1, p1, p2, p3, p4⟩ := Pwj hk s hs 2 (by omega) a ha hn
  rw [show ((2 : Nat) : Int) = 2 from rfl] at p4
  obtain ⟨a2, q1, q2, q3⟩ := Pbax hk s hs a1 p2 p3.symm
  have step : Pas.b1 k (s, false, (a : Int), ((v :: l).length : Int), Z0, Vs, A, acc) = some (.inl (s, false, (a2 : Int), (l.length : Int), Z0, Vs, A, acc ++ [v])) := by
   unfold Pas.b1
   dsimp only
   simp only [Zl]
   rw [Zt (by omega), p4]
   simp only [Zy, Zo]
   rw [Zf (by omega), q3]
   simp only [Zz, Zo]
   rw [Pyb hk v3]
   simp only [Zo]
   rw [Zf (by omega)]
   have i0 : inb? [v.1, v.2.1].length 0 = some 0 := rfl
   have i1 : inb? [v.1, v.2.1].length 1 = some 1 := rfl
   rw [i0, i1]
   simp only [Zz, Zx, Zo, List.getElem?_cons_zero, List.getElem?_cons_succ]
   rw [Qrr (by unfold limOf; simp; omega), Zw]
   simp only [Zo, Zj, Sum.inl.injEq, Prod.mk.injEq, true_and, and_true]
   omega
  rw [Pbc step, Pru hk s hs Vs A l (acc ++ [v]) a2 kk (fun x hx => hv x (by simp [hx])) q1 q2 (by simp; omega) (by omega), List.append_assoc]; rfl
theorem Pyc {k} (hk : Zk k) (r : RegT) (hf : RegF r) (h : okR r = true) : Pfh.f k (regT r) = some (r, true) := by
 obtain ⟨f1, f2, f3⟩ := Ptc hf.1 h
 obtain ⟨l1, l2, l3⟩ := Prd h
 have a1 := Pno f1
 have a2 := Pnm f2
 have a3 := Pnn f3
 have a5 := vv_le (n := (r.2.2.length : Int)) (by omega) (by omega)
 have hsz := Pxv hf.1 h
 have hrt := Pzn h
 unfold Pfh.f
 rw [Zf (by omega)]
 have hparse : Pas.f k (regT r) = some (r, true) := by
  have hshow := hrt
  generalize hs : regT r = s at hsz hshow
  unfold Pas.f
  have hN : Pfv.f k = some ([], [0, 0, 0], []) := rfl
  rw [hN]
  simp only [Zo]
  have hn : numN k 1 (s.extract 0 s.size) = some ([(r.1.length : Int)], verT r.1 ++ (numT r.2.1 ++ (vv r.2.2.length ++ sesT r.2.2))) := by
   rw [Pvn, hshow, Pny hk (by omega) (by omega) _ (by simp only [Zs]; omega)]; rfl
  obtain ⟨a1', p1, p2, p3, p4⟩ := Pwj hk s (by omega) 1 (by omega) 0 (by omega) hn
  rw [show ((1 : Nat) : Int) = 1 from rfl, show ((0 : Nat) : Int) = 0 from rfl] at p4
  rw [p4]
  simp only [Zo]
  have i0 : inb? [(r.1.length : Int)].length 0 = some 0 := rfl
  rw [Zf (by omega), i0]
  simp only [Zz, Zo, List.getElem?_cons_zero]
  rw [Zf (by omega)]
  simp only [Zz, Zo]
  obtain ⟨a2', q1, q2, q3⟩ := Prw hk s (by omega) [0, 0, 0] [] (numT r.2.1 ++ (vv r.2.2.length ++ sesT r.2.2)) r.1 [] a1' k f1 p2 p3.symm (by simp; omega) (by omega)
  unfold Z0 at q3
  rw [q3]
  simp only [Zo, List.nil_append]
  unfold Pas.d0
  dsimp only
  obtain ⟨b1, b2, b3, hb⟩ : ∃ b1 b2 b3, r.2.1 = [b1, b2, b3] := by
   match hr : r.2.1, l2 with
   | [b1, b2, b3], _ => exact ⟨b1, b2, b3, rfl⟩
  have g1 := f2 b1 (by rw [hb]; simp)
  have g2 := f2 b2 (by rw [hb]; simp)
  have g3 := f2 b3 (by rw [hb]; simp)
  have z1 := vv_le g1.1 (by omega)
  have z2 := vv_le g2.1 (by omega)
  have z3 := vv_le g3.1 (by omega)
  have hn4 : numN k 4 (s.extract a2' s.size) = some ([b1, b2, b3, (r.2.2.length : Int)], sesT r.2.2) := by
   rw [q2, hb]
   have e0 : vv b3 ++ numT [] = vv b3 := Ppj _
   simp only [numT, ByteArray.append_assoc]
   have e1 : (⟨#[]⟩ : Zb) ++ (vv r.2.2.length ++ sesT r.2.2) = vv r.2.2.length ++ sesT r.2.2 := ByteArray.empty_append
   rw [e1]
   rw [Pny hk g1.1 (by omega) _ (by simp only [Zs]; omega), Pny hk g2.1 (by omega) _ (by simp only [Zs]; omega), Pny hk g3.1 (by omega) _ (by simp only [Zs]; omega), Pny hk (by omega) (by omega) _ (by omega)]
   rfl
  obtain ⟨a3', t1, t2, t3, t4⟩ := Pwj hk s (by omega) 4 (by omega) a2' q1 hn4
  rw [show ((4 : Nat) : Int) = 4 from rfl] at t4
  rw [t4]
  simp only [Zo]
  have i3 : inb? [b1, b2, b3, (r.2.2.length : Int)].length 3 = some 3 := rfl
  have c3 : cut? [b1, b2, b3, (r.2.2.length : Int)].length 0 3 = some (0, 3) := rfl
  rw [Zf (by omega), i3, c3]
  simp only [Zz, Zo, List.getElem?_cons_zero, List.getElem?_cons_succ]
  rw [Zf (by omega), Qrr (by unfold limOf; simp)]
  simp only [Zz, Zo]
  have e3 := Pru hk s (by omega) r.1 [b1, b2, b3] r.2.2 [] a3' k f3 t2 t3.symm (by simp; omega) (by omega)
  unfold Z0 at e3
  have e3' : iter (X := ParT ⊕ (RegT × Bool)) (Pas.b1 k) k (s, false, (a3' : Int), (r.2.2.length : Int), ([], [], []), r.1, [] ++ List.drop 0 (List.take 3 [b1, b2, b3, (r.2.2.length : Int)]), []) = some (.inl (s, false, (s.size : Int), ([], [], []), r.1, [b1, b2, b3], r.2.2)) := e3
  rw [e3']
  simp only [Zo]
  unfold Pas.d1
  dsimp only
  rw [Zt rfl, ← hb]
 rw [hparse]
 simp only [Zz, Zo, Zx]
 rw [Pyd hk r hf]
 simp only [Zo, decide_true, Zx, Zz]
theorem Pph {k} (hk : Zk k) (t : Zb) (ht : Zh t.size) : 0 ≤ (rdv k t).1 ∧ 0 ≤ (rdv k t).2 ∧ (rdv k t).2 ≤ t.size := by
 rcases (Pjb hk t (by omega)).2.2 with e | ⟨h1, _, h2, _, h3, _⟩
 ·rw [e]; simp
 ·exact ⟨h1, by omega, h3⟩
theorem Pbau {k} (hk : Zk k) : ∀ (d : Nat) (t : Zb) (p : List Int × Zb), Zh t.size → numN k d t = some p → ∀ x ∈ p.1, 0 ≤ x
 | 0, t, p, _, h => by simp only [numN, Zj] at h; subst h; simp
 | d + 1, t, p, ht, h => by
  unfold numN at h
  split at h
  ·cases h
  ·obtain ⟨q, hq, rfl⟩ := Option.map_eq_some_iff.1 h
   have hv := Pph hk t ht
   have := Pbau hk d _ q (by rw [ByteArray.size_extract]; omega) hq
   intro x hx
   rcases List.mem_cons.1 hx with rfl | hx
   ·exact hv.1
   ·exact this x hx
theorem Pqj {k} (hk : Zk k) (s : Zb) (hs : Zh s.size) (n : Nat) (hn : n ≤ 1000) (a : Nat) (ha : a ≤ s.size) :
  ∃ l c, Pbq.f k s (a : Int) (n : Int) = some (l, c) ∧ (c = -1 ∨ (l.length = n ∧ (∀ x ∈ l, 0 ≤ x) ∧ ∃ a' : Nat, c = (a' : Int) ∧ a' ≤ s.size)) := by
 have := Pwk hk s (by omega) n hn a ha
 cases hm : numN k n (s.extract a s.size) with
 | none => rw [hm] at this; obtain ⟨l', h⟩ := this; exact ⟨l', -1, h, .inl rfl⟩
 | some p =>
  rw [hm] at this
  obtain ⟨h1, a', h2, h3, h4, h5⟩ := this
  exact ⟨p.1, a', h5, .inr ⟨h1, Pbau hk n _ p (by rw [Pbm _ (Nat.le_refl _)]; omega) hm, a', rfl, h3⟩⟩
theorem Pxq {k} (hk : Zk k) (s : Zb) (hs : Zh s.size) (a : Nat) (ha : a ≤ s.size) :
  ∃ b c, Pfo.f k s (a : Int) = some (b, c) ∧ b.size ≤ s.size ∧ (c = -1 ∨ ∃ a' : Nat, c = (a' : Int) ∧ a' ≤ s.size) := by
 obtain ⟨l, c, h1, h2⟩ := Pqj hk s hs 1 (by omega) a ha
 rw [show ((1 : Nat) : Int) = 1 from rfl] at h1
 unfold Pfo.f
 rw [h1]
 simp only [Zo]
 rcases h2 with rfl | ⟨h3, h4, a', rfl, h5⟩
 ·exact ⟨⟨#[]⟩, -1, rfl, by show (0 : Nat) ≤ _; omega, .inl rfl⟩
 ·obtain ⟨x, rfl⟩ : ∃ x, l = [x] := by
   match l, h3 with
   | [x], _ => exact ⟨x, rfl⟩
  have hx := h4 x (by simp)
  have i0 : inb? [x].length 0 = some 0 := rfl
  rw [Zf (by omega), i0]
  simp only [Zz, Zo, List.getElem?_cons_zero]
  rw [Zw (n := (s.size : Int) - (a' : Int))]
  by_cases hc : (s.size : Int) - (a' : Int) < x
  ·rw [Zt hc]; exact ⟨⟨#[]⟩, -1, rfl, by show (0 : Nat) ≤ _; omega, .inl rfl⟩
  ·rw [Zf hc, Zw (n := (a' : Int) + x), Zc]
   simp only [Zz, Zo]
   exact ⟨_, _, rfl, by rw [ByteArray.size_extract]; omega, .inr ⟨((a' : Int) + x).toNat, by omega, by omega⟩⟩
theorem Pbcu {k} (hk : Zk k) (t : Zb) (ht : Zh t.size) : ∃ a b, Pew.f k t = some (a, b) ∧ Pes.f k t = some (a, b) ∧ Zh a.2.2.2.1.size := by
 obtain ⟨r, h1, h2⟩ := Poa hk t ht
 refine ⟨r.1, r.2, h1, h2, ?_⟩
 unfold Pew.f at h1
 obtain ⟨l, c, h3, h4⟩ := Pqj hk t ht 5 (by omega) 0 (by omega)
 rw [show ((5 : Nat) : Int) = 5 from rfl, show ((0 : Nat) : Int) = 0 from rfl] at h3
 rw [h3] at h1
 simp only [Zo] at h1
 rcases h4 with rfl | ⟨h5, h6, a', rfl, h7⟩
 ·rw [Zt (by omega)] at h1
  cases h1; show (0 : Nat) ≤ _; omega
 ·obtain ⟨x1, x2, x3, x4, x5, rfl⟩ := len5 h5
  have i0 : inb? [x1, x2, x3, x4, x5].length 0 = some 0 := rfl
  have i1 : inb? [x1, x2, x3, x4, x5].length 1 = some 1 := rfl
  have i2 : inb? [x1, x2, x3, x4, x5].length 2 = some 2 := rfl
  have i3 : inb? [x1, x2, x3, x4, x5].length 3 = some 3 := rfl
  have i4 : inb? [x1, x2, x3, x4, x5].length 4 = some 4 := rfl
  rw [Zf (by omega), i0, i1, i2, i3, i4, Zc] at h1
  simp only [Zz, Zo, List.getElem?_cons_zero, List.getElem?_cons_succ] at h1
  have hz : (t.extract ((a' : Int)).toNat ((t.size : Int)).toNat).size ≤ 1048576 := by rw [ByteArray.size_extract]; omega
  rw [Poc hk _ hz] at h1
  simp only [Zo] at h1
  generalize ansT (x1, x2, x3, t.extract ((a' : Int)).toNat ((t.size : Int)).toNat, x4, x5) = q at h1
  cases hd : decide (q = t) with
  | true => rw [hd] at h1; cases h1; exact hz
  | false => rw [hd] at h1; cases h1; show (0 : Nat) ≤ _; omega
theorem Pvv {k} (hk : Zk k) (t : Zb) (b : Bool) (ht : Zh t.size) : ∃ n t' b', Paz.f k (t, b) = some (n, t', b') ∧ 0 ≤ n ∧ t'.size ≤ t.size := by
 refine ⟨(numP k t b).1, (numP k t b).2.1, (numP k t b).2.2, Pnz hk t b (by omega), ?_, Pmw k t b⟩
 unfold numP
 split
 ·simp
 ·exact (Pph hk t ht).1
theorem Pbas {k} (hk : Zk k) (t : Zb) (b : Bool) (ht : Zh t.size) (m : Nat) : ∃ (n : Nat) (t' : Zb) (b' : Bool), Pdf.f k (t, b) (m : Int) = some ((n : Int), t', b') ∧ n ≤ m ∧ t'.size ≤ t.size := by
 have h0 : 0 ≤ (numP k t b).1 := by
  unfold numP
  split
  ·simp
  ·exact (Pph hk t ht).1
 rw [Pzk hk t b ht]
 have hz := Pmw k t b
 by_cases h : (m : Int) < (numP k t b).1 ∨ (numP k t b).2.2 = true
 ·rw [if_pos h]; exact ⟨0, _, _, rfl, by omega, hz⟩
 ·rw [if_neg h]
  exact ⟨(numP k t b).1.toNat, (numP k t b).2.1, (numP k t b).2.2, by rw [Int.toNat_of_nonneg h0], by omega, hz⟩
theorem Pbbi {k} (hk : Zk k) (t : Zb) (b : Bool) (ht : Zh t.size) : ∃ x t' b', Pff.f k (t, b) = some (x, t', b') ∧ x.size ≤ t.size ∧ t'.size ≤ t.size := by
 obtain ⟨n, t1, b1, h1, h2, h3⟩ := Pvv hk t b ht
 unfold Pff.f
 rw [h1]
 simp only [Zo]
 rw [Pbdb k t1 b1 n h2]
 simp only [Zo]
 split
 ·exact ⟨_, _, _, rfl, by show (0 : Nat) ≤ _; omega, h3⟩
 ·split
  ·exact ⟨_, _, _, rfl, by show (0 : Nat) ≤ _; omega, h3⟩
  ·exact ⟨_, _, _, rfl, by rw [ByteArray.size_extract]; omega, by rw [ByteArray.size_extract]; omega⟩
theorem Pbfr {k : Nat} (t : Zb) (b : Bool) (ht : Zh t.size) : ∃ x t' b', Pdy.f k (t, b) = some (x, t', b') ∧ t'.size ≤ t.size := by
 rw [Pbcx t b ht]
 split
 ·exact ⟨_, _, _, rfl, Nat.le_refl _⟩
 ·exact ⟨_, _, _, rfl, by rw [ByteArray.size_extract]; omega⟩
theorem Pzh {k} (hk : Zk k) (s : Zb) (n : Nat) (hn : n ≤ 1000) (A : List Int) (S : List SesT) (t : Zb) (b : Bool) (ht : Zh t.size) :
  ∃ t' b' acc, iter (X := (Zb × Bool × RegT × U10 × RegT) ⊕ (RegT × Bool)) (Pah.b0 k) k (s, false, (n : Int), 0, Z0, (t, b), [], A, S) = some (.inl (s, false, Z0, (t', b'), acc, A, S)) ∧ t'.size ≤ 1048576 ∧ acc.length ≤ 1000 ∧ ∀ v ∈ acc, Zh v.1.size := by
 obtain ⟨x, hx, t', b', acc, rfl, h1, h2, h3⟩ := Qor (B := Pah.b0 k) (X := (Zb × Bool × RegT × U10 × RegT) ⊕ (RegT × Bool))
  (fun st => ∃ (i : Nat) (t : Zb) (b : Bool) (acc : List VerT), st = (s, false, (n : Int), (i : Int), Z0, (t, b), acc, A, S) ∧ i ≤ n ∧ Zh t.size ∧ acc.length ≤ i ∧ ∀ v ∈ acc, Zh v.1.size) (fun st => n - st.2.2.2.1.toNat)
  (fun x => ∃ t' b' acc, x = .inl (s, false, Z0, (t', b'), acc, A, S) ∧ t'.size ≤ 1048576 ∧ acc.length ≤ 1000 ∧ ∀ v ∈ acc, Zh v.1.size) (fun st hst => by
   obtain ⟨i, t, b, acc, rfl, hi, ht, ha, hv⟩ := hst
   unfold Pah.b0
   dsimp only
   by_cases hlt : i < n
   ·rw [Zt (by omega)]
    obtain ⟨x1, t1, b1, e1, z1⟩ := Pbfr (k := k) t b ht
    obtain ⟨x2, t2, b2, e2, z2, z3⟩ := Pbbi hk t1 b1 (by omega)
    rw [e1]
    simp only [Zy, Zo]
    rw [e2]
    simp only [Zo]
    rw [impl_sha hk _ (by omega)]
    simp only [Zo]
    rw [Qrr (by unfold limOf; simp; omega), Zw (n := (i : Int) + 1)]
    refine .inl ⟨_, rfl, ⟨i + 1, t2, b2, _, rfl, by omega, by omega, by simp; omega, fun v hm => ?_⟩, ?_⟩
    ·rcases List.mem_append.1 hm with hm | hm
     ·exact hv v hm
     ·rw [List.mem_singleton.1 hm]; show x2.size ≤ _; omega
    ·show n - ((i : Int) + 1).toNat < n - ((i : Int)).toNat; omega
   ·rw [Zf (by omega)]
    exact .inr ⟨_, rfl, t, b, acc, rfl, ht, by omega, hv⟩) k (s, false, (n : Int), 0, Z0, (t, b), [], A, S) ⟨0, t, b, [], rfl, by omega, ht, by simp, by simp⟩ (by show n - (0 : Int).toNat < k; omega)
 exact ⟨t', b', acc, hx, h1, h2, h3⟩
theorem Pzd {k} (hk : Zk k) (s : Zb) (Vs : List VerT) (S : List SesT) (t : Zb) (b : Bool) (ht : Zh t.size) :
  ∃ t' b' acc, iter (X := (Zb × Bool × RegT × U10 × RegT) ⊕ (RegT × Bool)) (Pah.b1 k) k (s, false, 0, Z0, (t, b), Vs, [], S) = some (.inl (s, false, Z0, (t', b'), Vs, acc, S)) ∧ t'.size ≤ 1048576 ∧ acc.length ≤ 1000 := by
 obtain ⟨x, hx, t', b', acc, rfl, h1, h2⟩ := Qor (B := Pah.b1 k) (X := (Zb × Bool × RegT × U10 × RegT) ⊕ (RegT × Bool))
  (fun st => ∃ (i : Nat) (t : Zb) (b : Bool) (acc : List Int), st = (s, false, (i : Int), Z0, (t, b), Vs, acc, S) ∧ i ≤ 3 ∧ Zh t.size ∧ acc.length ≤ i) (fun st => 3 - st.2.2.1.toNat)
  (fun x => ∃ t' b' acc, x = .inl (s, false, Z0, (t', b'), Vs, acc, S) ∧ t'.size ≤ 1048576 ∧ acc.length ≤ 1000) (fun st hst => by
   obtain ⟨i, t, b, acc, rfl, hi, ht, ha⟩ := hst
   unfold Pah.b1
   dsimp only
   by_cases hlt : i < 3
   ·rw [Zt (by omega)]
    obtain ⟨x1, t1, b1, e1, _, z1⟩ := Pvv hk t b ht
    rw [e1]
    simp only [Zy, Zo]
    rw [Qrr (by unfold limOf; simp; omega), Zw (n := (i : Int) + 1)]
    refine .inl ⟨_, rfl, ⟨i + 1, t1, b1, _, rfl, by omega, by omega, by simp; omega⟩, ?_⟩
    show 3 - ((i : Int) + 1).toNat < 3 - ((i : Int)).toNat; omega
   ·rw [Zf (by omega)]
    exact .inr ⟨_, rfl, t, b, acc, rfl, ht, by omega⟩) k (s, false, 0, Z0, (t, b), Vs, [], S) ⟨0, t, b, [], rfl, by omega, ht, by simp⟩ (by show 3 - (0 : Int).toNat < k; omega)
 exact ⟨t', b', acc, hx, h1, h2⟩
theorem Pzg {k} (hk : Zk k) (s : Zb) (n : Nat) (hn : n ≤ 1000) (Vs : List VerT) (A : List Int) (t : Zb) (b : Bool) (ht : Zh t.size) :
  ∃ t' b' acc, iter (X := (Zb × Bool × RegT × U10 × RegT) ⊕ (RegT × Bool)) (Pah.b2 k) k (s, false, (n : Int), 0, Z0, (t, b), Vs, A, []) = some (.inl (s, false, Z0, (t', b'), Vs, A, acc)) ∧ acc.length ≤ 1000 ∧ ∀ v ∈ acc, Zh v.2.2.2.2.2.1.size := by
 obtain ⟨x, hx, t', b', acc, rfl, h2, h3⟩ := Qor (B := Pah.b2 k) (X := (Zb × Bool × RegT × U10 × RegT) ⊕ (RegT × Bool))
  (fun st => ∃ (i : Nat) (t : Zb) (b : Bool) (acc : List SesT), st = (s, false, (n : Int), (i : Int), Z0, (t, b), Vs, A, acc) ∧ i ≤ n ∧ Zh t.size ∧ acc.length ≤ i ∧ ∀ v ∈ acc, Zh v.2.2.2.2.2.1.size) (fun st => n - st.2.2.2.1.toNat)
  (fun x => ∃ t' b' acc, x = .inl (s, false, Z0, (t', b'), Vs, A, acc) ∧ acc.length ≤ 1000 ∧ ∀ v ∈ acc, Zh v.2.2.2.2.2.1.size) (fun st hst => by
   obtain ⟨i, t, b, acc, rfl, hi, ht, ha, hv⟩ := hst
   unfold Pah.b2
   dsimp only
   by_cases hlt : i < n
   ·rw [Zt (by omega)]
    obtain ⟨x1, t1, b1, e1, _, z1⟩ := Pvv hk t b ht
    obtain ⟨x2, t2, b2, e2, _, z2⟩ := Pvv hk t1 b1 (by omega)
    obtain ⟨x3, t3, b3, e3, z3, z4⟩ := Pbbi hk t2 b2 (by omega)
    obtain ⟨a, ok, _, e4, z5⟩ := Pbcu hk x3 (by omega)
    rw [e1]
    simp only [Zy, Zo]
    rw [e2]
    simp only [Zo]
    rw [e3]
    simp only [Zo]
    rw [e4]
    simp only [Zo]
    rw [Qrr (by unfold limOf; simp; omega), Zw (n := (i : Int) + 1)]
    refine .inl ⟨_, rfl, ⟨i + 1, t3, b3, _, rfl, by omega, by omega, by simp; omega, fun v hm => ?_⟩, ?_⟩
    ·rcases List.mem_append.1 hm with hm | hm
     ·exact hv v hm
     ·rw [List.mem_singleton.1 hm]; exact z5
    ·show n - ((i : Int) + 1).toNat < n - ((i : Int)).toNat; omega
   ·rw [Zf (by omega)]
    exact .inr ⟨_, rfl, t, b, acc, rfl, by omega, hv⟩) k (s, false, (n : Int), 0, Z0, (t, b), Vs, A, []) ⟨0, t, b, [], rfl, by omega, ht, by simp, by simp⟩ (by show n - (0 : Int).toNat < k; omega)
 exact ⟨t', b', acc, hx, h2, h3⟩
def RegR (s : Zb) (r : RegT × Bool) : Prop := (r.2 = true → RegF r.1 ∧ okR r.1 = true ∧ regT r.1 = s) ∧ (r.2 = false → r = (Z0, false))
theorem Pbhi {r : RegT} {s : Zb} (h : regT r = s) (hs : s ≠ ⟨#[]⟩) : okR r = true := by
 cases ho : okR r with
 | true => rfl
 | false => exact absurd (by rw [← h]; unfold regT; rw [ho]; rfl) hs
theorem Pze {k} (hk : Zk k) (s : Zb) (hs : Zh s.size) : ∃ r, Pah.f k s = some r ∧ RegR s r := by
 unfold Pah.f
 obtain ⟨n, t1, b1, e1, hn, z1⟩ := Pbas hk s false hs 6
 rw [show ((6 : Nat) : Int) = 6 from rfl] at e1
 rw [e1]
 simp only [Zo]
 obtain ⟨t2, b2, vs, e2, z2, hv1, hv2⟩ := Pzh hk s n (by omega) [] [] t1 b1 (by omega)
 unfold Z0 at e2
 rw [e2]
 simp only [Zo]
 unfold Pah.d0
 dsimp only
 obtain ⟨t3, b3, ac, e3, z3, ha⟩ := Pzd hk s vs [] t2 b2 z2
 unfold Z0 at e3
 rw [e3]
 simp only [Zo]
 unfold Pah.d1
 dsimp only
 obtain ⟨m, t4, b4, e4, hm, z4⟩ := Pbas hk t3 b3 z3 6
 rw [show ((6 : Nat) : Int) = 6 from rfl] at e4
 rw [e4]
 simp only [Zo]
 obtain ⟨t5, b5, ss, e5, hs1, hs2⟩ := Pzg hk s m (by omega) vs ac t4 b4 (by omega)
 unfold Z0 at e5
 rw [e5]
 simp only [Zo]
 unfold Pah.d2
 dsimp only
 cases b5 with
 | true => exact ⟨_, rfl, fun h => (by cases h), fun _ => rfl⟩
 | false =>
  simp only [Zz]
  by_cases h0 : s = ⟨#[]⟩
  ·rw [Zt h0]; exact ⟨_, rfl, fun h => (by cases h), fun _ => rfl⟩
  rw [Zf h0]
  have hf : RegF (vs, ac, ss) := ⟨hv2, by show vs.length ≤ _; omega, by show ac.length ≤ _; omega, by show ss.length ≤ _; omega, hs2⟩
  rw [Pxe hk _ hf]
  simp only [Zz, Zo]
  by_cases hc : regT (vs, ac, ss) = s
  ·rw [Zt hc]; exact ⟨_, rfl, fun _ => ⟨hf, Pbhi hc h0, hc⟩, fun h => by cases h⟩
  ·rw [Zf hc]; exact ⟨_, rfl, fun h => (by cases h), fun _ => rfl⟩
theorem Pzv {k} (hk : Zk k) (s : Zb) (hs : Zh s.size) (A : List Int) (S : List SesT) (a n : Nat) (ha : a ≤ s.size) (hn : n ≤ 1000) :
  ∃ x, iter (X := ParT ⊕ (RegT × Bool)) (Pas.b0 k) k (s, false, (a : Int), (n : Int), Z0, [], A, S) = some x ∧ ((∃ q, x = .inr (q, false)) ∨ ∃ (a' : Nat) (acc : List VerT), x = .inl (s, false, (a' : Int), Z0, acc, A, S) ∧ a' ≤ s.size ∧ acc.length ≤ 1000 ∧ ∀ v ∈ acc, Zh v.1.size) := by
 refine Qor (B := Pas.b0 k) (X := ParT ⊕ (RegT × Bool))
  (fun st => ∃ (i a : Nat) (acc : List VerT), st = (s, false, (a : Int), (i : Int), Z0, acc, A, S) ∧ i ≤ n ∧ a ≤ s.size ∧ acc.length + i ≤ n ∧ ∀ v ∈ acc, Zh v.1.size) (fun st => st.2.2.2.1.toNat) _ (fun st hst => ?_) k _ ⟨n, a, [], rfl, by omega, ha, by simp, by simp⟩ (by show ((n : Int)).toNat < k; omega)
 obtain ⟨i, a, acc, rfl, hi, ha, hac, hv⟩ := hst
 unfold Pas.b0
 dsimp only
 by_cases h0 : 0 < i
 ·rw [Zt (by omega)]
  by_cases hsz : s.size ≤ a
  ·rw [Zt (by omega)]; exact .inr ⟨_, rfl, .inl ⟨_, rfl⟩⟩
  rw [Zf (by omega), Zw (n := (a : Int) + 1)]
  obtain ⟨b, c, e1, z1, hc⟩ := Pxq hk s hs (a + 1) (by omega)
  rw [show (a : Int) + 1 = ((a + 1 : Nat) : Int) from rfl, e1]
  simp only [Zy, Zz, Zo]
  rcases hc with rfl | ⟨a', rfl, ha'⟩
  ·exact .inr ⟨_, rfl, .inl ⟨_, rfl⟩⟩
  rw [Zf (by omega), spec_sha hk _ (by omega), Zi]
  simp only [Zz, Zo]
  rw [Qrr (by unfold limOf; simp; omega), Zw (n := (i : Int) - 1)]
  refine .inl ⟨_, rfl, ⟨i - 1, a', _, by rw [show ((i - 1 : Nat) : Int) = (i : Int) - 1 by omega], by omega, ha', by simp; omega, fun v hm => ?_⟩, ?_⟩
  ·rcases List.mem_append.1 hm with hm | hm
   ·exact hv v hm
   ·rw [List.mem_singleton.1 hm]; show b.size ≤ _; omega
  ·show ((i : Int) - 1).toNat < ((i : Int)).toNat; omega
 ·rw [Zf (by omega)]
  exact .inr ⟨_, rfl, .inr ⟨a, acc, rfl, ha, by omega, hv⟩⟩
theorem Pzu {k} (hk : Zk k) (s : Zb) (hs : Zh s.size) (Vs : List VerT) (A : List Int) (a n : Nat) (ha : a ≤ s.size) (hn : n ≤ 1000) :
  ∃ x, iter (X := ParT ⊕ (RegT × Bool)) (Pas.b1 k) k (s, false, (a : Int), (n : Int), Z0, Vs, A, []) = some x ∧ ((∃ q, x = .inr (q, false)) ∨ ∃ (a' : Nat) (acc : List SesT), x = .inl (s, false, (a' : Int), Z0, Vs, A, acc) ∧ acc.length ≤ 1000 ∧ ∀ v ∈ acc, Zh v.2.2.2.2.2.1.size) := by
 refine Qor (B := Pas.b1 k) (X := ParT ⊕ (RegT × Bool))
  (fun st => ∃ (i a : Nat) (acc : List SesT), st = (s, false, (a : Int), (i : Int), Z0, Vs, A, acc) ∧ i ≤ n ∧ a ≤ s.size ∧ acc.length + i ≤ n ∧ ∀ v ∈ acc, Zh v.2.2.2.2.2.1.size) (fun st => st.2.2.2.1.toNat) _ (fun st hst => ?_) k _ ⟨n, a, [], rfl, by omega, ha, by simp, by simp⟩ (by show ((n : Int)).toNat < k; omega)
 obtain ⟨i, a, acc, rfl, hi, ha, hac, hv⟩ := hst
 unfold Pas.b1
 dsimp only
 by_cases h0 : 0 < i
 ·rw [Zt (by omega)]
  obtain ⟨l, c, e1, h2⟩ := Pqj hk s hs 2 (by omega) a ha
  rw [show ((2 : Nat) : Int) = 2 from rfl] at e1
  rw [e1]
  simp only [Zy, Zo]
  rcases h2 with rfl | ⟨h3, _, a1, rfl, h5⟩
  ·exact .inr ⟨_, rfl, .inl ⟨_, rfl⟩⟩
  obtain ⟨x1, x2, rfl⟩ := len2 h3
  rw [Zf (by omega)]
  obtain ⟨b, c, e2, z1, hc⟩ := Pxq hk s hs a1 h5
  obtain ⟨an, ok, e3, _, z3⟩ := Pbcu hk b (by omega)
  rw [e2]
  simp only [Zz, Zo]
  rw [e3]
  simp only [Zo]
  rcases hc with rfl | ⟨a', rfl, ha'⟩
  ·exact .inr ⟨_, rfl, .inl ⟨_, rfl⟩⟩
  rw [Zf (by omega)]
  cases ok with
  | false => exact .inr ⟨_, rfl, .inl ⟨_, rfl⟩⟩
  | true =>
   have i0 : inb? [x1, x2].length 0 = some 0 := rfl
   have i1 : inb? [x1, x2].length 1 = some 1 := rfl
   rw [i0, i1]
   simp only [Zz, Zx, Zo, List.getElem?_cons_zero, List.getElem?_cons_succ]
   rw [Qrr (by unfold limOf; simp; omega), Zw (n := (i : Int) - 1)]
   refine .inl ⟨_, rfl, ⟨i - 1, a', _, by rw [show ((i - 1 : Nat) : Int) = (i : Int) - 1 by omega], by omega, ha', by simp; omega, fun v hm => ?_⟩, ?_⟩
   ·rcases List.mem_append.1 hm with hm | hm
    ·exact hv v hm
    ·rw [List.mem_singleton.1 hm]; exact z3
   ·show ((i : Int) - 1).toNat < ((i : Int)).toNat; omega
 ·rw [Zf (by omega)]
  exact .inr ⟨_, rfl, .inr ⟨a, acc, rfl, by omega, hv⟩⟩
theorem Pzr {k} (hk : Zk k) (s : Zb) (hs : Zh s.size) : ∃ q b, Pas.f k s = some (q, b) ∧ (b = true → RegF q) := by
 unfold Pas.f
 have hN : Pfv.f k = some ([], [0, 0, 0], []) := rfl
 rw [hN]
 simp only [Zo]
 obtain ⟨l, c, e1, h2⟩ := Pqj hk s hs 1 (by omega) 0 (by omega)
 rw [show ((1 : Nat) : Int) = 1 from rfl, show ((0 : Nat) : Int) = 0 from rfl] at e1
 rw [e1]
 simp only [Zo]
 rcases h2 with rfl | ⟨h3, h4, a1, rfl, h5⟩
 ·exact ⟨_, _, rfl, fun h => by cases h⟩
 obtain ⟨x, rfl⟩ : ∃ x, l = [x] := by
  match l, h3 with
  | [x], _ => exact ⟨x, rfl⟩
 have hx := h4 x (by simp)
 have i0 : inb? [x].length 0 = some 0 := rfl
 rw [Zf (by omega), i0]
 simp only [Zz, Zo, List.getElem?_cons_zero]
 by_cases h6 : 6 < x
 ·rw [Zt h6]; exact ⟨_, _, rfl, fun h => by cases h⟩
 rw [Zf h6]
 simp only [Zz]
 obtain ⟨y, ey, hy⟩ := Pzv hk s hs [0, 0, 0] [] a1 x.toNat h5 (by omega)
 rw [Int.toNat_of_nonneg hx] at ey
 unfold Z0 at ey
 rw [ey]
 simp only [Zo]
 rcases hy with ⟨q, rfl⟩ | ⟨a2, vs, rfl, z2, hv1, hv2⟩
 ·exact ⟨_, _, rfl, fun h => by cases h⟩
 simp only
 unfold Pas.d0
 dsimp only
 obtain ⟨l4, c4, e4, h24⟩ := Pqj hk s hs 4 (by omega) a2 z2
 rw [show ((4 : Nat) : Int) = 4 from rfl] at e4
 rw [e4]
 simp only [Zo]
 rcases h24 with rfl | ⟨h34, h44, a3, rfl, h54⟩
 ·exact ⟨_, _, rfl, fun h => by cases h⟩
 obtain ⟨b1, b2, b3, b4, rfl⟩ : ∃ b1 b2 b3 b4, l4 = [b1, b2, b3, b4] := by
  match l4, h34 with
  | [b1, b2, b3, b4], _ => exact ⟨b1, b2, b3, b4, rfl⟩
 have hb4 := h44 b4 (by simp)
 have i3 : inb? [b1, b2, b3, b4].length 3 = some 3 := rfl
 have c3 : cut? [b1, b2, b3, b4].length 0 3 = some (0, 3) := rfl
 rw [Zf (by omega), i3, c3]
 simp only [Zz, Zo, List.getElem?_cons_zero, List.getElem?_cons_succ]
 by_cases h6 : 6 < b4
 ·rw [Zt h6]; exact ⟨_, _, rfl, fun h => by cases h⟩
 rw [Zf h6, Qrr (by unfold limOf; simp)]
 simp only [Zz, Zo]
 obtain ⟨y2, ey2, hy2⟩ := Pzu hk s hs vs [b1, b2, b3] a3 b4.toNat h54 (by omega)
 rw [Int.toNat_of_nonneg hb4] at ey2
 have ey3 : iter (X := ParT ⊕ (RegT × Bool)) (Pas.b1 k) k (s, false, (a3 : Int), b4, Z0, vs, [] ++ List.drop 0 (List.take 3 [b1, b2, b3, b4]), []) = some y2 := ey2
 rw [ey3]
 simp only [Zo]
 rcases hy2 with ⟨q, rfl⟩ | ⟨a4, ss, rfl, hs1, hs2⟩
 ·exact ⟨_, _, rfl, fun h => by cases h⟩
 ·exact ⟨_, _, rfl, fun _ => ⟨hv2, by show vs.length ≤ _; omega, by show (3 : Nat) ≤ _; omega, by show ss.length ≤ _; omega, hs2⟩⟩
theorem Pzs {k} (hk : Zk k) (s : Zb) (hs : Zh s.size) : ∃ r, Pfh.f k s = some r ∧ RegR s r := by
 unfold Pfh.f
 by_cases h8 : 8000 < s.size
 ·rw [Zt (by omega)]; exact ⟨_, rfl, fun h => (by cases h), fun _ => rfl⟩
 rw [Zf (by omega)]
 obtain ⟨q, b, e1, hq⟩ := Pzr hk s hs
 rw [e1]
 simp only [Zz, Zo]
 cases b with
 | false => exact ⟨_, rfl, fun h => (by cases h), fun _ => rfl⟩
 | true =>
  have hf := hq rfl
  simp only [Zx, Zz]
  rw [Pyd hk q hf]
  simp only [Zo]
  by_cases h0 : s = ⟨#[]⟩
  ·exfalso
   subst h0
   have hn := Pwk hk (⟨#[]⟩ : Zb) (by decide) 1 (by omega) 0 (by decide)
   have e : (⟨#[]⟩ : Zb).extract 0 (⟨#[]⟩ : Zb).size = ⟨#[]⟩ := Pvn _
   rw [e] at hn
   have hnn : numN k 1 (⟨#[]⟩ : Zb) = none := by unfold numN; rw [if_pos (Pxs hk)]
   rw [hnn] at hn
   obtain ⟨l', hl'⟩ := hn
   rw [show ((1 : Nat) : Int) = 1 from rfl, show ((0 : Nat) : Int) = 0 from rfl] at hl'
   unfold Pas.f at e1
   rw [show Pfv.f k = some ([], [0, 0, 0], []) from rfl] at e1
   simp only [Zo] at e1
   rw [hl'] at e1
   simp only [Zo] at e1
   rw [Zt (by omega)] at e1
   simp at e1
  by_cases hc : regT q = s
  ·rw [Zt hc]; exact ⟨_, rfl, fun _ => ⟨hf, Pbhi hc h0, hc⟩, fun h => by cases h⟩
  ·rw [Zf hc]; exact ⟨_, rfl, fun h => (by cases h), fun _ => rfl⟩
theorem Prr {k} (hk : Zk k) (s : Zb) (hs : Zh s.size) : ∃ r, Pfh.f k s = some r ∧ Pah.f k s = some r ∧ RegR s r := by
 obtain ⟨r, h1, h2⟩ := Pzs hk s hs
 obtain ⟨r', h3, h4⟩ := Pze hk s hs
 suffices r = r' by subst this; exact ⟨r, h1, h3, h2⟩
 cases hr : r.2 with
 | true =>
  obtain ⟨f1, f2, f3⟩ := h2.1 hr
  have := Pxd hk r.1 f1 f2
  rw [f3, h3] at this
  rw [Option.some.inj this, ← hr]
 | false =>
  cases hr' : r'.2 with
  | true =>
   obtain ⟨f1, f2, f3⟩ := h4.1 hr'
   have := Pyc hk r'.1 f1 f2
   rw [f3, h1] at this
   rw [Option.some.inj this] at hr
   cases hr
  | false => rw [h2.2 hr, h4.2 hr']
end S
namespace N
open W W2 V Y
abbrev EntT := Int × Zb
theorem Psv {α : Type} [DecidableEq α] {a b : List α} (h : a.length = b.length) : (List.range a.length).all (fun i => decide (a[i]? = b[i]?)) = decide (a = b) := by
 rw [Bool.eq_iff_iff, Pcf, Zq]
 constructor
 ·intro hp
  apply List.ext_getElem?
  intro i
  by_cases hi : i < a.length
  ·simpa using hp i hi
  ·rw [List.getElem?_eq_none (by omega), List.getElem?_eq_none (by omega)]
 ·rintro rfl i _
  simp
theorem Pbde (x y : EntT) : (decide (x.1 = y.1) && (decide (x.2 = y.2) && true)) = decide (x = y) := by
 rw [Bool.eq_iff_iff]; simp [Prod.ext_iff]
theorem Pbgm {k} (hk : Zk k) (a b : List EntT) (ha : Zh a.length) : Pbt.f k a b = some (decide (a = b)) := by
 unfold Pbt.f
 by_cases hl : a.length = b.length
 rotate_left
 ·rw [Zf (show ¬ (a.length : Int) = (b.length : Int) by omega), Zf (fun e => hl (by rw [e]))]; rfl
 rw [Zt (show (a.length : Int) = (b.length : Int) by omega), ← Psv hl]
 have key := Pmg (B := Pbt.b0 k) a.length (fun i => (a, b, false, (i : Int))) (fun i => decide (a[i]? = b[i]?)) (.inl false) (.inr false) (fun i hi => by
  have hb : i < b.length := by omega
  have e1 := Zp (i := i) (n := a.length)
  have e2 := Zp1 (i := i) (n := a.length)
  have e3 := Zp1 (i := i) (n := b.length)
  unfold Pbt.b0
  dsimp only
  simp (disch := omega) only [e1, Zy, e2, e3, Zo, Zg hi, Zg hb, Zv, Pbde, Zj]
  cases decide (a[i] = b[i]) <;> rfl) (by
  have e1 := Zo1 (n := a.length)
  unfold Pbt.b0
  dsimp only
  rw [e1]; rfl) k (by omega)
 simp only [Zu] at key
 rw [key]
 cases (List.range a.length).all (fun i => decide (a[i]? = b[i]?)) <;> rfl
theorem Pbfw {k} (hk : Zk k) (a b : List EntT) (ha : Zh a.length) : Pby.f k a b = some (decide (a = b)) := by
 unfold Pby.f
 by_cases hl : a.length = b.length
 rotate_left
 ·rw [Zf (show ¬ (a.length : Int) = (b.length : Int) by omega), Zf (fun e => hl (by rw [e]))]; rfl
 rw [Zt (show (a.length : Int) = (b.length : Int) by omega), ← Psv hl]
 have key := Pmg (B := Pby.b0 k) a.length (fun i => (a, b, false, (a.length : Int), (i : Int))) (fun i => decide (a[i]? = b[i]?)) (.inl false) (.inr false) (fun i hi => by
  have hb : i < b.length := by omega
  have e1 := Zp (i := i) (n := a.length)
  have e2 := Zp1 (i := i) (n := a.length)
  have e3 := Zp1 (i := i) (n := b.length)
  unfold Pby.b0
  dsimp only
  simp (disch := omega) only [e1, Zy, e2, e3, Zo, Zg hi, Zg hb, Zv, Pbde, Zj]
  cases decide (a[i] = b[i]) <;> rfl) (by
  have e1 := Zo1 (n := a.length)
  unfold Pby.b0
  dsimp only
  rw [e1]; rfl) k (by omega)
 simp only [Zu] at key
 rw [key]
 cases (List.range a.length).all (fun i => decide (a[i]? = b[i]?)) <;> rfl
abbrev NodeT := Int × Int × Bool × CoreT × S.RegT × SnapT × DiskT × Int × Int × Int
structure NodeS (n : NodeT) : Prop where
 core : coreS n.2.2.2.1
 reg : S.RegS n.2.2.2.2.1
 r1 : Zh n.2.2.2.2.1.1.length
 r2 : Zh n.2.2.2.2.1.2.1.length
 r3 : Zh n.2.2.2.2.1.2.2.length
 r4 : ∀ s ∈ n.2.2.2.2.1.2.2, Zh s.2.2.2.2.2.1.size
 snap : Zh n.2.2.2.2.2.1.2.2.size
 disk : Small n.2.2.2.2.2.2.1
theorem ands (b c : Bool) : (bif b then some c else some false : Option Bool) = some (b && c) := by cases b <;> rfl
theorem Pbbo {k} (hk : Zk k) (a b : WalT) (ha : Zh a.2.2.2.2.length) : ∃ q, Pgv.f k a b = some q ∧ Pgz.f k a b = some q ∧ q = (decide (a.1 = b.1) && (decide (a.2.1 = b.2.1) && (decide (a.2.2.1 = b.2.2.1) && (decide (a.2.2.2.1 = b.2.2.2.1) && decide (a.2.2.2.2 = b.2.2.2.2))))) := by
 unfold Pgv.f Pgz.f
 rw [Pbgm hk _ _ ha, Pbfw hk _ _ ha]
 simp only [Zo, ands]
 exact ⟨_, rfl, rfl, rfl⟩
def walOf (c : CoreT) : WalT := (c.2.2.1, c.2.2.2.1, c.2.2.2.2.2.2.1, c.2.2.2.2.2.2.2.1, c.2.2.2.2.2.2.2.2.1)
theorem Pbgq {k : Nat} (c : CoreT) (h : coreS c) : Phi.f k c = some (walOf c) := by
 unfold Phi.f
 rw [Qrr (by have := h.1; simp [limOf]; omega)]; rfl
theorem Pbaq {k : Nat} (c : CoreT) (h : coreS c) : Per.f k c = some (walOf c) := by
 unfold Per.f Pbd.f
 rw [Qrr (by have := h.1; simp [limOf]; omega)]; rfl
theorem Pyn {k} (hk : Zk k) (n : NodeT) (h : NodeS n) : ∃ q, Pkm.f k n = some q ∧ ((Pin.f k n.2.2.2.1).bind fun r2 => bif r2 then ((Pjv.f k n.2.2.2.2.1).bind fun r3 => bif r3 then (bif (decide (n.2.2.2.2.2.1.1 = 0) && (decide (n.2.2.2.2.2.1.2.1 = 0) && (decide (n.2.2.2.2.2.1.2.2 = (⟨#[]⟩ : Zb)) && true))) then (some (decide (n.2.2.2.2.2.2.2.1 = (-1)))) else (some false)) else (some false)) else (some false)) = some (q && decide (n.2.2.2.2.2.2.2.1 = (-1))) := by
 obtain ⟨a1, a2, a3, a4⟩ := h.core
 have r1 := h.r1
 have r2 := h.r2
 have r3 := h.r3
 unfold Pkm.f Pin.f Pjv.f
 obtain ⟨q, _, e, eq⟩ := Pbbo hk (walOf n.2.2.2.1) (0, 0, 0, 0, []) a1
 rw [Pbaq _ h.core]
 simp only [Zo]
 rw [e]
 simp only [Zo, ands]
 rw [Zw (n := (n.2.2.2.1.2.2.2.2.2.2.2.2.2.2.1.length : Int) + (n.2.2.2.1.2.2.2.2.2.2.2.2.2.2.2.1.length : Int)), Zw, Zw (n := (n.2.2.2.2.1.1.length : Int) + (n.2.2.2.2.1.2.1.length : Int)), Zw]
 refine ⟨_, rfl, ?_⟩
 rw [Zj, Bool.eq_iff_iff]
 subst eq
 dsimp only [walOf]
 have hnil : ∀ l : List U2, l = [] ↔ (l.length : Int) = 0 := fun l => by cases l <;> simp <;> omega
 simp only [Zd, Zq, and_true, walOf, hnil]
 constructor
 ·rintro ⟨⟨h1, h2, ⟨h3, h4, h5, h6, h7⟩, h8, h9, h10, h11⟩, h12, ⟨h13, h14, h15⟩, h16⟩
  refine ⟨⟨h1, h2, of_decide_eq_true h3, of_decide_eq_true h4, h8, h9, of_decide_eq_true h5, of_decide_eq_true h6, h7, h10, by omega, by omega, by omega, by omega, by omega, by omega, h13, h14, h15⟩, h16⟩
 ·rintro ⟨⟨h1, h2, h3, h4, h8, h9, h5, h6, h7, h10, g1, g2, g3, g4, g5, g6, h13, h14, h15⟩, h16⟩
  exact ⟨⟨h1, h2, ⟨Zt h3, Zt h4, Zt h5, Zt h6, h7⟩, h8, h9, h10, by omega⟩, by omega, ⟨h13, h14, h15⟩, h16⟩
theorem Pbid {k} (hk : Zk k) (n : NodeT) (h : NodeS n) (z : Bool) : ∃ q, Pdb.c0 k (z, n.1, n.2.1, true, n.2.2.2) = some q ∧ Pgn.f k (n.1, n.2.1, true, n.2.2.2) = some q := by
 obtain ⟨g1, g2⟩ := S.Pbay hk n.2.2.2.2.1 h.reg h.r1 h.r2 h.r3
 obtain ⟨rr, t1, t2, t3⟩ := S.Prr hk n.2.2.2.2.2.1.2.2 h.snap
 obtain ⟨kk, v1, v2, v3⟩ := T.Pxu hk h.disk
 obtain ⟨q, w1, w2, _⟩ := Pbbo hk kk.1.1 (walOf n.2.2.2.1) (by omega)
 have last : ∀ z, Pdb.c1 k (z, (n.1, n.2.1, true, n.2.2.2), n.2.2.2.1) = Pgn.c0 k (z, (n.1, n.2.1, true, n.2.2.2), n.2.2.2.1) ∧ ∃ q, Pgn.c0 k (z, (n.1, n.2.1, true, n.2.2.2), n.2.2.2.1) = some q := fun z => by
  unfold Pdb.c1 Pgn.c0
  dsimp only
  rw [v1, v2]
  simp only [Zo]
  rw [Pbgq _ h.core, Pbaq _ h.core]
  simp only [Zo]
  rw [w1, w2]
  simp only [Zo, ands]
  exact ⟨by first | rfl | trivial, _, rfl⟩
 unfold Pdb.c0 Pgn.f
 dsimp only
 rw [Pbbb hk _ h.core, Pban hk _ h.core, g1, g2, Pbbd, Pbao, t1, t2]
 simp only [Zo, Zx, Zz]
 cases coreB n.2.2.2.1 with
 | false => exact ⟨_, rfl, rfl⟩
 | true =>
 simp only [Zx, Zz]
 cases decide (n.2.2.2.1.1 = n.1) with
 | false => exact ⟨_, rfl, rfl⟩
 | true =>
 simp only [Zx, Zz]
 cases decide (n.2.2.2.1.2.1 = n.2.1) with
 | false => exact ⟨_, rfl, rfl⟩
 | true =>
 simp only [Zx, Zz]
 cases S.regB S.specV S.specA n.2.2.2.2.1 with
 | false => exact ⟨_, rfl, rfl⟩
 | true =>
 simp only [Zx, Zz]
 cases hB : snapB n.2.2.2.2.2.1 with
 | false => exact ⟨_, rfl, rfl⟩
 | true =>
 simp only [Zx, Zz]
 cases decide (n.2.2.2.2.2.1.1 = n.2.2.2.1.2.2.2.2.2.2.1) with
 | false => exact ⟨_, rfl, rfl⟩
 | true =>
 simp only [Zx, Zz]
 cases decide (n.2.2.2.2.2.1.2.1 = n.2.2.2.1.2.2.2.2.2.2.2.1) with
 | false => exact ⟨_, rfl, rfl⟩
 | true =>
 simp only [Zx, Zz]
 unfold snapB at hB
 obtain ⟨l1, q1, l2⟩ := last z
 obtain ⟨l3, q3, l4⟩ := last false
 have hz : Pgn.c0 k (z, (n.1, n.2.1, true, n.2.2.2), n.2.2.2.1) = Pgn.c0 k (false, (n.1, n.2.1, true, n.2.2.2), n.2.2.2.1) := rfl
 by_cases h0 : n.2.2.2.2.2.1.1 = 0
 ·rw [if_pos h0] at hB
  simp only [Zd] at hB
  rw [Zf (show ¬ 0 < n.2.2.2.2.2.1.1 by omega), Zt h0, hB.1, hB.2]
  simp only [Zz, Bool.and_self, Zx, Zo]
  rw [l1, hz, l4]
  refine ⟨_, rfl, ?_⟩
  cases rr.2 <;> exact l4
 ·rw [if_neg h0] at hB
  simp only [Zd, Zq] at hB
  rw [Zt (show 0 < n.2.2.2.2.2.1.1 by omega), Zf h0]
  simp only [Zy, Bool.false_and, Bool.not_false]
  cases rr.2 with
  | false => exact ⟨_, rfl, rfl⟩
  | true =>
   simp only [Zx, Zz, Zo]
   rw [l1, hz]
   exact ⟨_, l4, l4⟩
theorem Pbef {k} (hk : Zk k) (n : NodeT) (h : NodeS n) : ∃ q, Pdb.f k n = some q ∧ Pgg.f k n = some q := by
 unfold Pdb.f Pgg.f Pmv.f
 simp only [V.l1, W.Pdx, Zo]
 cases h1 : (decide (1 ≤ n.2.1) && decide (n.2.1 ≤ 5)) with
 | false => exact ⟨_, rfl, rfl⟩
 | true =>
 simp only [Zx, Zz]
 cases (decide (0 ≤ n.1) && decide (n.1 ≤ Zr (n.2.1 - 1))) with
 | false => exact ⟨_, rfl, rfl⟩
 | true =>
 simp only [Zx, Zz]
 rw [Pgu hk _ h.disk, Pnf hk _ h.disk, ← Pgm]
 simp only [Zo]
 cases diskS n.2.2.2.2.2.2.1 with
 | false => exact ⟨_, rfl, rfl⟩
 | true =>
 simp only [Zx, Zz]
 cases (decide (-1 ≤ n.2.2.2.2.2.2.2.1) && decide (n.2.2.2.2.2.2.2.1 ≤ 100)) with
 | false => exact ⟨_, rfl, rfl⟩
 | true =>
 simp only [Zx, Zz]
 cases h5 : (decide (0 ≤ n.2.2.2.2.2.2.2.2.1) && decide (n.2.2.2.2.2.2.2.2.1 ≤ 20)) with
 | false => exact ⟨_, rfl, rfl⟩
 | true =>
 simp only [Zx, Zz, Zy]
 cases h6 : (decide (0 ≤ n.2.2.2.2.2.2.2.2.2) && decide (n.2.2.2.2.2.2.2.2.2 ≤ 1048576)) with
 | false => exact ⟨_, rfl, rfl⟩
 | true =>
 simp only [Zd, Zq] at h5 h6
 have last : ∃ q, Pdb.c0 k (false, n) = some q ∧ Pgg.c0 k (false, n) = some q := by
  unfold Pgg.c0
  cases hu : n.2.2.1 with
  | true =>
   have e : n = (n.1, n.2.1, true, n.2.2.2) := by rw [← hu]
   obtain ⟨q, u1, u2⟩ := Pbid hk n h false
   rw [← e] at u1 u2
   dsimp only
   simp only [Zy, u2, Zo]
   exact ⟨_, u1, rfl⟩
  | false =>
   obtain ⟨q, u1, u2⟩ := Pyn hk n h
   unfold Pdb.c0
   dsimp only
   rw [hu]
   simp only [Bool.not_false, Zy, Zz]
   rw [u1]
   simp only [Zo, ands] at u2 ⊢
   exact ⟨_, rfl, u2⟩
 simp only [Zx, Zz, Zo]
 by_cases c1 : n.2.2.2.2.2.2.2.1 = -1
 ·rw [Zt c1, Zw]
  simp only [Zy]
  by_cases c2 : n.2.2.2.2.2.2.2.2.1 = 0
  ·by_cases c3 : n.2.2.2.2.2.2.2.2.2 = 0
   ·rw [Zt c2, Zt c3, Zt (show n.2.2.2.2.2.2.2.2.1 + n.2.2.2.2.2.2.2.2.2 = 0 by omega)]
    exact last
   ·rw [Zt c2, Zf c3, Zf (show ¬ n.2.2.2.2.2.2.2.2.1 + n.2.2.2.2.2.2.2.2.2 = 0 by omega)]
    exact ⟨_, rfl, rfl⟩
  ·rw [Zf c2, Zf (show ¬ n.2.2.2.2.2.2.2.2.1 + n.2.2.2.2.2.2.2.2.2 = 0 by omega)]
   exact ⟨_, rfl, rfl⟩
 ·rw [Zf c1]
  exact last
abbrev NodeK : CK := (.pair (.int .i64) (.pair (.int .i64) (.pair .bool (.pair (.pair (.int .i64) (.pair (.int .i64) (.pair (.int .i64) (.pair (.int .i64) (.pair (.int .i64) (.pair (.int .i64) (.pair (.int .i64) (.pair (.int .i64) (.pair (.sl 189 (.pair (.int .i64) .str)) (.pair (.int .i64) (.pair (.sl 3 (.int .i64)) (.pair (.sl 3 (.int .i64)) (.sl 3 (.int .i64)))))))))))))) (.pair (.pair (.sl 191 (.pair .str (.pair .str (.int .i64)))) (.pair (.sl 3 (.int .i64)) (.sl 195 (.pair (.int .i64) (.pair (.int .i64) (.pair (.int .i64) (.pair (.int .i64) (.pair (.int .i64) (.pair .str (.pair (.int .i64) (.int .i64))))))))))) (.pair (.pair (.int .i64) (.pair (.int .i64) .str)) (.pair (.pair (.int .i64) (.pair (.int .i64) (.pair (.sl 197 (.pair (.int .i64) (.pair .str (.int .i64)))) (.pair (.sl 199 (.pair .str (.int .i64))) (.sl 201 (.pair (.int .i64) (.pair .str (.pair .str (.int .i64))))))))) (.pair (.int .i64) (.pair (.int .i64) (.int .i64))))))))))
theorem neg_f {n : Int} (h : 0 ≤ n) : decide (n < 0) = false := by simp; omega
theorem Pwc {α : Type} {f : α → Nat} {l : List α} {x : α} (h : x ∈ l) : f x ≤ (l.map f).sum := by
 induction l with
 | nil => simp at h
 | cons y l ih =>
  rw [List.map_cons, List.sum_cons]
  rcases List.mem_cons.1 h with rfl | h
  ·omega
  ·have := ih h; omega
theorem Pbia {k} (hk : Zk k) (n : NodeT) (hw : WfT NodeK n) : ∃ v, Pjm.f k n 1048576 = some v ∧ (v = -1 ∨ (0 ≤ v ∧ NodeS n)) := by
 obtain ⟨v, hv, hv2⟩ := Pbfe hk n hw.2.2.2.1.2.2.2.2.2.2.2.2.1.1 (fun x hx => (hw.2.2.2.1.2.2.2.2.2.2.2.2.1.2 x hx).2) hw.2.2.2.1.2.2.2.2.2.2.2.2.2.2.1.1 hw.2.2.2.1.2.2.2.2.2.2.2.2.2.2.2.1.1 hw.2.2.2.1.2.2.2.2.2.2.2.2.2.2.2.2.1 hw.2.2.2.2.1.1.1 (fun x hx => ⟨(hw.2.2.2.2.1.1.2 x hx).1, (hw.2.2.2.2.1.1.2 x hx).2.1⟩) hw.2.2.2.2.1.2.1.1 hw.2.2.2.2.1.2.2.1 (fun x hx => (hw.2.2.2.2.1.2.2.2 x hx).2.2.2.2.2.1) hw.2.2.2.2.2.1.2.2 hw.2.2.2.2.2.2.1.2.2.1.1 (fun x hx => (hw.2.2.2.2.2.2.1.2.2.1.2 x hx).2.1) hw.2.2.2.2.2.2.1.2.2.2.1.1 (fun x hx => (hw.2.2.2.2.2.2.1.2.2.2.1.2 x hx).1) hw.2.2.2.2.2.2.1.2.2.2.2.1 (fun x hx => ⟨(hw.2.2.2.2.2.2.1.2.2.2.2.2 x hx).2.1, (hw.2.2.2.2.2.2.1.2.2.2.2.2 x hx).2.2.1⟩) 1048576 (by omega) (by omega)
 refine ⟨v, hv, hv2.imp id fun ⟨a, b⟩ => ⟨a, ?_⟩⟩
 have e : amtI n.2.2.2.2.2.2.1.2.2.1 = (List.map (fun x : Int × U0 => x.2.1.size) n.2.2.2.2.2.2.1.2.2.1).sum := rfl
 refine ⟨⟨by omega, by omega, by omega, by omega⟩, fun x hx => ?_, by omega, by omega, by omega, fun x hx => ?_, by omega, ⟨by omega, by omega, by omega, by omega, fun x hx => ?_, fun x hx => ?_⟩⟩
 ·have := Pwc (f := fun x : U4 => x.1.size + x.2.1.size) hx
  omega
 ·have := Pwc (f := fun x : U1 => x.2.2.2.2.2.1.size) hx
  omega
 ·have := Pwc (f := fun x : U0 => x.1.size) hx
  omega
 ·have := Pwc (f := fun x : Int × U4 => x.2.1.size + x.2.2.1.size) hx
  omega
theorem Pbib {k} (hk : Zk k) {n : NodeT} (h : NodeS n) : Pgl.f k n = some n := Pbfl hk n h.core.1 h.core.2.1 h.core.2.2.1 h.core.2.2.2 h.r1 h.r2 h.r3 h.disk.ino h.disk.dir h.disk.mov
structure NodeF (n : NodeT) : Prop where
 c1 : n.2.2.2.1.2.2.2.2.2.2.2.2.1.length ≤ 4194304
 c2 : n.2.2.2.1.2.2.2.2.2.2.2.2.2.2.1.length ≤ 4194304
 c3 : n.2.2.2.1.2.2.2.2.2.2.2.2.2.2.2.1.length ≤ 4194304
 c4 : n.2.2.2.1.2.2.2.2.2.2.2.2.2.2.2.2.length ≤ 4194304
 r1 : n.2.2.2.2.1.1.length ≤ 4194304
 r2 : n.2.2.2.2.1.2.1.length ≤ 4194304
 r3 : n.2.2.2.2.1.2.2.length ≤ 4194304
 d1 : n.2.2.2.2.2.2.1.2.2.1.length ≤ 4194304
 d2 : n.2.2.2.2.2.2.1.2.2.2.1.length ≤ 4194304
 d3 : n.2.2.2.2.2.2.1.2.2.2.2.length ≤ 4194304
theorem NodeS.fits {n : NodeT} (h : NodeS n) : NodeF n := by
 obtain ⟨a1, a2, a3, a4⟩ := h.core
 have b1 := h.r1
 have b2 := h.r2
 have b3 := h.r3
 have d1 := h.disk.ino
 have d2 := h.disk.dir
 have d3 := h.disk.mov
 exact ⟨by omega, by omega, by omega, by omega, by omega, by omega, by omega, by omega, by omega, by omega⟩
theorem Pbdf {k} (hk : Zk k) {n : NodeT} (h : NodeF n) : Pgi.f k n n = some true := by
 obtain ⟨a1, a2, a3, a4, b1, b2, b3, d1, d2, d3⟩ := h
 exact Pyw hk n (by omega) (by omega) (by omega) (by omega) (by omega) (by omega) (by omega) (by omega) (by omega) (by omega)
theorem cpE {k : Nat} (l : List EntT) (h : Zh l.length) : Pbd.f k l = some l := by
 unfold Pbd.f
 rw [Qrr (by simp [limOf]; omega)]; rfl
theorem cpI {k : Nat} (l : List Int) (h : Zh l.length) : Pfe.f k l = some l := by
 unfold Pfe.f
 rw [Qrr (by simp [limOf]; omega)]; rfl
theorem Pbcc {k : Nat} {n : NodeT} (h : NodeS n) : Pkl.f k n = some n := by
 obtain ⟨a1, a2, a3, a4⟩ := h.core
 have b1 := h.r1
 have b2 := h.r2
 have b3 := h.r3
 unfold Pkl.f Pmb.f Pma.f
 rw [Pef h.disk, Qrr (by simp [limOf]; omega), Qrr (by simp [limOf]; omega), Qrr (by simp [limOf]; omega), Qrr (by simp [limOf]; omega), Qrr (by simp [limOf]; omega), Qrr (by simp [limOf]; omega), Qrr (by simp [limOf]; omega)]
 rfl
theorem Pbbv {k : Nat} {n : NodeT} (h : NodeS n) : Pim.f k n = some n := by
 obtain ⟨a1, a2, a3, a4⟩ := h.core
 have b1 := h.r1
 have b2 := h.r2
 have b3 := h.r3
 unfold Pim.f Pkp.f Plx.f
 rw [Pmz h.disk, cpE _ a1, cpI _ a2, cpI _ a3, cpI _ a4, Qrr (by simp [limOf]; omega), cpI _ b2, Qrr (by simp [limOf]; omega)]
 rfl
def zN : NodeT := (0, 0, false, (0, 0, 0, 0, 0, 0, 0, 0, [], 0, [], [], []), ([], [], []), (0, 0, ⟨#[]⟩), (0, 0, [], [], []), 0, 0, 0)
theorem Pbie : NodeF zN := ⟨by simp [zN], by simp [zN], by simp [zN], by simp [zN], by simp [zN], by simp [zN], by simp [zN], by simp [zN], by simp [zN], by simp [zN]⟩
theorem Pwa {k : Nat} : Pfv.f k = some ([], [0, 0, 0], []) := by
 unfold Pfv.f
 rw [mk_ok (by omega) (by simp [limOf])]; rfl
theorem Pbga {k : Nat} : Pky.f k = some ([], [0, 0, 0], []) := by
 unfold Pky.f
 rw [mk_ok (by omega) (by simp [limOf])]; rfl
theorem Pox {k} (hk : Zk k) (a b : Int) (w : WalT) (h : Zh w.2.2.2.2.length) : ∃ R, Plq.f k a b w = some R ∧ Pkw.f k a b w = some R ∧ coreS R.1 := by
 have hs : coreS (a, b, w.1, w.2.1, 1, (-1), w.2.2.1, w.2.2.2.1, w.2.2.2.2, w.2.2.1, [], [], []) := ⟨h, by simp, by simp, by simp⟩
 unfold Plq.f Pkw.f
 rw [Qrr (by simp [limOf]; omega), cpE _ h]
 simp only [Zo, List.nil_append]
 rw [Pbbb hk _ hs, Pban hk _ hs]
 simp only [Zo]
 cases coreB (a, b, w.1, w.2.1, 1, (-1), w.2.2.1, w.2.2.2.1, w.2.2.2.2, w.2.2.1, [], [], []) with
 | false => exact ⟨_, rfl, rfl, by simp, by simp, by simp, by simp⟩
 | true => exact ⟨_, rfl, rfl, hs⟩
def RegM (r : S.RegT) : Prop := Zh r.1.length ∧ Zh r.2.1.length ∧ Zh r.2.2.length
def Pkn (d : DiskT) (l : List U11) : List U11 :=
 if 0 ≤ fileM d Zl0 then (5, Zl0, (⟨#[]⟩ : Zb), (⟨#[]⟩ : Zb)) :: l else l
theorem Pvm {k} (hk : Zk k) {n : NodeT} (h : NodeS n) (hr : Right n.2.2.2.2.2.2.1) (hd : n.2.2.2.2.2.2.2 = (-1, 0, 0)) (z : Bool) (z' : NodeT) {w : WalT} {s : SnapT} (hw : w.2.2.2.2.length ≤ 60) (hx : ∀ x ∈ w.2.2.2.2, x.2.size ≤ 900) (c : CoreT) (hc : coreS c) (g : S.RegT) (hg : RegM g) (fresh dI ok : Bool) :
  ∃ x q, Pay.c1 k (z, 0, ok, n, z', (w, s, fresh || dI), c, g) = some (x, q) ∧ Pav.c2 k (z, fresh, ok, n, (w, s, dI), c, g) = some (q, x) ∧ NodeF x := by
 obtain ⟨c1, c2, c3, c4⟩ := hc
 obtain ⟨g1, g2, g3⟩ := hg
 obtain ⟨x1, x2, x3, x4, x5, x6, x7, x8, x9, x10⟩ := h.fits
 unfold Pay.c1 Pav.c2
 dsimp only
 cases ok with
 | false => exact ⟨n, false, rfl, rfl, h.fits⟩
 | true =>
  simp only [decide_true, Zx, Zz]
  obtain ⟨l, p1, p2, p3, p4⟩ := Pzm hk h.disk w (by omega) (fun x hx' => by have := hx x hx'; omega)
  obtain ⟨r2, e1, e2⟩ := Pps hk hr Zl0
  have hL : ∀ s ∈ Pkn n.2.2.2.2.2.2.1 l, Pyo s := by
   unfold Pkn
   split
   ·intro s hs
    rcases List.mem_cons.1 hs with rfl | hs
    ·exact ⟨by decide, by decide, by decide⟩
    ·exact p4 s hs
   ·exact p4
  have hl : (Pkn n.2.2.2.2.2.2.1 l).length ≤ 7 := by
   unfold Pkn
   split
   ·simp only [Zl]; omega
   ·omega
  obtain ⟨q, s1, s2, s3⟩ := Pbgr hk h.disk (Pkn n.2.2.2.2.2.2.1 l) hL ((Pkn n.2.2.2.2.2.2.1 l).length : Int)
  obtain ⟨f1, f2, f3⟩ := s3
  -- the ways that lay the log anew
  have hS : ∀ zz : Bool, Pay.c2 k (zz, Pkn n.2.2.2.2.2.2.1 l, n, z', (w, s, fresh || dI), c, g) = if q.2.1 < ((Pkn n.2.2.2.2.2.2.1 l).length : Int) then some (.inr ((n.1, n.2.1, n.2.2.1, n.2.2.2.1, n.2.2.2.2.1, n.2.2.2.2.2.1, q.1, n.2.2.2.2.2.2.2), false)) else some (.inl (zz, (n.1, n.2.1, n.2.2.1, n.2.2.2.1, n.2.2.2.2.1, n.2.2.2.2.2.1, q.1, n.2.2.2.2.2.2.2), z', (w, s, fresh || dI), c, g)) := fun zz => by
   unfold Pay.c2
   dsimp only
   rw [s1]
   simp only [Zo]
   by_cases hq : q.2.1 < ((Pkn n.2.2.2.2.2.2.1 l).length : Int)
   ·rw [Zt hq, if_pos hq]; rfl
   ·rw [Zf hq, if_neg hq]; rfl
  have hI : ∀ (zz : Bool) (pre : List U11), pre ++ l = Pkn n.2.2.2.2.2.2.1 l → Pav.c3 k (zz, pre, n, (w, s, dI), c, g) = if q.2.1 < ((Pkn n.2.2.2.2.2.2.1 l).length : Int) then some (.inr (false, n.1, n.2.1, n.2.2.1, n.2.2.2.1, n.2.2.2.2.1, n.2.2.2.2.2.1, q.1, n.2.2.2.2.2.2.2)) else some (.inl (zz, (n.1, n.2.1, n.2.2.1, n.2.2.2.1, n.2.2.2.2.1, n.2.2.2.2.2.1, q.1, n.2.2.2.2.2.2.2), (w, s, dI), c, g)) := fun zz pre hp => by
   unfold Pav.c3
   dsimp only
   rw [p2]
   simp only [Zo]
   have hpl : pre.length + l.length = (Pkn n.2.2.2.2.2.2.1 l).length := by rw [← hp, List.length_append]
   rw [Qrr (by simp [limOf]; omega)]
   simp only [Zo]
   rw [hp, s2]
   simp only [Zo]
   by_cases hq : q.2.1 < ((Pkn n.2.2.2.2.2.2.1 l).length : Int)
   ·rw [Zt hq, if_pos hq]; rfl
   ·rw [Zf hq, if_neg hq]; rfl
  have laid : ∃ x q', Option.bind (α := (Bool × NodeT × NodeT × (WalT × SnapT × Bool) × CoreT × S.RegT) ⊕ (NodeT × Bool)) ((Pig.f k n.2.2.2.2.2.2.1 w).bind fun r1 => (Pfg.f k n.2.2.2.2.2.2.1 Zl0).bind fun r2 => Option.bind (α := (Bool × List U11 × NodeT × NodeT × (WalT × SnapT × Bool) × CoreT × S.RegT) ⊕ (NodeT × Bool)) (bif r2.2 then ((app? (limOf 56) ([(5, Zl0, (⟨#[]⟩ : Zb), (⟨#[]⟩ : Zb))]) r1).bind fun l3 => some (.inl (z, l3, n, z', (w, s, fresh || dI), c, g))) else (some (.inl (z, r1, n, z', (w, s, fresh || dI), c, g)))) fun r => match r with | .inl y => Pay.c2 k y | .inr o => some (.inr o)) (fun r => match r with | .inl y => Pay.c3 k y | .inr o => some o) = some (x, q') ∧
    Option.bind (α := (Bool × NodeT × (WalT × SnapT × Bool) × CoreT × S.RegT) ⊕ (Bool × NodeT)) (Option.bind (α := (Bool × List U11 × NodeT × (WalT × SnapT × Bool) × CoreT × S.RegT) ⊕ (Bool × NodeT)) ((Pbf.f k n.2.2.2.2.2.2.1 Zl0).bind fun r1 => bif (decide (0 ≤ r1)) then ((app? (limOf 56) ([]) ([(5, Zl0, (⟨#[]⟩ : Zb), (⟨#[]⟩ : Zb))])).bind fun l2 => some (.inl (z, l2, n, (w, s, dI), c, g))) else (some (.inl (z, [], n, (w, s, dI), c, g)))) fun r => match r with | .inl y => Pav.c3 k y | .inr o => some (.inr o)) (fun r => match r with | .inl y => Pav.c4 k y | .inr o => some o) = some (q', x) ∧ NodeF x := by
   rw [p1, Pmi hk hr]
   simp only [Zo]
   rw [e1]
   simp only [Zo]
   rw [e2]
   have key : ∀ (zz : Bool) (pre : List U11), pre ++ l = Pkn n.2.2.2.2.2.2.1 l → ∃ x q', Option.bind (α := (Bool × NodeT × NodeT × (WalT × SnapT × Bool) × CoreT × S.RegT) ⊕ (NodeT × Bool)) (Pay.c2 k (zz, Pkn n.2.2.2.2.2.2.1 l, n, z', (w, s, fresh || dI), c, g)) (fun r => match r with | .inl y => Pay.c3 k y | .inr o => some o) = some (x, q') ∧ Option.bind (α := (Bool × NodeT × (WalT × SnapT × Bool) × CoreT × S.RegT) ⊕ (Bool × NodeT)) (Pav.c3 k (zz, pre, n, (w, s, dI), c, g)) (fun r => match r with | .inl y => Pav.c4 k y | .inr o => some o) = some (q', x) ∧ NodeF x := fun zz pre hp => by
    rw [hS zz, hI zz pre hp]
    by_cases hq : q.2.1 < ((Pkn n.2.2.2.2.2.2.1 l).length : Int)
    ·rw [if_pos hq, if_pos hq]
     exact ⟨_, _, rfl, rfl, x1, x2, x3, x4, x5, x6, x7, f1, f2, f3⟩
    ·rw [if_neg hq, if_neg hq]
     refine ⟨(n.1, n.2.1, true, c, g, s, q.1, -1, 0, 0), true, ?_, rfl, by simp only; omega, by simp only; omega, by simp only; omega, by simp only; omega, by simp only; omega, by simp only; omega, by simp only; omega, f1, f2, f3⟩
     show some ((n.1, n.2.1, true, c, g, s, q.1, n.2.2.2.2.2.2.2), true) = _
     rw [hd]
   by_cases hf : 0 ≤ fileM n.2.2.2.2.2.2.1 Zl0
   ·have hst : Pkn n.2.2.2.2.2.2.1 l = (5, Zl0, (⟨#[]⟩ : Zb), (⟨#[]⟩ : Zb)) :: l := by unfold Pkn; rw [if_pos hf]
    rw [Zt hf, Qrr (by simp [limOf]; omega), Qrr (by simp [limOf])]
    simp only [Zy, Zo, List.nil_append]
    have := key z [(5, Zl0, (⟨#[]⟩ : Zb), (⟨#[]⟩ : Zb))] (by rw [hst]; rfl)
    rw [hst] at this
    exact this
   ·have hst : Pkn n.2.2.2.2.2.2.1 l = l := by unfold Pkn; rw [if_neg hf]
    rw [Zf hf]
    simp only [Zz, Zo]
    have := key z [] (by rw [hst]; rfl)
    rw [hst] at this
    exact this
  have skip : ∃ x q', Pay.c3 k (z, n, z', (w, s, fresh || dI), c, g) = some (x, q') ∧ Pav.c4 k (z, n, (w, s, dI), c, g) = some (q', x) ∧ NodeF x := by
   refine ⟨(n.1, n.2.1, true, c, g, s, n.2.2.2.2.2.2.1, -1, 0, 0), true, ?_, rfl, by simp only; omega, by simp only; omega, by simp only; omega, by simp only; omega, by simp only; omega, by simp only; omega, by simp only; omega, x8, x9, x10⟩
   show some ((n.1, n.2.1, true, c, g, s, n.2.2.2.2.2.2.1, n.2.2.2.2.2.2.2), true) = _
   rw [hd]
  cases fresh with
  | true => exact laid
  | false =>
   cases dI with
   | true => exact laid
   | false => exact skip
theorem Pyi {k} (hk : Zk k) {n : NodeT} (h : NodeS n) (hr : Right n.2.2.2.2.2.2.1) (hd : n.2.2.2.2.2.2.2 = (-1, 0, 0)) (z : Bool) (z' : NodeT) {w : WalT} {s : SnapT} (hw : w.2.2.2.2.length ≤ 60) (hx : ∀ x ∈ w.2.2.2.2, x.2.size ≤ 900) (hs : Zh s.2.2.size) (hz : s = (0, 0, ⟨#[]⟩) ∨ 0 < s.1) (fresh dI : Bool) :
  ∃ x q, Pay.c0 k (z, 0, n, z', w, s, fresh || dI) = some (x, q) ∧ Pav.c1 k (z, fresh, n, w, s, dI) = some (q, x) ∧ NodeF x := by
 obtain ⟨R, a1, a2, a3⟩ := Pox hk n.1 n.2.1 w (by omega)
 obtain ⟨rr, t1, t2, t3⟩ := S.Prr hk s.2.2 hs
 have m0 : RegM ([], [0, 0, 0], []) := ⟨by simp, by simp, by simp⟩
 have mr : RegM rr.1 := by
  cases hb : rr.2 with
  | true =>
   obtain ⟨_, h1, h2, h3, _⟩ := (t3.1 hb).1
   exact ⟨h1, h2, h3⟩
  | false =>
   have := t3.2 hb
   rw [this]
   exact ⟨by decide, by decide, by decide⟩
 unfold Pay.c0 Pav.c1
 dsimp only
 rw [a1, a2, Pwa, Pbga]
 simp only [Zo, decide_true, Zy]
 rcases hz with rfl | hz
 ·have e : (decide ((0 : Int) = 0) && (decide ((0 : Int) = 0) && (decide ((⟨#[]⟩ : Zb) = (⟨#[]⟩ : Zb)) && true))) = true := by simp
  have e2 : decide ((0 : Int) < 0) = false := by simp
  simp only [e, e2, Zx, Zz, Zo]
  exact Pvm hk h hr hd z z' hw hx R.1 a3 _ m0 fresh dI R.2
 ·rw [Zt hz, Zf (show ¬ s.1 = 0 by omega), t1, t2]
  simp only [Bool.false_and, Bool.not_false, Zy, Zo]
  cases R.2 with
  | true => exact Pvm hk h hr hd z z' hw hx R.1 a3 _ mr fresh dI rr.2
  | false => exact Pvm hk h hr hd z z' hw hx R.1 a3 _ mr fresh dI false
theorem Pben {k} (hk : Zk k) {n : NodeT} (h : NodeS n) (hr : Right n.2.2.2.2.2.2.1) (hd : n.2.2.1 = false → n.2.2.2.2.2.2.2 = (-1, 0, 0)) : ∃ x q, Pay.f k n = some (x, q) ∧ Pav.f k n = some (q, x) ∧ NodeF x := by
 obtain ⟨r, v1, v2, k1, k2, k3, k4⟩ := T.Pqb hk h.disk
 obtain ⟨r2, e1, e2⟩ := Pps hk hr Zl2
 unfold Pay.f Pav.f
 rw [v1, v2, Pmi hk hr]
 simp only [Zo]
 cases hu : n.2.2.1 with
 | true =>
  refine ⟨n, false, rfl, ?_, h.fits⟩
  cases decide (r.2 = 1) <;> rfl
 | false =>
  have hd := hd hu
  simp only [Zz]
  rw [e1]
  simp only [Zo]
  rw [e2]
  by_cases c1 : r.2 = 1
  ·rw [Zt c1, Zf (show ¬ r.2 = 0 by omega)]
   simp only [Zy, Bool.not_false]
   by_cases c2 : 0 ≤ fileM n.2.2.2.2.2.2.1 Zl2
   ·rw [Zt c2, Zf (show ¬ fileM n.2.2.2.2.2.2.1 Zl2 < 0 by omega)]
    simp only [Zx, Zz, Bool.not_false, Zy, Zo]
    obtain ⟨R, a1, a2, a3⟩ := Pox hk n.1 n.2.1 r.1.1 (by omega)
    refine ⟨n, false, ?_, rfl, h.fits⟩
    unfold Pay.c0
    dsimp only
    rw [a1, Pwa, Zf (show ¬ r.2 = 0 by omega)]
    simp only [Zo, Zz]
    unfold Pay.c1
    dsimp only
    rw [Zf (show ¬ r.2 = 0 by omega)]; rfl
   ·rw [Zf c2, Zt (show fileM n.2.2.2.2.2.2.1 Zl2 < 0 by omega)]
    simp only [Zx, Zz, Bool.not_false, Zy, Zo]
    unfold Pav.c0
    dsimp only
    simp only [Zy, Zo]
    exact Pyi hk h hr hd false zN (w := (0, (-1), 0, 0, [])) (s := (0, 0, ⟨#[]⟩)) (by simp) (by simp) (by decide) (.inl rfl) true false
  ·rw [Zf c1]
   simp only [Zz, Zo]
   by_cases c0 : r.2 = 0
   ·rw [Zt c0]
    simp only [Zx, Zz, Zo]
    unfold Pav.c0
    dsimp only
    simp only [Zz, Zo]
    rw [c0]
    exact Pyi hk h hr hd false zN (w := r.1.1) (s := r.1.2.1) k1 k2 k3 (k4 c0) false r.1.2.2
   ·rw [Zf c0]
    simp only [Bool.not_false, Zy, Zo]
    obtain ⟨R, a1, a2, a3⟩ := Pox hk n.1 n.2.1 r.1.1 (by omega)
    refine ⟨n, false, ?_, rfl, h.fits⟩
    unfold Pay.c0
    dsimp only
    rw [a1, Pwa, Zf c0]
    simp only [Zo, Zz]
    unfold Pay.c1
    dsimp only
    rw [Zf c0]; rfl
theorem Pbca {k} (hk : Zk k) {n : NodeT} (h : NodeS n) (ho : Pdb.f k n = some true) : Right n.2.2.2.2.2.2.1 ∧ (n.2.2.1 = false → n.2.2.2.2.2.2.2 = (-1, 0, 0)) := by
 unfold Pdb.f at ho
 simp only [V.l1, Zo, Pgu hk _ h.disk] at ho
 cases t1 : (decide (1 ≤ n.2.1) && decide (n.2.1 ≤ 5)) with
 | false => rw [t1] at ho; cases ho
 | true =>
 rw [t1] at ho
 cases t2 : (decide (0 ≤ n.1) && decide (n.1 ≤ Zr (n.2.1 - 1))) with
 | false => rw [t2] at ho; cases ho
 | true =>
 rw [t2] at ho
 cases t3 : diskS n.2.2.2.2.2.2.1 with
 | false => rw [t3] at ho; cases ho
 | true =>
 rw [t3] at ho
 refine ⟨⟨h.disk, t3⟩, fun hu => ?_⟩
 cases t4 : (decide (-1 ≤ n.2.2.2.2.2.2.2.1) && decide (n.2.2.2.2.2.2.2.1 ≤ 100)) with
 | false => rw [t4] at ho; cases ho
 | true =>
 rw [t4] at ho
 cases t5 : (decide (0 ≤ n.2.2.2.2.2.2.2.2.1) && decide (n.2.2.2.2.2.2.2.2.1 ≤ 20)) with
 | false => rw [t5] at ho; cases ho
 | true =>
 rw [t5] at ho
 cases t6 : (decide (0 ≤ n.2.2.2.2.2.2.2.2.2) && decide (n.2.2.2.2.2.2.2.2.2 ≤ 1048576)) with
 | false => rw [t6] at ho; cases ho
 | true =>
 rw [t6] at ho
 obtain ⟨q, z1, _⟩ := Pyn hk n h
 have last : Pdb.c0 k (false, n) = some true → n.2.2.2.2.2.2.2.1 = -1 := fun hc => by
  unfold Pdb.c0 at hc
  dsimp only at hc
  rw [hu] at hc
  simp only [Bool.not_false, Zy] at hc
  rw [z1] at hc
  simp only [Zo] at hc
  cases q with
  | false => cases hc
  | true =>
   simp only [Zy, Zj, Zq] at hc
   exact hc
 simp only [Zx, Zz] at ho
 by_cases c1 : n.2.2.2.2.2.2.2.1 = -1
 ·rw [Zt c1] at ho
  by_cases c2 : n.2.2.2.2.2.2.2.2.1 = 0
  ·by_cases c3 : n.2.2.2.2.2.2.2.2.2 = 0
   ·rw [show n.2.2.2.2.2.2.2 = (n.2.2.2.2.2.2.2.1, n.2.2.2.2.2.2.2.2.1, n.2.2.2.2.2.2.2.2.2) from rfl, c1, c2, c3]
   ·rw [Zt c2, Zf c3] at ho; cases ho
  ·rw [Zf c2] at ho; cases ho
 ·rw [Zf c1] at ho
  exact absurd (last ho) c1
theorem Pbeo {k} (hk : Zk k) {n : NodeT} (h : NodeS n) : ∃ x q, Pjd.f k n = some (x, q) ∧ Phe.f k n = some (x, q) ∧ NodeF x := by
 obtain ⟨q, h1, h2⟩ := Pbef hk n h
 unfold Pjd.f Phe.f
 rw [h1, h2]
 simp only [Zo]
 cases q with
 | false => exact ⟨zN, false, rfl, rfl, Pbie⟩
 | true =>
  obtain ⟨hr, hd⟩ := Pbca hk h h1
  rw [Pbcc h, Pbbv h]
  simp only [Zo, Zx, Zz]
  obtain ⟨x, q, r1, r2, r3⟩ := Pben hk h hr hd
  rw [r1, r2]
  exact ⟨x, q, rfl, rfl, r3⟩
theorem Pxk (n : NodeT) (hw : WfT NodeK n) : ∃ k, Pfm.f k n = some true := by
 refine ⟨9223372036854775808, ?_⟩
 have hk : 9223372036854775808 ≤ 9223372036854775808 := Nat.le_refl _
 obtain ⟨v, hv, hv2⟩ := Pbia hk n hw
 unfold Pfm.f
 simp only [hv, Zo]
 rcases hv2 with rfl | ⟨h0, hs⟩
 ·rfl
 obtain ⟨r, q, h1, h2, hf⟩ := Pbeo hk hs
 have he := Pbdf hk hf
 obtain ⟨x1, x2, x3, x4, x5, x6, x7, x8, x9, x10⟩ := hs.fits
 obtain ⟨y1, y2, y3, y4, y5, y6, y7, y8, y9, y10⟩ := hf
 obtain ⟨n1, _, _, _, _, _, _, _, _, _, _, m1, _, m3, _⟩ := Ppt hk n 1 (by omega) (by omega) (by omega) (by omega) (by omega) (by omega) (by omega) (by omega) (by omega) (by omega) (by omega) (by omega)
 obtain ⟨n2, l0, l1, l2, l3, l4, l5, l6, l7, l8, l9, g1, g2, g3, g4⟩ := Ppt hk r 1 (by omega) (by omega) (by omega) (by omega) (by omega) (by omega) (by omega) (by omega) (by omega) (by omega) (by omega) (by omega)
 simp only [neg_f h0, Zz, Pbib hk hs, h1, h2, Zo, Pbdf hk hs.fits, he, decide_true, Zx, m1, neg_f m3, g1, g2, neg_f g3]
end N
end Go.Proofs.YtbkcbfkehncocaaGreatDoor.Rx
