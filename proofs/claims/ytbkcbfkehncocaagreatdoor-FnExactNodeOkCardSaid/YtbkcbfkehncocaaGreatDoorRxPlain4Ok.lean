/- The plain side of the law: part 4. No condition beside those that each theorem states. -/
import Derived.Test.YtbkcbfkehncocaaGreatDoorRxPlain3Ok
set_option linter.unusedVariables false
set_option linter.unusedSimpArgs false
namespace Go.Proofs.YtbkcbfkehncocaaGreatDoor.Rx
namespace S
open Y V
theorem Pve {k} (hk : Zk k) (r : RegT) (hs : RegS r) (h1 : r.1.length ≤ 1048576) (h2 : r.2.1.length ≤ 1048576) (h3 : r.2.2.length ≤ 1048576) : Pau.f k r = some (regB specV specA r) ∧ Pba.f k r = some (regB specV specA r) :=
 ⟨Pvm hk r hs h1 h2 h3, by rw [Pbae hk r hs h1 h2 h3, Pbak]⟩
theorem Prt {S X : Type} {B : S → Option (S ⊕ X)} : ∀ {k : Nat} {s : S} {x : X} (j : Nat), iter B k s = some x → iter B (k + j) s = some x
 | 0, _, _, _, h => by cases h
 | k + 1, s, x, j, h => by
  rw [show k + 1 + j = (k + j) + 1 by omega]
  simp only [iter] at h ⊢
  obtain ⟨r, h1, h2⟩ := Option.bind_eq_some_iff.1 h
  rw [h1]
  simp only [Zo]
  cases r with
  | inl s' => exact Prt j h2
  | inr y => exact h2
def vv (n : Int) : Zb := (Par.f 9223372036854775808 n).getD ⟨#[]⟩
theorem vv_eq {k} (hk : Zk k) (n : Int) : Par.f k n = some (vv n) := by
 obtain ⟨s, h, _⟩ := Piz (Nat.le_refl 9223372036854775808) n
 unfold vv
 rw [h]
 unfold Par.f at h ⊢
 rw [l1] at h ⊢
 simp only [Zo] at h ⊢
 cases hc : (decide (0 ≤ n) && decide (n ≤ 562949953421311)) with
 | false => rw [hc] at h; exact h
 | true =>
  rw [hc] at h
  simp only [Zx, Zz] at h ⊢
  obtain ⟨x, h1, h2⟩ := Option.bind_eq_some_iff.1 h
  obtain ⟨j, rfl⟩ : ∃ j, k = 9223372036854775808 + j := ⟨k - 9223372036854775808, by omega⟩
  have := Prt j h1
  have h3 : iter (X := (Int × U8) ⊕ Zb) (Par.b0 (9223372036854775808 + j)) (9223372036854775808 + j) (n, (⟨#[]⟩ : Zb), []) = some x := this
  rw [h3]
  exact h2
theorem Pef (n : Int) : (vv n).size ≤ 17592186044416 := by
 obtain ⟨s, h, h2⟩ := Piz (Nat.le_refl 9223372036854775808) n
 unfold vv; rw [h]; exact h2
def ansT (a : Int × Int × Int × Zb × U0) : Zb := if ansB a = true then vv a.1 ++ vv a.2.1 ++ vv a.2.2.1 ++ vv a.2.2.2.2.1 ++ vv a.2.2.2.2.2 ++ a.2.2.2.1 else ⟨#[]⟩
theorem Ppy (a : Int × Int × Int × Zb × U0) (h : a.2.2.2.1.size ≤ 1048576) : (ansT a).size ≤ 87960931270656 := by
 unfold ansT
 split
 ·simp only [Zs]
  have := Pef a.1; have := Pef a.2.1; have := Pef a.2.2.1; have := Pef a.2.2.2.2.1; have := Pef a.2.2.2.2.2
  omega
 ·show (0 : Nat) ≤ _; omega
theorem Pkr {k} (hk : Zk k) (a : Int × Int × Int × Zb × U0) (h : a.2.2.2.1.size ≤ 1048576) : Pcj.f k a = some (ansT a) := by
 unfold Pcj.f ansT
 rw [Pnp]
 simp only [Zo]
 cases ansB a with
 | false => rfl
 | true =>
  simp only [Zx, Zz, if_true, vv_eq hk, Zo]
  have := Pef a.1; have := Pef a.2.1; have := Pef a.2.2.1; have := Pef a.2.2.2.2.1; have := Pef a.2.2.2.2.2
  rw [Za]
  simp only [Zo]
  rw [Qqv (by simp only [Zs]; omega)]
  simp only [Zo]
  rw [Qqv (by simp only [Zs]; omega)]
  simp only [Zo]
  rw [Qqv (by simp only [Zs]; omega)]
  simp only [Zo]
  rw [Qqv (by simp only [Zs]; omega)]
  rfl
theorem Pnc {k} (hk : Zk k) (a : Int × Int × Int × Zb × U0) (h : a.2.2.2.1.size ≤ 1048576) : Pdl.f k a = some (ansT a) := by
 rw [Pkq]; exact Pkr hk a h
def verG (o : Zb) (v : VerT) : Zb := o ++ strOfNums [IntKind.wrap .u8 v.2.2] ++ vv v.1.size ++ v.1
def numG (o : Zb) (n : Int) : Zb := o ++ vv n
def sesG (o : Zb) (s : SesT) : Zb := o ++ vv s.1 ++ vv s.2.1 ++ vv (ansT s.2.2).size ++ ansT s.2.2
def verT : List VerT → Zb
 | [] => ⟨#[]⟩
 | v :: l => strOfNums [IntKind.wrap .u8 v.2.2] ++ (vv v.1.size ++ (v.1 ++ verT l))
def numT : List Int → Zb
 | [] => ⟨#[]⟩
 | n :: l => vv n ++ numT l
def sesT : List SesT → Zb
 | [] => ⟨#[]⟩
 | s :: l => vv s.1 ++ (vv s.2.1 ++ (vv (ansT s.2.2).size ++ (ansT s.2.2 ++ sesT l)))
theorem Ppa : ∀ (l : List VerT) (o : Zb), l.foldl verG o = o ++ verT l
 | [], o => (Pln o).symm
 | p :: l, o => by rw [List.foldl_cons, Ppa l]; simp only [verG, verT, ByteArray.append_assoc]
theorem Poh : ∀ (l : List Int) (o : Zb), l.foldl numG o = o ++ numT l
 | [], o => (Pln o).symm
 | p :: l, o => by rw [List.foldl_cons, Poh l]; simp only [numG, numT, ByteArray.append_assoc]
theorem Pom : ∀ (l : List SesT) (o : Zb), l.foldl sesG o = o ++ sesT l
 | [], o => (Pln o).symm
 | p :: l, o => by rw [List.foldl_cons, Pom l]; simp only [sesG, sesT, ByteArray.append_assoc]
theorem Pmh : ∀ {l : List VerT}, (∀ v ∈ l, v.1.size ≤ 1048576) → (verT l).size ≤ 17592187092993 * l.length
 | [], _ => Nat.le_refl _
 | v :: l, h => by
  have h1 := Pmh fun x hx => h x (List.mem_cons_of_mem _ hx)
  have h2 := h v (by simp)
  have h3 := Pef v.1.size
  simp only [verT, Zs, Pao, Zl, List.length_nil]; omega
theorem Plt : ∀ {l : List Int}, (numT l).size ≤ 17592186044416 * l.length
 | [] => Nat.le_refl _
 | v :: l => by
  have h1 := Plt (l := l)
  have h3 := Pef v
  simp only [numT, Zs, Zl]; omega
theorem Plz : ∀ {l : List SesT}, (∀ s ∈ l, s.2.2.2.2.2.1.size ≤ 1048576) → (sesT l).size ≤ 175921860444160 * l.length
 | [], _ => Nat.le_refl _
 | s :: l, h => by
  have h1 := Plz fun x hx => h x (List.mem_cons_of_mem _ hx)
  have h2 := Ppy s.2.2 (h s (by simp))
  have h3 := Pef s.1
  have h4 := Pef s.2.1
  have h5 := Pef (ansT s.2.2).size
  simp only [sesT, Zs, Zl]; omega
def okR (r : RegT) : Bool := regB specV specA r
def regT (r : RegT) : Zb := if okR r = true then vv r.1.length ++ (verT r.1 ++ (numT r.2.1 ++ (vv r.2.2.length ++ sesT r.2.2))) else ⟨#[]⟩
theorem Pmq {r : RegT} (h : okR r = true) : r.1.length ≤ 6 ∧ r.2.1.length = 3 ∧ r.2.2.length ≤ 6 := by
 unfold okR regB at h
 split at h
 ·cases h
 split at h
 ·cases h
 split at h
 ·cases h
 omega
def RegF (r : RegT) : Prop := RegS r ∧ r.1.length ≤ 1048576 ∧ r.2.1.length ≤ 1048576 ∧ r.2.2.length ≤ 1048576 ∧ ∀ s ∈ r.2.2, s.2.2.2.2.2.1.size ≤ 1048576
theorem Pmd {α : Type} {l : List α} {i : Nat} {P : α → Prop} (h : ∀ x ∈ l, P x) : ∀ x ∈ l.take i, P x := fun x hx => h x (List.mem_of_mem_take hx)
theorem Pso {k} (hk : Zk k) (r : RegT) (hf : RegF r) : Pay.f k r = some (regT r) := by
 obtain ⟨hs, h1, h2, h3, h4⟩ := hf
 unfold Pay.f regT
 rw [Pvm hk r hs h1 h2 h3]
 simp only [Zo]
 cases hok : okR r with
 | false => rw [show regB specV specA r = false from hok]; rfl
 | true =>
  rw [show regB specV specA r = true from hok]
  obtain ⟨l1, l2, l3⟩ := Pmq hok
  simp only [Zx, Zz, if_true, vv_eq hk, Zo]
  have hv0 := Pef r.1.length
  have hb := Pmh hs
  have hn := Plt (l := r.2.1)
  have hss := Plz h4
  have hv1 := Pef r.2.2.length
  have e1 := Qqp (B := Pay.b0 k) (X := (Zb × Zb × RegT) ⊕ Zb) r.1 (fun i o => ((⟨#[]⟩ : Zb), o, (i : Int), r)) verG (fun o => .inl (⟨#[]⟩, o, r)) (vv r.1.length) (fun i hi => by
   have hz : ((r.1.take i).foldl verG (vv r.1.length)).size ≤ 1759218604441600 := by
    rw [Ppa, Zs]
    have := Pmh (Pmd (i := i) hs)
    rw [List.length_take] at this
    omega
   generalize (r.1.take i).foldl verG (vv r.1.length) = o at hz
   have hsz := hs _ (List.getElem_mem hi)
   unfold Pay.b0
   dsimp only
   rw [Zt (by omega), Zi, Zn]
   simp only [Zy, Zo, Zg hi, vv_eq hk]
   have z2 := Pef r.1[i].1.size
   rw [Qqv (by rw [Pao]; simp; omega)]
   simp only [Zo]
   rw [Qqv (by rw [Zs, Pao]; simp; omega)]
   simp only [Zo]
   rw [Qqv (by rw [Zs, Zs, Pao]; simp; omega), Zw (n := (i : Int) + 1)]
   rfl) (by
   unfold Pay.b0
   dsimp only
   rw [Zf (by omega)]; rfl) k (by omega)
  rw [Ppa, show ((0 : Nat) : Int) = 0 from rfl] at e1
  rw [e1]
  simp only [Zo]
  unfold Pay.d0
  dsimp only
  have e2 := Qqp (B := Pay.b1 k) (X := (Zb × Zb × RegT) ⊕ Zb) r.2.1 (fun i o => ((⟨#[]⟩ : Zb), o, (i : Int), r)) numG (fun o => .inl (⟨#[]⟩, o, r)) (vv r.1.length ++ verT r.1) (fun i hi => by
   have hz : ((r.2.1.take i).foldl numG (vv r.1.length ++ verT r.1)).size ≤ 1759218604441600 := by
    rw [Poh, Zs, Zs]
    have := Plt (l := r.2.1.take i)
    rw [List.length_take] at this
    omega
   generalize (r.2.1.take i).foldl numG (vv r.1.length ++ verT r.1) = o at hz
   unfold Pay.b1
   dsimp only
   rw [Zt (by omega), Zi, Zn]
   simp only [Zy, Zo, Zg hi, vv_eq hk]
   have z2 := Pef r.2.1[i]
   rw [Za, Zw (n := (i : Int) + 1)]
   rfl) (by
   unfold Pay.b1
   dsimp only
   rw [Zf (by omega)]; rfl) k (by omega)
  rw [Poh, show ((0 : Nat) : Int) = 0 from rfl] at e2
  rw [e2]
  simp only [Zo]
  unfold Pay.d1
  dsimp only
  rw [vv_eq hk, Zo, Qqv (by simp only [Zs]; omega), Zo]
  have e3 := Qqp (B := Pay.b2 k) (X := U5 ⊕ Zb) r.2.2 (fun i o => ((⟨#[]⟩ : Zb), o, (i : Int), r)) sesG (fun o => .inl (⟨#[]⟩, o)) (vv r.1.length ++ verT r.1 ++ numT r.2.1 ++ vv r.2.2.length) (fun i hi => by
   have hz : ((r.2.2.take i).foldl sesG (vv r.1.length ++ verT r.1 ++ numT r.2.1 ++ vv r.2.2.length)).size ≤ 17592186044416000 := by
    rw [Pom]
    simp only [Zs]
    have := Plz (Pmd (i := i) h4)
    rw [List.length_take] at this
    omega
   generalize (r.2.2.take i).foldl sesG (vv r.1.length ++ verT r.1 ++ numT r.2.1 ++ vv r.2.2.length) = o at hz
   have hsz := h4 _ (List.getElem_mem hi)
   unfold Pay.b2
   dsimp only
   rw [Zt (by omega), Zi, Zn]
   simp only [Zy, Zo, Zg hi, vv_eq hk, Pkr hk _ hsz]
   have z1 := Pef r.2.2[i].1
   have z2 := Pef r.2.2[i].2.1
   have z3 := Ppy _ hsz
   have z4 := Pef (ansT r.2.2[i].2.2).size
   rw [Za]
   simp only [Zo]
   rw [Qqv (by simp only [Zs]; omega)]
   simp only [Zo]
   rw [Qqv (by simp only [Zs]; omega)]
   simp only [Zo]
   rw [Qqv (by simp only [Zs]; omega), Zw (n := (i : Int) + 1)]
   rfl) (by
   unfold Pay.b2
   dsimp only
   rw [Zf (by omega)]; rfl) k (by omega)
  rw [Pom, show ((0 : Nat) : Int) = 0 from rfl] at e3
  rw [e3]
  simp only [Zo]
  unfold Pay.d2
  simp only [ByteArray.append_assoc]
theorem Prr {k} (hk : Zk k) (t : Zb) (ht : t.size ≤ 4611686018427387904) : Pif.f k t = some (vv t.size ++ t) := by
 unfold Pif.f
 rw [Pmf, vv_eq hk]
 have := Pef t.size
 simp only [Zo]
 rw [Za]; rfl
theorem Prq {k} (hk : Zk k) (r : RegT) (hf : RegF r) : Pax.f k r = some (regT r) := by
 obtain ⟨hs, h1, h2, h3, h4⟩ := hf
 unfold Pax.f regT
 rw [(Pve hk r hs h1 h2 h3).2, Pmf]
 simp only [Zo]
 cases hok : okR r with
 | false => rw [show regB specV specA r = false from hok]; rfl
 | true =>
  rw [show regB specV specA r = true from hok]
  obtain ⟨l1, l2, l3⟩ := Pmq hok
  simp only [Zx, Zz, if_true, vv_eq hk, Zo]
  have hv0 := Pef r.1.length
  have hb := Pmh hs
  have hn := Plt (l := r.2.1)
  have hss := Plz h4
  have hv1 := Pef r.2.2.length
  have e1 := Qqp (B := Pax.b0 k) (X := (Zb × Zb × RegT) ⊕ Zb) r.1 (fun i o => ((⟨#[]⟩ : Zb), o, r.1, (r.1.length : Int), (i : Int), r)) verG (fun o => .inl (⟨#[]⟩, o, r)) (vv r.1.length) (fun i hi => by
   have hz : ((r.1.take i).foldl verG (vv r.1.length)).size ≤ 1759218604441600 := by
    rw [Ppa, Zs]
    have := Pmh (Pmd (i := i) hs)
    rw [List.length_take] at this
    omega
   generalize (r.1.take i).foldl verG (vv r.1.length) = o at hz
   have hsz := hs _ (List.getElem_mem hi)
   unfold Pax.b0
   dsimp only
   rw [Zt (by omega), Zi, Zn]
   simp only [Zy, Zo, Zg hi, Prr hk _ (show r.1[i].1.size ≤ 4611686018427387904 by omega)]
   have z2 := Pef r.1[i].1.size
   rw [Qqv (by rw [Pao]; simp; omega)]
   simp only [Zo]
   rw [Qqv (by rw [Zs, Zs, Pao]; simp; omega), Zw (n := (i : Int) + 1)]
   simp only [Zo, verG, ByteArray.append_assoc]
   rfl) (by
   unfold Pax.b0
   dsimp only
   rw [Zf (by omega)]; rfl) k (by omega)
  rw [Ppa, show ((0 : Nat) : Int) = 0 from rfl] at e1
  rw [e1]
  simp only [Zo]
  unfold Pax.d0
  dsimp only
  have e2 := Qqp (B := Pax.b1 k) (X := (Zb × Zb × RegT) ⊕ Zb) r.2.1 (fun i o => ((⟨#[]⟩ : Zb), o, r.2.1, (r.2.1.length : Int), (i : Int), r)) numG (fun o => .inl (⟨#[]⟩, o, r)) (vv r.1.length ++ verT r.1) (fun i hi => by
   have hz : ((r.2.1.take i).foldl numG (vv r.1.length ++ verT r.1)).size ≤ 1759218604441600 := by
    rw [Poh, Zs, Zs]
    have := Plt (l := r.2.1.take i)
    rw [List.length_take] at this
    omega
   generalize (r.2.1.take i).foldl numG (vv r.1.length ++ verT r.1) = o at hz
   unfold Pax.b1
   dsimp only
   rw [Zt (by omega), Zi, Zn, Pmf]
   simp only [Zy, Zo, Zg hi, vv_eq hk]
   have z2 := Pef r.2.1[i]
   rw [Za, Zw (n := (i : Int) + 1)]
   rfl) (by
   unfold Pax.b1
   dsimp only
   rw [Zf (by omega)]; rfl) k (by omega)
  rw [Poh, show ((0 : Nat) : Int) = 0 from rfl] at e2
  rw [e2]
  simp only [Zo]
  unfold Pax.d1
  dsimp only
  rw [Pmf, vv_eq hk, Zo, Qqv (by simp only [Zs]; omega), Zo]
  have e3 := Qqp (B := Pax.b2 k) (X := U5 ⊕ Zb) r.2.2 (fun i o => ((⟨#[]⟩ : Zb), o, r.2.2, (r.2.2.length : Int), (i : Int))) sesG (fun o => .inl (⟨#[]⟩, o)) (vv r.1.length ++ verT r.1 ++ numT r.2.1 ++ vv r.2.2.length) (fun i hi => by
   have hz : ((r.2.2.take i).foldl sesG (vv r.1.length ++ verT r.1 ++ numT r.2.1 ++ vv r.2.2.length)).size ≤ 17592186044416000 := by
    rw [Pom]
    simp only [Zs]
    have := Plz (Pmd (i := i) h4)
    rw [List.length_take] at this
    omega
   generalize (r.2.2.take i).foldl sesG (vv r.1.length ++ verT r.1 ++ numT r.2.1 ++ vv r.2.2.length) = o at hz
   have hsz := h4 _ (List.getElem_mem hi)
   have z1 := Pef r.2.2[i].1
   have z2 := Pef r.2.2[i].2.1
   have z3 := Ppy _ hsz
   have z4 := Pef (ansT r.2.2[i].2.2).size
   unfold Pax.b2
   dsimp only
   rw [Zt (by omega), Zi, Zn, Pmf]
   simp only [Zy, Zo, Zg hi, vv_eq hk, Pnc hk _ hsz, Prr hk _ (show (ansT r.2.2[i].2.2).size ≤ 4611686018427387904 by omega)]
   rw [Za]
   simp only [Zo]
   rw [Qqv (by simp only [Zs]; omega)]
   simp only [Zo]
   rw [Qqv (by simp only [Zs]; omega), Zw (n := (i : Int) + 1)]
   simp only [Zo, sesG, ByteArray.append_assoc]
   rfl) (by
   unfold Pax.b2
   dsimp only
   rw [Zf (by omega)]; rfl) k (by omega)
  rw [Pom, show ((0 : Nat) : Int) = 0 from rfl] at e3
  rw [e3]
  simp only [Zo]
  unfold Pax.d2
  simp only [ByteArray.append_assoc]
end S
namespace S
open Y V
theorem Pgz {n : Int} (h0 : 0 ≤ n) (h1 : n ≤ 562949953421311) : 0 < (vv n).size ∧ (vv n).size ≤ 7 ∧ (∀ i, i + 1 < (vv n).size → 128 ≤ Qmy (vv n) i) ∧ val (vv n) (vv n).size = n := by
 obtain ⟨v, h2, h3, h4, h5, _, h6⟩ := Pbav (Nat.le_refl 9223372036854775808) h0 h1
 have e : vv n = v := by unfold vv; rw [h2]; rfl
 rw [e]; exact ⟨h3, h4, h5, h6⟩
theorem Pbbg {k} (hk : Zk k) {n : Int} (h0 : 0 ≤ n) (h1 : n ≤ 562949953421311) (t : Zb) (ht : t.size ≤ 1048576) : rdv k (vv n ++ t) = (n, ((vv n).size : Int)) := by
 obtain ⟨z1, z2, hb, hv⟩ := Pgz h0 h1
 have hbb : ∀ i, i < (vv n).size → Qmy (vv n ++ t) i = Qmy (vv n) i := fun i hi => Pfi hi
 refine Pbbf hk _ (by rw [Zs]; omega) _ z1 z2 (by rw [Zs]; omega) (by rw [Pnm]; exact vv_eq hk n) ?_ fun i hi => ?_
 ·rw [Poy hbb]; exact hv
 ·rw [hbb i (by omega)]; exact hb i hi
theorem Pyi {k} (hk : Zk k) {n : Int} (h0 : 0 ≤ n) (h1 : n ≤ 562949953421311) (t : Zb) (ht : t.size ≤ 1048576) : numP k (vv n ++ t) false = (n, t, false) := by
 have h := Pbbg hk h0 h1 t ht
 obtain ⟨z1, _⟩ := Pgz h0 h1
 unfold numP
 rw [if_neg (by rw [h]; rintro (h' | h') <;> first | (simp only at h'; omega) | cases h'), h]
 simp only [Zn]
 rw [Pft]
theorem Plu {k} (hk : Zk k) {n : Int} (h0 : 0 ≤ n) (h1 : n ≤ 562949953421311) (t : Zb) (ht : t.size ≤ 1048576) : Pat.f k (vv n ++ t, false) = some (n, t, false) := by
 obtain ⟨_, z2, _⟩ := Pgz h0 h1
 rw [Pko hk _ _ (by rw [Zs]; omega), Pyi hk h0 h1 t ht]
theorem Pzg {k} (hk : Zk k) (b t : Zb) (hb : (b ++ t).size ≤ 1048576) : Pds.f k (vv b.size ++ (b ++ t), false) = some (b, t, false) := by
 have hz := hb
 rw [Zs] at hz
 unfold Pds.f
 rw [Plu hk (by omega) (by omega) _ hb]
 simp only [Zo]
 rw [Pxd k _ _ _ (by omega), if_neg (by simp), if_neg (by rw [Zs]; omega)]
 simp only [Zn, Zo]
 rw [Pnm, Pft]
theorem Pbbk {k : Nat} (c : Int) (h0 : 0 ≤ c) (h1 : c ≤ 255) (t : Zb) (ht : t.size ≤ 1048000) : Pcs.f k (strOfNums [IntKind.wrap .u8 c] ++ t, false) = some (c, t, false) := by
 have hz : (strOfNums [IntKind.wrap .u8 c]).size = 1 := rfl
 rw [Pwz _ _ (by rw [Zs, hz]; omega), if_neg (by rw [Zs, hz]; rintro (h | h) <;> first | omega | cases h)]
 have e := Pft (strOfNums [IntKind.wrap .u8 c]) t
 rw [hz] at e
 rw [e, Pfi (by rw [hz]; omega), Ped (l := [IntKind.wrap .u8 c]) (i := 0) (by simp) (by simp only [List.getElem_cons_zero]; rw [Qrq h0 h1]; exact h0) (by simp only [List.getElem_cons_zero]; rw [Qrq h0 h1]; exact h1)]
 simp only [List.getElem_cons_zero]
 rw [Qrq h0 h1]
theorem Ppf {a : Int × Int × Int × Zb × Int × Int} (h : ansB a = true) : (0 ≤ a.1 ∧ a.1 ≤ 5) ∧ (0 ≤ a.2.1 ∧ a.2.1 ≤ 6) ∧ (0 ≤ a.2.2.1 ∧ a.2.2.1 ≤ 4) ∧ a.2.2.2.1.size ≤ 32 ∧ (0 ≤ a.2.2.2.2.1 ∧ a.2.2.2.2.1 ≤ 250) ∧ (0 ≤ a.2.2.2.2.2 ∧ a.2.2.2.2.2 ≤ 100000) := by
 have h := Pnp 0 a ▸ (show some (ansB a) = some true by rw [h])
 unfold Pcz.f at h
 simp only [l1, Zo] at h
 by_cases c1 : (decide (0 ≤ a.1) && decide (a.1 ≤ 5)) = true
 ·rw [c1] at h
  by_cases c2 : (decide (0 ≤ a.2.1) && decide (a.2.1 ≤ 6)) = true
  ·rw [c2] at h
   by_cases c3 : (decide (0 ≤ a.2.2.1) && decide (a.2.2.1 ≤ 4)) = true
   ·rw [c3] at h
    simp only [Zd, Zq] at c1 c2 c3
    refine ⟨c1, c2, c3, ?_⟩
    by_cases c4 : (a.2.2.2.1.size : Int) = 0
    ·simp only [c4, decide_true, Zy] at h
     cases c5 : (decide (0 ≤ a.2.2.2.2.1) && decide (a.2.2.2.2.1 ≤ 250)) with
     | false => rw [c5] at h; simp at h
     | true =>
      cases c6 : (decide (0 ≤ a.2.2.2.2.2) && decide (a.2.2.2.2.2 ≤ 100000)) with
      | false => rw [c5, c6] at h; simp at h
      | true =>
       simp only [Zd, Zq] at c5 c6
       exact ⟨by omega, c5, c6⟩
    ·by_cases c4' : (a.2.2.2.1.size : Int) = 32
     ·simp only [c4', decide_true, Zy] at h
      cases c5 : (decide (0 ≤ a.2.2.2.2.1) && decide (a.2.2.2.2.1 ≤ 250)) with
      | false => rw [c5] at h; simp at h
      | true =>
       cases c6 : (decide (0 ≤ a.2.2.2.2.2) && decide (a.2.2.2.2.2 ≤ 100000)) with
       | false => rw [c5, c6] at h; simp at h
       | true =>
        simp only [Zd, Zq] at c5 c6
        exact ⟨by omega, c5, c6⟩
     ·rw [Zf c4, Zf c4'] at h
      simp at h
   ·simp [Bool.not_eq_true _ ▸ c3] at h
  ·simp [Bool.not_eq_true _ ▸ c2] at h
 ·simp [Bool.not_eq_true _ ▸ c1] at h
theorem Pwv {a : Int × Int × Int × Zb × Int × Int} (h : ansB a = true) : ansT a = vv a.1 ++ (vv a.2.1 ++ (vv a.2.2.1 ++ (vv a.2.2.2.2.1 ++ (vv a.2.2.2.2.2 ++ a.2.2.2.1)))) := by
 unfold ansT; rw [if_pos h]; simp only [ByteArray.append_assoc]
theorem Pkt {a : Int × Int × Int × Zb × Int × Int} (h : ansB a = true) : 5 ≤ (ansT a).size ∧ (ansT a).size ≤ 67 := by
 obtain ⟨h1, h2, h3, h4, h5, h6⟩ := Ppf h
 obtain ⟨z1, z1', _⟩ := Pgz h1.1 (by omega)
 obtain ⟨z2, z2', _⟩ := Pgz h2.1 (by omega)
 obtain ⟨z3, z3', _⟩ := Pgz h3.1 (by omega)
 obtain ⟨z5, z5', _⟩ := Pgz h5.1 (by omega)
 obtain ⟨z6, z6', _⟩ := Pgz h6.1 (by omega)
 rw [Pwv h]
 simp only [Zs]; omega
theorem Pmz {k} (hk : Zk k) {a : Int × Int × Int × Zb × Int × Int} (h : ansB a = true) : Pdj.f k (ansT a) = some (a, true) := by
 obtain ⟨h1, h2, h3, h4, h5, h6⟩ := Ppf h
 obtain ⟨z1, z1', _⟩ := Pgz h1.1 (by omega)
 obtain ⟨z2, z2', _⟩ := Pgz h2.1 (by omega)
 obtain ⟨z3, z3', _⟩ := Pgz h3.1 (by omega)
 obtain ⟨z5, z5', _⟩ := Pgz h5.1 (by omega)
 obtain ⟨z6, z6', _⟩ := Pgz h6.1 (by omega)
 have hsm := Pkt h
 unfold Pdj.f
 have e := Pwv h
 have q1 : Pat.f k (ansT a, false) = some (a.1, vv a.2.1 ++ (vv a.2.2.1 ++ (vv a.2.2.2.2.1 ++ (vv a.2.2.2.2.2 ++ a.2.2.2.1))), false) := by
  rw [e]; exact Plu hk h1.1 (by omega) _ (by simp only [Zs]; omega)
 rw [q1]
 simp only [Zo]
 rw [Plu hk h2.1 (by omega) _ (by simp only [Zs]; omega)]
 simp only [Zo]
 rw [Plu hk h3.1 (by omega) _ (by simp only [Zs]; omega)]
 simp only [Zo]
 rw [Plu hk h5.1 (by omega) _ (by simp only [Zs]; omega)]
 simp only [Zo]
 rw [Plu hk h6.1 (by omega) _ (by omega)]
 simp only [Zo, Zz]
 have hne : ansT a ≠ ⟨#[]⟩ := fun he => by rw [he] at hsm; exact absurd hsm.1 (by decide)
 rw [Zf hne, Pnc hk (a.1, a.2.1, a.2.2.1, a.2.2.2.1, a.2.2.2.2.1, a.2.2.2.2.2) (by show a.2.2.2.1.size ≤ _; omega)]
 simp only [Zo, Prod.eta, Zz, decide_true, Zx]
theorem Psm {k} (hk : Zk k) {a : Int × Int × Int × Zb × Int × Int} (h : ansB a = true) : Pdn.f k (ansT a) = some (a, true) := by
 have hsm := Pkt h
 obtain ⟨r, h1, h2⟩ := Pkp hk (ansT a) (by omega)
 rw [Pmz hk h] at h2
 rw [h1, h2]
end S
namespace S
open Y V
def VerF (v : VerT) : Prop := v.1.size ≤ 250 ∧ v.2.1 = shaF v.1 ∧ 1 ≤ v.2.2 ∧ v.2.2 ≤ 4
def SesF (s : SesT) : Prop := (1 ≤ s.1 ∧ s.1 ≤ 6) ∧ (1 ≤ s.2.1 ∧ s.2.1 ≤ 1000000) ∧ ansB s.2.2 = true
theorem Pxa {s : Zb} (hs : s.size ≤ 1048576) (h : canB s = true) : s.size ≤ 250 := by
 obtain ⟨r, h1, h2⟩ := Plb (Nat.le_refl 9223372036854775808) s hs
 have h3 : r.2 = true := by unfold canB at h; rw [h1] at h; exact h
 obtain ⟨h4, h5⟩ := h2.1 h3
 have := Pjz h4
 rw [h5] at this; omega
theorem Poj {r : RegT} (hs : RegS r) (h : okR r = true) : (∀ v ∈ r.1, VerF v) ∧ (∀ a ∈ r.2.1, 0 ≤ a ∧ a ≤ 6) ∧ (∀ s ∈ r.2.2, SesF s) := by
 have hl := Pmq h
 unfold okR regB at h
 rw [if_neg (by omega), if_neg (by omega), if_neg (by omega)] at h
 simp only [Zd, List.all_eq_true, List.mem_range] at h
 obtain ⟨h1, h2, h3⟩ := h
 refine ⟨fun v hv => ?_, fun a ha => ?_, fun s hss => ?_⟩
 ·obtain ⟨i, hi, e⟩ := List.getElem_of_mem hv
  have := h1 i hi
  unfold specV verC at this
  rw [Zg hi, e] at this
  simp only [Zd, Zq] at this
  obtain ⟨⟨q1, q2, q3, q4⟩, _⟩ := this
  exact ⟨Pxa (hs v hv) q1, q2, q3, q4⟩
 ·obtain ⟨i, hi, e⟩ := List.getElem_of_mem ha
  have := h2 i hi
  unfold specA at this
  rw [Zg hi, e] at this
  simp only [Zd, Zq] at this
  omega
 ·obtain ⟨i, hi, e⟩ := List.getElem_of_mem hss
  have := h3 i hi
  unfold sesB at this
  rw [Zg hi, e] at this
  simp only [Zd, Zq] at this
  obtain ⟨q1, _, q3, q4⟩ := this
  exact ⟨q1, q3, q4⟩
theorem vv_le {n : Int} (h0 : 0 ≤ n) (h1 : n ≤ 562949953421311) : (vv n).size ≤ 7 := (Pgz h0 h1).2.1
theorem Pkc : ∀ {l : List VerT}, (∀ v ∈ l, VerF v) → (verT l).size ≤ 258 * l.length
 | [], _ => Nat.le_refl _
 | v :: l, h => by
  have h1 := Pkc fun x hx => h x (List.mem_cons_of_mem _ hx)
  obtain ⟨h2, _⟩ := h v (by simp)
  have h3 := vv_le (n := (v.1.size : Int)) (by omega) (by omega)
  simp only [verT, Zs, Pao, Zl, List.length_nil]; omega
theorem Pka : ∀ {l : List Int}, (∀ a ∈ l, 0 ≤ a ∧ a ≤ 6) → (numT l).size ≤ 7 * l.length
 | [], _ => Nat.le_refl _
 | v :: l, h => by
  have h1 := Pka fun x hx => h x (List.mem_cons_of_mem _ hx)
  have h2 := h v (by simp)
  have h3 := vv_le h2.1 (by omega)
  simp only [numT, Zs, Zl]; omega
theorem Pkb : ∀ {l : List SesT}, (∀ s ∈ l, SesF s) → (sesT l).size ≤ 88 * l.length
 | [], _ => Nat.le_refl _
 | s :: l, h => by
  have h1 := Pkb fun x hx => h x (List.mem_cons_of_mem _ hx)
  obtain ⟨h2, h3, h4⟩ := h s (by simp)
  have z1 := vv_le (n := s.1) (by omega) (by omega)
  have z2 := vv_le (n := s.2.1) (by omega) (by omega)
  have z3 := Pkt h4
  have z4 := vv_le (n := ((ansT s.2.2).size : Int)) (by omega) (by omega)
  simp only [sesT, Zs, Zl]; omega
def Z0 : RegT := ([], [], [])
theorem Pne {k} (hk : Zk k) (s : Zb) (n : Nat) (hn : n ≤ 1000) (A : List Int) (S : List SesT) (tail : Zb) (ht : tail.size ≤ 100000) : ∀ (l acc : List VerT) (i kk : Nat), (∀ v ∈ l, VerF v) → i + l.length = n → acc.length ≤ i → l.length < kk →
  iter (X := (Zb × Bool × RegT × U9 × RegT) ⊕ (RegT × Bool)) (Pag.b0 k) kk (s, false, (n : Int), (i : Int), Z0, (verT l ++ tail, false), acc, A, S) = some (.inl (s, false, Z0, (tail, false), acc ++ l, A, S))
 | [], acc, i, kk, _, hi, _, hkk => by
  obtain ⟨kk, rfl⟩ : ∃ m, kk = m + 1 := ⟨kk - 1, by omega⟩
  have e0 : verT [] ++ tail = tail := ByteArray.empty_append
  refine Pbc ?_
  unfold Pag.b0
  dsimp only
  simp only [List.length_nil] at hi
  rw [Zf (by omega), e0, List.append_nil]; rfl
 | v :: l, acc, i, kk, hv, hi, ha, hkk => by
  obtain ⟨kk, rfl⟩ : ∃ m, kk = m + 1 := ⟨kk - 1, by omega⟩
  obtain ⟨v1, v2, v3, v4⟩ := hv v (by simp)
  simp only [Zl] at hi hkk
  have hvl : ∀ v ∈ l, VerF v := fun x hx => hv x (by simp [hx])
  have hz := Pkc hvl
  have z1 := vv_le (n := (v.1.size : Int)) (by omega) (by omega)
  have e1 : verT (v :: l) ++ tail = strOfNums [IntKind.wrap .u8 v.2.2] ++ (vv v.1.size ++ (v.1 ++ (verT l ++ tail))) := by simp only [verT, ByteArray.append_assoc]
  have step : Pag.b0 k (s, false, (n : Int), (i : Int), Z0, (verT (v :: l) ++ tail, false), acc, A, S) = some (.inl (s, false, (n : Int), ((i + 1 : Nat) : Int), Z0, (verT l ++ tail, false), acc ++ [v], A, S)) := by
   unfold Pag.b0
   dsimp only
   rw [Zt (by omega), e1, Pbbk v.2.2 (by omega) (by omega) _ (by simp only [Zs]; omega)]
   simp only [Zy, Zo]
   rw [Pzg hk v.1 _ (by simp only [Zs]; omega)]
   simp only [Zo]
   rw [impl_sha hk _ (by omega)]
   simp only [Zo]
   rw [Qrr (by unfold limOf; simp; omega), Zw (n := (i : Int) + 1), ← v2]
   rfl
  rw [Pav step, Pne hk s n hn A S tail ht l (acc ++ [v]) (i + 1) kk hvl (by omega) (by simp; omega) (by omega), List.append_assoc]
  rfl
theorem Pna {k} (hk : Zk k) (s : Zb) (Vs : List VerT) (S : List SesT) (tail : Zb) (ht : tail.size ≤ 100000) : ∀ (l acc : List Int) (i kk : Nat), (∀ a ∈ l, 0 ≤ a ∧ a ≤ 6) → i + l.length = 3 → acc.length ≤ i → l.length < kk →
  iter (X := (Zb × Bool × RegT × U9 × RegT) ⊕ (RegT × Bool)) (Pag.b1 k) kk (s, false, (i : Int), Z0, (numT l ++ tail, false), Vs, acc, S) = some (.inl (s, false, Z0, (tail, false), Vs, acc ++ l, S))
 | [], acc, i, kk, _, hi, _, hkk => by
  obtain ⟨kk, rfl⟩ : ∃ m, kk = m + 1 := ⟨kk - 1, by omega⟩
  have e0 : numT [] ++ tail = tail := ByteArray.empty_append
  refine Pbc ?_
  unfold Pag.b1
  dsimp only
  simp only [List.length_nil] at hi
  rw [Zf (by omega), e0, List.append_nil]; rfl
 | a :: l, acc, i, kk, hv, hi, ha, hkk => by
  obtain ⟨kk, rfl⟩ : ∃ m, kk = m + 1 := ⟨kk - 1, by omega⟩
  have h1 := hv a (by simp)
  simp only [Zl] at hi hkk
  have hvl : ∀ v ∈ l, 0 ≤ v ∧ v ≤ 6 := fun x hx => hv x (by simp [hx])
  have hz := Pka hvl
  have e1 : numT (a :: l) ++ tail = vv a ++ (numT l ++ tail) := by simp only [numT, ByteArray.append_assoc]
  have step : Pag.b1 k (s, false, (i : Int), Z0, (numT (a :: l) ++ tail, false), Vs, acc, S) = some (.inl (s, false, ((i + 1 : Nat) : Int), Z0, (numT l ++ tail, false), Vs, acc ++ [a], S)) := by
   unfold Pag.b1
   dsimp only
   rw [Zt (by omega), e1, Plu hk h1.1 (by omega) _ (by simp only [Zs]; omega)]
   simp only [Zy, Zo]
   rw [Qrr (by unfold limOf; simp; omega), Zw (n := (i : Int) + 1)]
   rfl
  rw [Pav step, Pna hk s Vs S tail ht l (acc ++ [a]) (i + 1) kk hvl (by omega) (by simp; omega) (by omega), List.append_assoc]
  rfl
theorem Pnb {k} (hk : Zk k) (s : Zb) (n : Nat) (hn : n ≤ 1000) (Vs : List VerT) (A : List Int) : ∀ (l acc : List SesT) (i kk : Nat), (∀ v ∈ l, SesF v) → i + l.length = n → acc.length ≤ i → l.length < kk → l.length ≤ 1000 →
  iter (X := (Zb × Bool × RegT × U9 × RegT) ⊕ (RegT × Bool)) (Pag.b2 k) kk (s, false, (n : Int), (i : Int), Z0, (sesT l, false), Vs, A, acc) = some (.inl (s, false, Z0, (⟨#[]⟩, false), Vs, A, acc ++ l))
 | [], acc, i, kk, _, hi, _, hkk, _ => by
  obtain ⟨kk, rfl⟩ : ∃ m, kk = m + 1 := ⟨kk - 1, by omega⟩
  refine Pbc ?_
  unfold Pag.b2
  dsimp only
  simp only [List.length_nil] at hi
  rw [Zf (by omega), List.append_nil]; rfl
 | v :: l, acc, i, kk, hv, hi, ha, hkk, hl => by
  obtain ⟨kk, rfl⟩ : ∃ m, kk = m + 1 := ⟨kk - 1, by omega⟩
  obtain ⟨v1, v2, v3⟩ := hv v (by simp)
  simp only [Zl] at hi hkk hl
  have hvl : ∀ v ∈ l, SesF v := fun x hx => hv x (by simp [hx])
  have hz := Pkb hvl
  have z1 := vv_le (n := v.1) (by omega) (by omega)
  have z2 := vv_le (n := v.2.1) (by omega) (by omega)
  have z3 := Pkt v3
  have z4 := vv_le (n := ((ansT v.2.2).size : Int)) (by omega) (by omega)
  have step : Pag.b2 k (s, false, (n : Int), (i : Int), Z0, (sesT (v :: l), false), Vs, A, acc) = some (.inl (s, false, (n : Int), ((i + 1 : Nat) : Int), Z0, (sesT l, false), Vs, A, acc ++ [v])) := by
   unfold Pag.b2
   dsimp only
   simp only [sesT]
   rw [Zt (by omega), Plu hk (by omega) (by omega) _ (by simp only [Zs]; omega)]
   simp only [Zy, Zo]
   rw [Plu hk (by omega) (by omega) _ (by simp only [Zs]; omega)]
   simp only [Zo]
   rw [Pzg hk (ansT v.2.2) _ (by simp only [Zs]; omega)]
   simp only [Zo]
   rw [Pmz hk v3]
   simp only [Zo]
   rw [Qrr (by unfold limOf; simp; omega), Zw (n := (i : Int) + 1)]
   rfl
  rw [Pav step, Pnb hk s n hn Vs A l (acc ++ [v]) (i + 1) kk hvl (by omega) (by simp; omega) (by omega) (by omega), List.append_assoc]
  rfl
theorem Ptt {r : RegT} (h : okR r = true) : regT r = vv r.1.length ++ (verT r.1 ++ (numT r.2.1 ++ (vv r.2.2.length ++ sesT r.2.2))) := by unfold regT; rw [if_pos h]
theorem Psg {r : RegT} (hs : RegS r) (h : okR r = true) : 0 < (regT r).size ∧ (regT r).size ≤ 8000 := by
 obtain ⟨f1, f2, f3⟩ := Poj hs h
 obtain ⟨l1, l2, l3⟩ := Pmq h
 have a1 := Pkc f1
 have a2 := Pka f2
 have a3 := Pkb f3
 obtain ⟨a4, a4', _⟩ := Pgz (n := (r.1.length : Int)) (by omega) (by omega)
 have a5 := vv_le (n := (r.2.2.length : Int)) (by omega) (by omega)
 rw [Ptt h]
 simp only [Zs]; omega
theorem Pyf {k} (hk : Zk k) (n : Nat) (m : Int) (hn : n ≤ 1000) (hm : (n : Int) ≤ m) (t : Zb) (ht : t.size ≤ 1048000) : Pcc.f k (vv n ++ t, false) m = some ((n : Int), t, false) := by
 have := vv_le (n := (n : Int)) (by omega) (by omega)
 rw [Ptr hk _ _ (by rw [Zs]; omega), Pyi hk (by omega) (by omega) t (by omega), if_neg (fun h => h.elim (fun h => by simp only at h; omega) fun h => by cases h)]
theorem Prp {k} (hk : Zk k) (r : RegT) (hf : RegF r) (h : okR r = true) : Pag.f k (regT r) = some (r, true) := by
 obtain ⟨f1, f2, f3⟩ := Poj hf.1 h
 obtain ⟨l1, l2, l3⟩ := Pmq h
 have a1 := Pkc f1
 have a2 := Pka f2
 have a3 := Pkb f3
 have a5 := vv_le (n := (r.2.2.length : Int)) (by omega) (by omega)
 have hsz := Psg hf.1 h
 unfold Pag.f
 have q1 : Pcc.f k (regT r, false) 6 = some ((r.1.length : Int), verT r.1 ++ (numT r.2.1 ++ (vv r.2.2.length ++ sesT r.2.2)), false) := by
  rw [Ptt h]
  exact Pyf hk _ _ (by omega) (by omega) _ (by simp only [Zs]; omega)
 rw [q1]
 simp only [Zo]
 have e1 := Pne hk (regT r) r.1.length (by omega) [] [] (numT r.2.1 ++ (vv r.2.2.length ++ sesT r.2.2)) (by simp only [Zs]; omega) r.1 [] 0 k f1 (by omega) (by simp) (by omega)
 rw [show ((0 : Nat) : Int) = 0 from rfl] at e1
 unfold Z0 at e1
 rw [e1]
 simp only [Zo, List.nil_append]
 unfold Pag.d0
 dsimp only
 have e2 := Pna hk (regT r) r.1 [] (vv r.2.2.length ++ sesT r.2.2) (by simp only [Zs]; omega) r.2.1 [] 0 k f2 (by omega) (by simp) (by omega)
 rw [show ((0 : Nat) : Int) = 0 from rfl] at e2
 unfold Z0 at e2
 rw [e2]
 simp only [Zo, List.nil_append]
 unfold Pag.d1
 dsimp only
 rw [Pyf hk _ _ (by omega) (by omega) _ (by omega)]
 simp only [Zo]
 have e3 := Pnb hk (regT r) r.2.2.length (by omega) r.1 r.2.1 r.2.2 [] 0 k f3 (by omega) (by simp) (by omega) (by omega)
 rw [show ((0 : Nat) : Int) = 0 from rfl] at e3
 unfold Z0 at e3
 rw [e3]
 simp only [Zo, List.nil_append]
 unfold Pag.d2
 dsimp only
 have hne : regT r ≠ ⟨#[]⟩ := fun he => by rw [he] at hsz; exact absurd hsz.1 (by decide)
 rw [Zf hne, Prq hk (r.1, r.2.1, r.2.2) hf]
 simp only [Zo, Zz, Prod.eta, decide_true, Zx]
end S
namespace S
open Y V
theorem Pbbq (s : Zb) {a c : Nat} (h : a + c ≤ s.size) : (s.extract a s.size).extract 0 c = s.extract a (a + c) := by
 have hz : (s.extract a s.size).size = s.size - a := Pbb s (Nat.le_refl _)
 refine Pks (by rw [Pbb _ (by omega), Pbb _ h]; omega) fun i hi => ?_
 rw [Pbb _ (by omega)] at hi
 rw [Pck _ (by omega) (by omega), Pck _ (Nat.le_refl _) (by omega), Pck _ h (by omega)]
 congr 1; omega
theorem Pkn {k} (hk : Zk k) {n : Int} (h0 : 0 ≤ n) (h1 : n ≤ 562949953421311) (t : Zb) (ht : t.size ≤ 1048576) (d : Nat) : numN k (d + 1) (vv n ++ t) = (numN k d t).map fun p => (n :: p.1, p.2) := by
 have h := Pbbg hk h0 h1 t ht
 obtain ⟨z1, _⟩ := Pgz h0 h1
 simp only [numN]
 rw [h, if_neg (by simp only; omega)]
 simp only [Zn]
 rw [Pft]
theorem Pqz {k} (hk : Zk k) (s : Zb) (hs : s.size ≤ 1048576) (n : Nat) (hn : n ≤ 1000) (a : Nat) (ha : a ≤ s.size) {xs : List Int} {u : Zb} (h : numN k n (s.extract a s.size) = some (xs, u)) :
  ∃ a' : Nat, a ≤ a' ∧ a' ≤ s.size ∧ u = s.extract a' s.size ∧ Pbe.f k s (a : Int) (n : Int) = some (xs, (a' : Int)) := by
 have := Pra hk s (by omega) n hn a ha
 rw [h] at this
 exact this.2
theorem Pvd {k} (hk : Zk k) (s : Zb) (hs : s.size ≤ 1048576) (a : Nat) (ha : a ≤ s.size) {b t : Zb} (h : s.extract a s.size = vv b.size ++ (b ++ t)) :
  ∃ a' : Nat, a' ≤ s.size ∧ s.extract a' s.size = t ∧ Pdy.f k s (a : Int) = some (b, (a' : Int)) := by
 have hz := congrArg ByteArray.size h
 rw [Pbb _ (Nat.le_refl _)] at hz
 simp only [Zs] at hz
 have hn : numN k 1 (s.extract a s.size) = some ([(b.size : Int)], b ++ t) := by
  rw [h, Pkn hk (by omega) (by omega) _ (by rw [Zs]; omega)]; rfl
 obtain ⟨a1, h1, h2, h3, h4⟩ := Pqz hk s hs 1 (by omega) a ha hn
 rw [show ((1 : Nat) : Int) = 1 from rfl] at h4
 have hz1 := congrArg ByteArray.size h3
 rw [Pbb _ (Nat.le_refl _), Zs] at hz1
 refine ⟨a1 + b.size, by omega, ?_, ?_⟩
 ·rw [← Pjp s a1 h2 b.size (by omega), ← h3]
  exact Pft b t
 ·unfold Pdy.f
  rw [h4]
  simp only [Zo, Zl, List.length_nil]
  have i0 : inb? (0 + 1) 0 = some 0 := rfl
  rw [Zf (by omega), i0]
  simp only [Zz, Zo, List.getElem?_cons_zero]
  rw [Zw (n := (s.size : Int) - (a1 : Int)), Zf (by omega), Zw (n := (a1 : Int) + (b.size : Int)), Zc]
  simp only [Zz, Zo, Zn]
  rw [show ((a1 : Int) + (b.size : Int)).toNat = a1 + b.size by omega, ← Pbbq s (by omega), ← h3, Pnm]
  simp only [Zj, Prod.mk.injEq, true_and]; omega
abbrev ParT := Zb × Bool × Int × RegT × RegT
theorem Pnj {k} (hk : Zk k) (s : Zb) (hs : s.size ≤ 1048576) (A : List Int) (S : List SesT) (tail : Zb) : ∀ (l acc : List VerT) (a kk : Nat), (∀ v ∈ l, VerF v) → a ≤ s.size → s.extract a s.size = verT l ++ tail → acc.length + l.length ≤ 1000 → l.length < kk →
  ∃ a' : Nat, a' ≤ s.size ∧ s.extract a' s.size = tail ∧ iter (X := ParT ⊕ (RegT × Bool)) (Pan.b0 k) kk (s, false, (a : Int), (l.length : Int), Z0, acc, A, S) = some (.inl (s, false, (a' : Int), Z0, acc ++ l, A, S))
 | [], acc, a, kk, _, ha, he, _, hkk => by
  obtain ⟨kk, rfl⟩ : ∃ m, kk = m + 1 := ⟨kk - 1, by omega⟩
  have e0 : verT [] ++ tail = tail := ByteArray.empty_append
  refine ⟨a, ha, by rw [he, e0], Pbc ?_⟩
  unfold Pan.b0
  dsimp only
  rw [Zf (by simp), List.append_nil]; rfl
 | v :: l, acc, a, kk, hv, ha, he, hl, hkk => by
  obtain ⟨kk, rfl⟩ : ∃ m, kk = m + 1 := ⟨kk - 1, by omega⟩
  obtain ⟨v1, v2, v3, v4⟩ := hv v (by simp)
  simp only [Zl] at hl hkk
  have e1 : verT (v :: l) ++ tail = strOfNums [IntKind.wrap .u8 v.2.2] ++ (vv v.1.size ++ (v.1 ++ (verT l ++ tail))) := by simp only [verT, ByteArray.append_assoc]
  rw [e1] at he
  have hz1 : (strOfNums [IntKind.wrap .u8 v.2.2]).size = 1 := rfl
  have hz := congrArg ByteArray.size he
  rw [Pbb _ (Nat.le_refl _), Zs, hz1] at hz
  have he2 : s.extract (a + 1) s.size = vv v.1.size ++ (v.1 ++ (verT l ++ tail)) := by
   rw [← Pjp s a ha 1 (by omega), he]
   have := Pft (strOfNums [IntKind.wrap .u8 v.2.2]) (vv v.1.size ++ (v.1 ++ (verT l ++ tail)))
   rwa [hz1] at this
  have hb : Qmy s a = v.2.2 := by
   have h1 : Qmy (s.extract a s.size) 0 = Qmy s (a + 0) := Pck s (Nat.le_refl _) (by omega)
   rw [he, Pfi (by rw [hz1]; omega), Ped (l := [IntKind.wrap .u8 v.2.2]) (i := 0) (by simp) (by simp only [List.getElem_cons_zero]; rw [Qrq (by omega) (by omega)]; omega) (by simp only [List.getElem_cons_zero]; rw [Qrq (by omega) (by omega)]; omega)] at h1
   simp only [List.getElem_cons_zero] at h1
   rw [Qrq (by omega) (by omega)] at h1
   rw [← Nat.add_zero a, ← h1]
  obtain ⟨a1, p1, p2, p3⟩ := Pvd hk s hs (a + 1) (by omega) he2
  have step : Pan.b0 k (s, false, (a : Int), ((v :: l).length : Int), Z0, acc, A, S) = some (.inl (s, false, (a1 : Int), (l.length : Int), Z0, acc ++ [v], A, S)) := by
   unfold Pan.b0
   dsimp only
   simp only [Zl]
   rw [Zt (by omega), Zf (by omega), Zw (n := (a : Int) + 1)]
   rw [show (a : Int) + 1 = ((a + 1 : Nat) : Int) from rfl, p3]
   simp only [Zy, Zz, Zo]
   rw [Zf (by omega), spec_sha hk _ (by omega), Zi]
   simp only [Zz, Zo, Zn]
   rw [hb, Zw (n := v.2.2), Qrr (by unfold limOf; simp; omega), Zw, ← v2]
   simp only [Zo, Zj, Sum.inl.injEq, Prod.mk.injEq, true_and, and_true]
   omega
  obtain ⟨a', q1, q2, q3⟩ := Pnj hk s hs A S tail l (acc ++ [v]) a1 kk (fun x hx => hv x (by simp [hx])) p1 p2 (by simp; omega) (by omega)
  refine ⟨a', q1, q2, ?_⟩
  rw [Pav step, q3, List.append_assoc]; rfl
theorem Pnh {k} (hk : Zk k) (s : Zb) (hs : s.size ≤ 1048576) (Vs : List VerT) (A : List Int) : ∀ (l acc : List SesT) (a kk : Nat), (∀ v ∈ l, SesF v) → a ≤ s.size → s.extract a s.size = sesT l → acc.length + l.length ≤ 1000 → l.length < kk →
  iter (X := ParT ⊕ (RegT × Bool)) (Pan.b1 k) kk (s, false, (a : Int), (l.length : Int), Z0, Vs, A, acc) = some (.inl (s, false, (s.size : Int), Z0, Vs, A, acc ++ l))
 | [], acc, a, kk, _, ha, he, _, hkk => by
  obtain ⟨kk, rfl⟩ : ∃ m, kk = m + 1 := ⟨kk - 1, by omega⟩
  have hz := congrArg ByteArray.size he
  rw [Pbb _ (Nat.le_refl _)] at hz
  have h0 : (sesT []).size = 0 := rfl
  have ea : a = s.size := by omega
  refine Pbc ?_
  unfold Pan.b1
  dsimp only
  rw [Zf (by simp), List.append_nil, ea]; rfl
 | v :: l, acc, a, kk, hv, ha, he, hl, hkk => by
  obtain ⟨kk, rfl⟩ : ∃ m, kk = m + 1 := ⟨kk - 1, by omega⟩
  obtain ⟨v1, v2, v3⟩ := hv v (by simp)
  simp only [Zl] at hl hkk
  have hz := congrArg ByteArray.size he
  rw [Pbb _ (Nat.le_refl _)] at hz
  simp only [sesT, Zs] at hz
  have hn : numN k 2 (s.extract a s.size) = some ([v.1, v.2.1], vv (ansT v.2.2).size ++ (ansT v.2.2 ++ sesT l)) := by
   rw [he]
   simp only [sesT]
   rw [Pkn hk (by omega) (by omega) _ (by simp only [Zs]; omega), Pkn hk (by omega) (by omega) _ (by simp only [Zs]; omega)]
   rfl
  obtain ⟨a1, p1, p2, p3, p4⟩ := Pqz hk s hs 2 (by omega) a ha hn
  rw [show ((2 : Nat) : Int) = 2 from rfl] at p4
  obtain ⟨a2, q1, q2, q3⟩ := Pvd hk s hs a1 p2 p3.symm
  have step : Pan.b1 k (s, false, (a : Int), ((v :: l).length : Int), Z0, Vs, A, acc) = some (.inl (s, false, (a2 : Int), (l.length : Int), Z0, Vs, A, acc ++ [v])) := by
   unfold Pan.b1
   dsimp only
   simp only [Zl]
   rw [Zt (by omega), p4]
   simp only [Zy, Zo]
   rw [Zf (by omega), q3]
   simp only [Zz, Zo]
   rw [Psm hk v3]
   simp only [Zo]
   rw [Zf (by omega)]
   have i0 : inb? [v.1, v.2.1].length 0 = some 0 := rfl
   have i1 : inb? [v.1, v.2.1].length 1 = some 1 := rfl
   rw [i0, i1]
   simp only [Zz, Zx, Zo, List.getElem?_cons_zero, List.getElem?_cons_succ]
   rw [Qrr (by unfold limOf; simp; omega), Zw]
   simp only [Zo, Zj, Sum.inl.injEq, Prod.mk.injEq, true_and, and_true]
   omega
  rw [Pav step, Pnh hk s hs Vs A l (acc ++ [v]) a2 kk (fun x hx => hv x (by simp [hx])) q1 q2 (by simp; omega) (by omega), List.append_assoc]; rfl
theorem Psn {k} (hk : Zk k) (r : RegT) (hf : RegF r) (h : okR r = true) : Pem.f k (regT r) = some (r, true) := by
 obtain ⟨f1, f2, f3⟩ := Poj hf.1 h
 obtain ⟨l1, l2, l3⟩ := Pmq h
 have a1 := Pkc f1
 have a2 := Pka f2
 have a3 := Pkb f3
 have a5 := vv_le (n := (r.2.2.length : Int)) (by omega) (by omega)
 have hsz := Psg hf.1 h
 have hrt := Ptt h
 unfold Pem.f
 rw [Zf (by omega)]
 have hparse : Pan.f k (regT r) = some (r, true) := by
  have hshow := hrt
  generalize hs : regT r = s at hsz hshow
  unfold Pan.f
  have hN : Phh.f k = some ([], [0, 0, 0], []) := rfl
  rw [hN]
  simp only [Zo]
  have hn : numN k 1 (s.extract 0 s.size) = some ([(r.1.length : Int)], verT r.1 ++ (numT r.2.1 ++ (vv r.2.2.length ++ sesT r.2.2))) := by
   rw [Pqd, hshow, Pkn hk (by omega) (by omega) _ (by simp only [Zs]; omega)]; rfl
  obtain ⟨a1', p1, p2, p3, p4⟩ := Pqz hk s (by omega) 1 (by omega) 0 (by omega) hn
  rw [show ((1 : Nat) : Int) = 1 from rfl, show ((0 : Nat) : Int) = 0 from rfl] at p4
  rw [p4]
  simp only [Zo]
  have i0 : inb? [(r.1.length : Int)].length 0 = some 0 := rfl
  rw [Zf (by omega), i0]
  simp only [Zz, Zo, List.getElem?_cons_zero]
  rw [Zf (by omega)]
  simp only [Zz, Zo]
  obtain ⟨a2', q1, q2, q3⟩ := Pnj hk s (by omega) [0, 0, 0] [] (numT r.2.1 ++ (vv r.2.2.length ++ sesT r.2.2)) r.1 [] a1' k f1 p2 p3.symm (by simp; omega) (by omega)
  unfold Z0 at q3
  rw [q3]
  simp only [Zo, List.nil_append]
  unfold Pan.d0
  dsimp only
  obtain ⟨b1, b2, b3, hb⟩ : ∃ b1 b2 b3, r.2.1 = [b1, b2, b3] := by
   match hr : r.2.1, l2 with
   | [b1, b2, b3], _ => exact ⟨b1, b2, b3, rfl⟩
  have g1 := f2 b1 (by rw [hb]; simp)
  have g2 := f2 b2 (by rw [hb]; simp)
  have g3 := f2 b3 (by rw [hb]; simp)
  have z1 := vv_le g1.1 (by omega)
  have z2 := vv_le g2.1 (by omega)
  have z3 := vv_le g3.1 (by omega)
  have hn4 : numN k 4 (s.extract a2' s.size) = some ([b1, b2, b3, (r.2.2.length : Int)], sesT r.2.2) := by
   rw [q2, hb]
   have e0 : vv b3 ++ numT [] = vv b3 := Pln _
   simp only [numT, ByteArray.append_assoc]
   have e1 : (⟨#[]⟩ : Zb) ++ (vv r.2.2.length ++ sesT r.2.2) = vv r.2.2.length ++ sesT r.2.2 := ByteArray.empty_append
   rw [e1]
   rw [Pkn hk g1.1 (by omega) _ (by simp only [Zs]; omega), Pkn hk g2.1 (by omega) _ (by simp only [Zs]; omega), Pkn hk g3.1 (by omega) _ (by simp only [Zs]; omega), Pkn hk (by omega) (by omega) _ (by omega)]
   rfl
  obtain ⟨a3', t1, t2, t3, t4⟩ := Pqz hk s (by omega) 4 (by omega) a2' q1 hn4
  rw [show ((4 : Nat) : Int) = 4 from rfl] at t4
  rw [t4]
  simp only [Zo]
  have i3 : inb? [b1, b2, b3, (r.2.2.length : Int)].length 3 = some 3 := rfl
  have c3 : cut? [b1, b2, b3, (r.2.2.length : Int)].length 0 3 = some (0, 3) := rfl
  rw [Zf (by omega), i3, c3]
  simp only [Zz, Zo, List.getElem?_cons_zero, List.getElem?_cons_succ]
  rw [Zf (by omega), Qrr (by unfold limOf; simp)]
  simp only [Zz, Zo]
  have e3 := Pnh hk s (by omega) r.1 [b1, b2, b3] r.2.2 [] a3' k f3 t2 t3.symm (by simp; omega) (by omega)
  unfold Z0 at e3
  have e3' : iter (X := ParT ⊕ (RegT × Bool)) (Pan.b1 k) k (s, false, (a3' : Int), (r.2.2.length : Int), ([], [], []), r.1, [] ++ List.drop 0 (List.take 3 [b1, b2, b3, (r.2.2.length : Int)]), []) = some (.inl (s, false, (s.size : Int), ([], [], []), r.1, [b1, b2, b3], r.2.2)) := e3
  rw [e3']
  simp only [Zo]
  unfold Pan.d1
  dsimp only
  rw [Zt rfl, ← hb]
 rw [hparse]
 simp only [Zz, Zo, Zx]
 rw [Pso hk r hf]
 simp only [Zo, decide_true, Zx, Zz]
end S
namespace S
open Y V
theorem Pll {k} (hk : Zk k) (t : Zb) (ht : t.size ≤ 1048576) : 0 ≤ (rdv k t).1 ∧ 0 ≤ (rdv k t).2 ∧ (rdv k t).2 ≤ t.size := by
 rcases (Pgw hk t (by omega)).2.2 with e | ⟨h1, _, h2, _, h3, _⟩
 ·rw [e]; simp
 ·exact ⟨h1, by omega, h3⟩
theorem Puz {k} (hk : Zk k) : ∀ (d : Nat) (t : Zb) (p : List Int × Zb), t.size ≤ 1048576 → numN k d t = some p → ∀ x ∈ p.1, 0 ≤ x
 | 0, t, p, _, h => by simp only [numN, Zj] at h; subst h; simp
 | d + 1, t, p, ht, h => by
  unfold numN at h
  split at h
  ·cases h
  ·obtain ⟨q, hq, rfl⟩ := Option.map_eq_some_iff.1 h
   have hv := Pll hk t ht
   have := Puz hk d _ q (by rw [ByteArray.size_extract]; omega) hq
   intro x hx
   rcases List.mem_cons.1 hx with rfl | hx
   ·exact hv.1
   ·exact this x hx
theorem Pmg {k} (hk : Zk k) (s : Zb) (hs : s.size ≤ 1048576) (n : Nat) (hn : n ≤ 1000) (a : Nat) (ha : a ≤ s.size) :
  ∃ l c, Pbe.f k s (a : Int) (n : Int) = some (l, c) ∧ (c = -1 ∨ (l.length = n ∧ (∀ x ∈ l, 0 ≤ x) ∧ ∃ a' : Nat, c = (a' : Int) ∧ a' ≤ s.size)) := by
 have := Pra hk s (by omega) n hn a ha
 cases hm : numN k n (s.extract a s.size) with
 | none => rw [hm] at this; obtain ⟨l', h⟩ := this; exact ⟨l', -1, h, .inl rfl⟩
 | some p =>
  rw [hm] at this
  obtain ⟨h1, a', h2, h3, h4, h5⟩ := this
  exact ⟨p.1, a', h5, .inr ⟨h1, Puz hk n _ p (by rw [Pbb _ (Nat.le_refl _)]; omega) hm, a', rfl, h3⟩⟩
theorem Psa {k} (hk : Zk k) (s : Zb) (hs : s.size ≤ 1048576) (a : Nat) (ha : a ≤ s.size) :
  ∃ b c, Pdy.f k s (a : Int) = some (b, c) ∧ b.size ≤ s.size ∧ (c = -1 ∨ ∃ a' : Nat, c = (a' : Int) ∧ a' ≤ s.size) := by
 obtain ⟨l, c, h1, h2⟩ := Pmg hk s hs 1 (by omega) a ha
 rw [show ((1 : Nat) : Int) = 1 from rfl] at h1
 unfold Pdy.f
 rw [h1]
 simp only [Zo]
 rcases h2 with rfl | ⟨h3, h4, a', rfl, h5⟩
 ·exact ⟨⟨#[]⟩, -1, rfl, by show (0 : Nat) ≤ _; omega, .inl rfl⟩
 ·obtain ⟨x, rfl⟩ : ∃ x, l = [x] := by
   match l, h3 with
   | [x], _ => exact ⟨x, rfl⟩
  have hx := h4 x (by simp)
  have i0 : inb? [x].length 0 = some 0 := rfl
  rw [Zf (by omega), i0]
  simp only [Zz, Zo, List.getElem?_cons_zero]
  rw [Zw (n := (s.size : Int) - (a' : Int))]
  by_cases hc : (s.size : Int) - (a' : Int) < x
  ·rw [Zt hc]; exact ⟨⟨#[]⟩, -1, rfl, by show (0 : Nat) ≤ _; omega, .inl rfl⟩
  ·rw [Zf hc, Zw (n := (a' : Int) + x), Zc]
   simp only [Zz, Zo]
   exact ⟨_, _, rfl, by rw [ByteArray.size_extract]; omega, .inr ⟨((a' : Int) + x).toNat, by omega, by omega⟩⟩
theorem Pww {k} (hk : Zk k) (t : Zb) (ht : t.size ≤ 1048576) : ∃ a b, Pdn.f k t = some (a, b) ∧ Pdj.f k t = some (a, b) ∧ a.2.2.2.1.size ≤ 1048576 := by
 obtain ⟨r, h1, h2⟩ := Pkp hk t ht
 refine ⟨r.1, r.2, h1, h2, ?_⟩
 unfold Pdn.f at h1
 obtain ⟨l, c, h3, h4⟩ := Pmg hk t ht 5 (by omega) 0 (by omega)
 rw [show ((5 : Nat) : Int) = 5 from rfl, show ((0 : Nat) : Int) = 0 from rfl] at h3
 rw [h3] at h1
 simp only [Zo] at h1
 rcases h4 with rfl | ⟨h5, h6, a', rfl, h7⟩
 ·rw [Zt (by omega)] at h1
  cases h1; show (0 : Nat) ≤ _; omega
 ·obtain ⟨x1, x2, x3, x4, x5, rfl⟩ := len5 h5
  have i0 : inb? [x1, x2, x3, x4, x5].length 0 = some 0 := rfl
  have i1 : inb? [x1, x2, x3, x4, x5].length 1 = some 1 := rfl
  have i2 : inb? [x1, x2, x3, x4, x5].length 2 = some 2 := rfl
  have i3 : inb? [x1, x2, x3, x4, x5].length 3 = some 3 := rfl
  have i4 : inb? [x1, x2, x3, x4, x5].length 4 = some 4 := rfl
  rw [Zf (by omega), i0, i1, i2, i3, i4, Zc] at h1
  simp only [Zz, Zo, List.getElem?_cons_zero, List.getElem?_cons_succ] at h1
  have hz : (t.extract ((a' : Int)).toNat ((t.size : Int)).toNat).size ≤ 1048576 := by rw [ByteArray.size_extract]; omega
  rw [Pkr hk _ hz] at h1
  simp only [Zo] at h1
  generalize ansT (x1, x2, x3, t.extract ((a' : Int)).toNat ((t.size : Int)).toNat, x4, x5) = q at h1
  cases hd : decide (q = t) with
  | true => rw [hd] at h1; cases h1; exact hz
  | false => rw [hd] at h1; cases h1; show (0 : Nat) ≤ _; omega
theorem Pql {k} (hk : Zk k) (t : Zb) (b : Bool) (ht : t.size ≤ 1048576) : ∃ n t' b', Pat.f k (t, b) = some (n, t', b') ∧ 0 ≤ n ∧ t'.size ≤ t.size := by
 refine ⟨(numP k t b).1, (numP k t b).2.1, (numP k t b).2.2, Pko hk t b (by omega), ?_, Pjt k t b⟩
 unfold numP
 split
 ·simp
 ·exact (Pll hk t ht).1
theorem Pux {k} (hk : Zk k) (t : Zb) (b : Bool) (ht : t.size ≤ 1048576) (m : Nat) : ∃ (n : Nat) (t' : Zb) (b' : Bool), Pcc.f k (t, b) (m : Int) = some ((n : Int), t', b') ∧ n ≤ m ∧ t'.size ≤ t.size := by
 have h0 : 0 ≤ (numP k t b).1 := by
  unfold numP
  split
  ·simp
  ·exact (Pll hk t ht).1
 rw [Ptr hk t b ht]
 have hz := Pjt k t b
 by_cases h : (m : Int) < (numP k t b).1 ∨ (numP k t b).2.2 = true
 ·rw [if_pos h]; exact ⟨0, _, _, rfl, by omega, hz⟩
 ·rw [if_neg h]
  exact ⟨(numP k t b).1.toNat, (numP k t b).2.1, (numP k t b).2.2, by rw [Int.toNat_of_nonneg h0], by omega, hz⟩
theorem Pvp {k} (hk : Zk k) (t : Zb) (b : Bool) (ht : t.size ≤ 1048576) : ∃ x t' b', Pds.f k (t, b) = some (x, t', b') ∧ x.size ≤ t.size ∧ t'.size ≤ t.size := by
 obtain ⟨n, t1, b1, h1, h2, h3⟩ := Pql hk t b ht
 unfold Pds.f
 rw [h1]
 simp only [Zo]
 rw [Pxd k t1 b1 n h2]
 simp only [Zo]
 split
 ·exact ⟨_, _, _, rfl, by show (0 : Nat) ≤ _; omega, h3⟩
 ·split
  ·exact ⟨_, _, _, rfl, by show (0 : Nat) ≤ _; omega, h3⟩
  ·exact ⟨_, _, _, rfl, by rw [ByteArray.size_extract]; omega, by rw [ByteArray.size_extract]; omega⟩
theorem Pzt {k : Nat} (t : Zb) (b : Bool) (ht : t.size ≤ 1048576) : ∃ x t' b', Pcs.f k (t, b) = some (x, t', b') ∧ t'.size ≤ t.size := by
 rw [Pwz t b ht]
 split
 ·exact ⟨_, _, _, rfl, Nat.le_refl _⟩
 ·exact ⟨_, _, _, rfl, by rw [ByteArray.size_extract]; omega⟩
theorem Pto {k} (hk : Zk k) (s : Zb) (n : Nat) (hn : n ≤ 1000) (A : List Int) (S : List SesT) (t : Zb) (b : Bool) (ht : t.size ≤ 1048576) :
  ∃ t' b' acc, iter (X := (Zb × Bool × RegT × U9 × RegT) ⊕ (RegT × Bool)) (Pag.b0 k) k (s, false, (n : Int), 0, Z0, (t, b), [], A, S) = some (.inl (s, false, Z0, (t', b'), acc, A, S)) ∧ t'.size ≤ 1048576 ∧ acc.length ≤ 1000 ∧ ∀ v ∈ acc, v.1.size ≤ 1048576 := by
 obtain ⟨x, hx, t', b', acc, rfl, h1, h2, h3⟩ := Qor (B := Pag.b0 k) (X := (Zb × Bool × RegT × U9 × RegT) ⊕ (RegT × Bool))
  (fun st => ∃ (i : Nat) (t : Zb) (b : Bool) (acc : List VerT), st = (s, false, (n : Int), (i : Int), Z0, (t, b), acc, A, S) ∧ i ≤ n ∧ t.size ≤ 1048576 ∧ acc.length ≤ i ∧ ∀ v ∈ acc, v.1.size ≤ 1048576) (fun st => n - st.2.2.2.1.toNat)
  (fun x => ∃ t' b' acc, x = .inl (s, false, Z0, (t', b'), acc, A, S) ∧ t'.size ≤ 1048576 ∧ acc.length ≤ 1000 ∧ ∀ v ∈ acc, v.1.size ≤ 1048576) (fun st hst => by
   obtain ⟨i, t, b, acc, rfl, hi, ht, ha, hv⟩ := hst
   unfold Pag.b0
   dsimp only
   by_cases hlt : i < n
   ·rw [Zt (by omega)]
    obtain ⟨x1, t1, b1, e1, z1⟩ := Pzt (k := k) t b ht
    obtain ⟨x2, t2, b2, e2, z2, z3⟩ := Pvp hk t1 b1 (by omega)
    rw [e1]
    simp only [Zy, Zo]
    rw [e2]
    simp only [Zo]
    rw [impl_sha hk _ (by omega)]
    simp only [Zo]
    rw [Qrr (by unfold limOf; simp; omega), Zw (n := (i : Int) + 1)]
    refine .inl ⟨_, rfl, ⟨i + 1, t2, b2, _, rfl, by omega, by omega, by simp; omega, fun v hm => ?_⟩, ?_⟩
    ·rcases List.mem_append.1 hm with hm | hm
     ·exact hv v hm
     ·rw [List.mem_singleton.1 hm]; show x2.size ≤ _; omega
    ·show n - ((i : Int) + 1).toNat < n - ((i : Int)).toNat; omega
   ·rw [Zf (by omega)]
    exact .inr ⟨_, rfl, t, b, acc, rfl, ht, by omega, hv⟩) k (s, false, (n : Int), 0, Z0, (t, b), [], A, S) ⟨0, t, b, [], rfl, by omega, ht, by simp, by simp⟩ (by show n - (0 : Int).toNat < k; omega)
 exact ⟨t', b', acc, hx, h1, h2, h3⟩
theorem Ptk {k} (hk : Zk k) (s : Zb) (Vs : List VerT) (S : List SesT) (t : Zb) (b : Bool) (ht : t.size ≤ 1048576) :
  ∃ t' b' acc, iter (X := (Zb × Bool × RegT × U9 × RegT) ⊕ (RegT × Bool)) (Pag.b1 k) k (s, false, 0, Z0, (t, b), Vs, [], S) = some (.inl (s, false, Z0, (t', b'), Vs, acc, S)) ∧ t'.size ≤ 1048576 ∧ acc.length ≤ 1000 := by
 obtain ⟨x, hx, t', b', acc, rfl, h1, h2⟩ := Qor (B := Pag.b1 k) (X := (Zb × Bool × RegT × U9 × RegT) ⊕ (RegT × Bool))
  (fun st => ∃ (i : Nat) (t : Zb) (b : Bool) (acc : List Int), st = (s, false, (i : Int), Z0, (t, b), Vs, acc, S) ∧ i ≤ 3 ∧ t.size ≤ 1048576 ∧ acc.length ≤ i) (fun st => 3 - st.2.2.1.toNat)
  (fun x => ∃ t' b' acc, x = .inl (s, false, Z0, (t', b'), Vs, acc, S) ∧ t'.size ≤ 1048576 ∧ acc.length ≤ 1000) (fun st hst => by
   obtain ⟨i, t, b, acc, rfl, hi, ht, ha⟩ := hst
   unfold Pag.b1
   dsimp only
   by_cases hlt : i < 3
   ·rw [Zt (by omega)]
    obtain ⟨x1, t1, b1, e1, _, z1⟩ := Pql hk t b ht
    rw [e1]
    simp only [Zy, Zo]
    rw [Qrr (by unfold limOf; simp; omega), Zw (n := (i : Int) + 1)]
    refine .inl ⟨_, rfl, ⟨i + 1, t1, b1, _, rfl, by omega, by omega, by simp; omega⟩, ?_⟩
    show 3 - ((i : Int) + 1).toNat < 3 - ((i : Int)).toNat; omega
   ·rw [Zf (by omega)]
    exact .inr ⟨_, rfl, t, b, acc, rfl, ht, by omega⟩) k (s, false, 0, Z0, (t, b), Vs, [], S) ⟨0, t, b, [], rfl, by omega, ht, by simp⟩ (by show 3 - (0 : Int).toNat < k; omega)
 exact ⟨t', b', acc, hx, h1, h2⟩
theorem Ptn {k} (hk : Zk k) (s : Zb) (n : Nat) (hn : n ≤ 1000) (Vs : List VerT) (A : List Int) (t : Zb) (b : Bool) (ht : t.size ≤ 1048576) :
  ∃ t' b' acc, iter (X := (Zb × Bool × RegT × U9 × RegT) ⊕ (RegT × Bool)) (Pag.b2 k) k (s, false, (n : Int), 0, Z0, (t, b), Vs, A, []) = some (.inl (s, false, Z0, (t', b'), Vs, A, acc)) ∧ acc.length ≤ 1000 ∧ ∀ v ∈ acc, v.2.2.2.2.2.1.size ≤ 1048576 := by
 obtain ⟨x, hx, t', b', acc, rfl, h2, h3⟩ := Qor (B := Pag.b2 k) (X := (Zb × Bool × RegT × U9 × RegT) ⊕ (RegT × Bool))
  (fun st => ∃ (i : Nat) (t : Zb) (b : Bool) (acc : List SesT), st = (s, false, (n : Int), (i : Int), Z0, (t, b), Vs, A, acc) ∧ i ≤ n ∧ t.size ≤ 1048576 ∧ acc.length ≤ i ∧ ∀ v ∈ acc, v.2.2.2.2.2.1.size ≤ 1048576) (fun st => n - st.2.2.2.1.toNat)
  (fun x => ∃ t' b' acc, x = .inl (s, false, Z0, (t', b'), Vs, A, acc) ∧ acc.length ≤ 1000 ∧ ∀ v ∈ acc, v.2.2.2.2.2.1.size ≤ 1048576) (fun st hst => by
   obtain ⟨i, t, b, acc, rfl, hi, ht, ha, hv⟩ := hst
   unfold Pag.b2
   dsimp only
   by_cases hlt : i < n
   ·rw [Zt (by omega)]
    obtain ⟨x1, t1, b1, e1, _, z1⟩ := Pql hk t b ht
    obtain ⟨x2, t2, b2, e2, _, z2⟩ := Pql hk t1 b1 (by omega)
    obtain ⟨x3, t3, b3, e3, z3, z4⟩ := Pvp hk t2 b2 (by omega)
    obtain ⟨a, ok, _, e4, z5⟩ := Pww hk x3 (by omega)
    rw [e1]
    simp only [Zy, Zo]
    rw [e2]
    simp only [Zo]
    rw [e3]
    simp only [Zo]
    rw [e4]
    simp only [Zo]
    rw [Qrr (by unfold limOf; simp; omega), Zw (n := (i : Int) + 1)]
    refine .inl ⟨_, rfl, ⟨i + 1, t3, b3, _, rfl, by omega, by omega, by simp; omega, fun v hm => ?_⟩, ?_⟩
    ·rcases List.mem_append.1 hm with hm | hm
     ·exact hv v hm
     ·rw [List.mem_singleton.1 hm]; exact z5
    ·show n - ((i : Int) + 1).toNat < n - ((i : Int)).toNat; omega
   ·rw [Zf (by omega)]
    exact .inr ⟨_, rfl, t, b, acc, rfl, by omega, hv⟩) k (s, false, (n : Int), 0, Z0, (t, b), Vs, A, []) ⟨0, t, b, [], rfl, by omega, ht, by simp, by simp⟩ (by show n - (0 : Int).toNat < k; omega)
 exact ⟨t', b', acc, hx, h2, h3⟩
def RegR (s : Zb) (r : RegT × Bool) : Prop := (r.2 = true → RegF r.1 ∧ okR r.1 = true ∧ regT r.1 = s) ∧ (r.2 = false → r = (Z0, false))
theorem Pbbh {r : RegT} {s : Zb} (h : regT r = s) (hs : s ≠ ⟨#[]⟩) : okR r = true := by
 cases ho : okR r with
 | true => rfl
 | false => exact absurd (by rw [← h]; unfold regT; rw [ho]; rfl) hs
theorem Ptl {k} (hk : Zk k) (s : Zb) (hs : s.size ≤ 1048576) : ∃ r, Pag.f k s = some r ∧ RegR s r := by
 unfold Pag.f
 obtain ⟨n, t1, b1, e1, hn, z1⟩ := Pux hk s false hs 6
 rw [show ((6 : Nat) : Int) = 6 from rfl] at e1
 rw [e1]
 simp only [Zo]
 obtain ⟨t2, b2, vs, e2, z2, hv1, hv2⟩ := Pto hk s n (by omega) [] [] t1 b1 (by omega)
 unfold Z0 at e2
 rw [e2]
 simp only [Zo]
 unfold Pag.d0
 dsimp only
 obtain ⟨t3, b3, ac, e3, z3, ha⟩ := Ptk hk s vs [] t2 b2 z2
 unfold Z0 at e3
 rw [e3]
 simp only [Zo]
 unfold Pag.d1
 dsimp only
 obtain ⟨m, t4, b4, e4, hm, z4⟩ := Pux hk t3 b3 z3 6
 rw [show ((6 : Nat) : Int) = 6 from rfl] at e4
 rw [e4]
 simp only [Zo]
 obtain ⟨t5, b5, ss, e5, hs1, hs2⟩ := Ptn hk s m (by omega) vs ac t4 b4 (by omega)
 unfold Z0 at e5
 rw [e5]
 simp only [Zo]
 unfold Pag.d2
 dsimp only
 cases b5 with
 | true => exact ⟨_, rfl, fun h => (by cases h), fun _ => rfl⟩
 | false =>
  simp only [Zz]
  by_cases h0 : s = ⟨#[]⟩
  ·rw [Zt h0]; exact ⟨_, rfl, fun h => (by cases h), fun _ => rfl⟩
  rw [Zf h0]
  have hf : RegF (vs, ac, ss) := ⟨hv2, by show vs.length ≤ _; omega, by show ac.length ≤ _; omega, by show ss.length ≤ _; omega, hs2⟩
  rw [Prq hk _ hf]
  simp only [Zz, Zo]
  by_cases hc : regT (vs, ac, ss) = s
  ·rw [Zt hc]; exact ⟨_, rfl, fun _ => ⟨hf, Pbbh hc h0, hc⟩, fun h => by cases h⟩
  ·rw [Zf hc]; exact ⟨_, rfl, fun h => (by cases h), fun _ => rfl⟩
theorem Pub {k} (hk : Zk k) (s : Zb) (hs : s.size ≤ 1048576) (A : List Int) (S : List SesT) (a n : Nat) (ha : a ≤ s.size) (hn : n ≤ 1000) :
  ∃ x, iter (X := ParT ⊕ (RegT × Bool)) (Pan.b0 k) k (s, false, (a : Int), (n : Int), Z0, [], A, S) = some x ∧ ((∃ q, x = .inr (q, false)) ∨ ∃ (a' : Nat) (acc : List VerT), x = .inl (s, false, (a' : Int), Z0, acc, A, S) ∧ a' ≤ s.size ∧ acc.length ≤ 1000 ∧ ∀ v ∈ acc, v.1.size ≤ 1048576) := by
 refine Qor (B := Pan.b0 k) (X := ParT ⊕ (RegT × Bool))
  (fun st => ∃ (i a : Nat) (acc : List VerT), st = (s, false, (a : Int), (i : Int), Z0, acc, A, S) ∧ i ≤ n ∧ a ≤ s.size ∧ acc.length + i ≤ n ∧ ∀ v ∈ acc, v.1.size ≤ 1048576) (fun st => st.2.2.2.1.toNat) _ (fun st hst => ?_) k _ ⟨n, a, [], rfl, by omega, ha, by simp, by simp⟩ (by show ((n : Int)).toNat < k; omega)
 obtain ⟨i, a, acc, rfl, hi, ha, hac, hv⟩ := hst
 unfold Pan.b0
 dsimp only
 by_cases h0 : 0 < i
 ·rw [Zt (by omega)]
  by_cases hsz : s.size ≤ a
  ·rw [Zt (by omega)]; exact .inr ⟨_, rfl, .inl ⟨_, rfl⟩⟩
  rw [Zf (by omega), Zw (n := (a : Int) + 1)]
  obtain ⟨b, c, e1, z1, hc⟩ := Psa hk s hs (a + 1) (by omega)
  rw [show (a : Int) + 1 = ((a + 1 : Nat) : Int) from rfl, e1]
  simp only [Zy, Zz, Zo]
  rcases hc with rfl | ⟨a', rfl, ha'⟩
  ·exact .inr ⟨_, rfl, .inl ⟨_, rfl⟩⟩
  rw [Zf (by omega), spec_sha hk _ (by omega), Zi]
  simp only [Zz, Zo]
  rw [Qrr (by unfold limOf; simp; omega), Zw (n := (i : Int) - 1)]
  refine .inl ⟨_, rfl, ⟨i - 1, a', _, by rw [show ((i - 1 : Nat) : Int) = (i : Int) - 1 by omega], by omega, ha', by simp; omega, fun v hm => ?_⟩, ?_⟩
  ·rcases List.mem_append.1 hm with hm | hm
   ·exact hv v hm
   ·rw [List.mem_singleton.1 hm]; show b.size ≤ _; omega
  ·show ((i : Int) - 1).toNat < ((i : Int)).toNat; omega
 ·rw [Zf (by omega)]
  exact .inr ⟨_, rfl, .inr ⟨a, acc, rfl, ha, by omega, hv⟩⟩
theorem Pua {k} (hk : Zk k) (s : Zb) (hs : s.size ≤ 1048576) (Vs : List VerT) (A : List Int) (a n : Nat) (ha : a ≤ s.size) (hn : n ≤ 1000) :
  ∃ x, iter (X := ParT ⊕ (RegT × Bool)) (Pan.b1 k) k (s, false, (a : Int), (n : Int), Z0, Vs, A, []) = some x ∧ ((∃ q, x = .inr (q, false)) ∨ ∃ (a' : Nat) (acc : List SesT), x = .inl (s, false, (a' : Int), Z0, Vs, A, acc) ∧ acc.length ≤ 1000 ∧ ∀ v ∈ acc, v.2.2.2.2.2.1.size ≤ 1048576) := by
 refine Qor (B := Pan.b1 k) (X := ParT ⊕ (RegT × Bool))
  (fun st => ∃ (i a : Nat) (acc : List SesT), st = (s, false, (a : Int), (i : Int), Z0, Vs, A, acc) ∧ i ≤ n ∧ a ≤ s.size ∧ acc.length + i ≤ n ∧ ∀ v ∈ acc, v.2.2.2.2.2.1.size ≤ 1048576) (fun st => st.2.2.2.1.toNat) _ (fun st hst => ?_) k _ ⟨n, a, [], rfl, by omega, ha, by simp, by simp⟩ (by show ((n : Int)).toNat < k; omega)
 obtain ⟨i, a, acc, rfl, hi, ha, hac, hv⟩ := hst
 unfold Pan.b1
 dsimp only
 by_cases h0 : 0 < i
 ·rw [Zt (by omega)]
  obtain ⟨l, c, e1, h2⟩ := Pmg hk s hs 2 (by omega) a ha
  rw [show ((2 : Nat) : Int) = 2 from rfl] at e1
  rw [e1]
  simp only [Zy, Zo]
  rcases h2 with rfl | ⟨h3, _, a1, rfl, h5⟩
  ·exact .inr ⟨_, rfl, .inl ⟨_, rfl⟩⟩
  obtain ⟨x1, x2, rfl⟩ := len2 h3
  rw [Zf (by omega)]
  obtain ⟨b, c, e2, z1, hc⟩ := Psa hk s hs a1 h5
  obtain ⟨an, ok, e3, _, z3⟩ := Pww hk b (by omega)
  rw [e2]
  simp only [Zz, Zo]
  rw [e3]
  simp only [Zo]
  rcases hc with rfl | ⟨a', rfl, ha'⟩
  ·exact .inr ⟨_, rfl, .inl ⟨_, rfl⟩⟩
  rw [Zf (by omega)]
  cases ok with
  | false => exact .inr ⟨_, rfl, .inl ⟨_, rfl⟩⟩
  | true =>
   have i0 : inb? [x1, x2].length 0 = some 0 := rfl
   have i1 : inb? [x1, x2].length 1 = some 1 := rfl
   rw [i0, i1]
   simp only [Zz, Zx, Zo, List.getElem?_cons_zero, List.getElem?_cons_succ]
   rw [Qrr (by unfold limOf; simp; omega), Zw (n := (i : Int) - 1)]
   refine .inl ⟨_, rfl, ⟨i - 1, a', _, by rw [show ((i - 1 : Nat) : Int) = (i : Int) - 1 by omega], by omega, ha', by simp; omega, fun v hm => ?_⟩, ?_⟩
   ·rcases List.mem_append.1 hm with hm | hm
    ·exact hv v hm
    ·rw [List.mem_singleton.1 hm]; exact z3
   ·show ((i : Int) - 1).toNat < ((i : Int)).toNat; omega
 ·rw [Zf (by omega)]
  exact .inr ⟨_, rfl, .inr ⟨a, acc, rfl, by omega, hv⟩⟩
theorem Ptx {k} (hk : Zk k) (s : Zb) (hs : s.size ≤ 1048576) : ∃ q b, Pan.f k s = some (q, b) ∧ (b = true → RegF q) := by
 unfold Pan.f
 have hN : Phh.f k = some ([], [0, 0, 0], []) := rfl
 rw [hN]
 simp only [Zo]
 obtain ⟨l, c, e1, h2⟩ := Pmg hk s hs 1 (by omega) 0 (by omega)
 rw [show ((1 : Nat) : Int) = 1 from rfl, show ((0 : Nat) : Int) = 0 from rfl] at e1
 rw [e1]
 simp only [Zo]
 rcases h2 with rfl | ⟨h3, h4, a1, rfl, h5⟩
 ·exact ⟨_, _, rfl, fun h => by cases h⟩
 obtain ⟨x, rfl⟩ : ∃ x, l = [x] := by
  match l, h3 with
  | [x], _ => exact ⟨x, rfl⟩
 have hx := h4 x (by simp)
 have i0 : inb? [x].length 0 = some 0 := rfl
 rw [Zf (by omega), i0]
 simp only [Zz, Zo, List.getElem?_cons_zero]
 by_cases h6 : 6 < x
 ·rw [Zt h6]; exact ⟨_, _, rfl, fun h => by cases h⟩
 rw [Zf h6]
 simp only [Zz]
 obtain ⟨y, ey, hy⟩ := Pub hk s hs [0, 0, 0] [] a1 x.toNat h5 (by omega)
 rw [Int.toNat_of_nonneg hx] at ey
 unfold Z0 at ey
 rw [ey]
 simp only [Zo]
 rcases hy with ⟨q, rfl⟩ | ⟨a2, vs, rfl, z2, hv1, hv2⟩
 ·exact ⟨_, _, rfl, fun h => by cases h⟩
 simp only
 unfold Pan.d0
 dsimp only
 obtain ⟨l4, c4, e4, h24⟩ := Pmg hk s hs 4 (by omega) a2 z2
 rw [show ((4 : Nat) : Int) = 4 from rfl] at e4
 rw [e4]
 simp only [Zo]
 rcases h24 with rfl | ⟨h34, h44, a3, rfl, h54⟩
 ·exact ⟨_, _, rfl, fun h => by cases h⟩
 obtain ⟨b1, b2, b3, b4, rfl⟩ : ∃ b1 b2 b3 b4, l4 = [b1, b2, b3, b4] := by
  match l4, h34 with
  | [b1, b2, b3, b4], _ => exact ⟨b1, b2, b3, b4, rfl⟩
 have hb4 := h44 b4 (by simp)
 have i3 : inb? [b1, b2, b3, b4].length 3 = some 3 := rfl
 have c3 : cut? [b1, b2, b3, b4].length 0 3 = some (0, 3) := rfl
 rw [Zf (by omega), i3, c3]
 simp only [Zz, Zo, List.getElem?_cons_zero, List.getElem?_cons_succ]
 by_cases h6 : 6 < b4
 ·rw [Zt h6]; exact ⟨_, _, rfl, fun h => by cases h⟩
 rw [Zf h6, Qrr (by unfold limOf; simp)]
 simp only [Zz, Zo]
 obtain ⟨y2, ey2, hy2⟩ := Pua hk s hs vs [b1, b2, b3] a3 b4.toNat h54 (by omega)
 rw [Int.toNat_of_nonneg hb4] at ey2
 have ey3 : iter (X := ParT ⊕ (RegT × Bool)) (Pan.b1 k) k (s, false, (a3 : Int), b4, Z0, vs, [] ++ List.drop 0 (List.take 3 [b1, b2, b3, b4]), []) = some y2 := ey2
 rw [ey3]
 simp only [Zo]
 rcases hy2 with ⟨q, rfl⟩ | ⟨a4, ss, rfl, hs1, hs2⟩
 ·exact ⟨_, _, rfl, fun h => by cases h⟩
 ·exact ⟨_, _, rfl, fun _ => ⟨hv2, by show vs.length ≤ _; omega, by show (3 : Nat) ≤ _; omega, by show ss.length ≤ _; omega, hs2⟩⟩
theorem Pty {k} (hk : Zk k) (s : Zb) (hs : s.size ≤ 1048576) : ∃ r, Pem.f k s = some r ∧ RegR s r := by
 unfold Pem.f
 by_cases h8 : 8000 < s.size
 ·rw [Zt (by omega)]; exact ⟨_, rfl, fun h => (by cases h), fun _ => rfl⟩
 rw [Zf (by omega)]
 obtain ⟨q, b, e1, hq⟩ := Ptx hk s hs
 rw [e1]
 simp only [Zz, Zo]
 cases b with
 | false => exact ⟨_, rfl, fun h => (by cases h), fun _ => rfl⟩
 | true =>
  have hf := hq rfl
  simp only [Zx, Zz]
  rw [Pso hk q hf]
  simp only [Zo]
  by_cases h0 : s = ⟨#[]⟩
  ·exfalso
   subst h0
   have hn := Pra hk (⟨#[]⟩ : Zb) (by decide) 1 (by omega) 0 (by decide)
   have e : (⟨#[]⟩ : Zb).extract 0 (⟨#[]⟩ : Zb).size = ⟨#[]⟩ := Pqd _
   rw [e] at hn
   have hnn : numN k 1 (⟨#[]⟩ : Zb) = none := by unfold numN; rw [if_pos (Psc hk)]
   rw [hnn] at hn
   obtain ⟨l', hl'⟩ := hn
   rw [show ((1 : Nat) : Int) = 1 from rfl, show ((0 : Nat) : Int) = 0 from rfl] at hl'
   unfold Pan.f at e1
   rw [show Phh.f k = some ([], [0, 0, 0], []) from rfl] at e1
   simp only [Zo] at e1
   rw [hl'] at e1
   simp only [Zo] at e1
   rw [Zt (by omega)] at e1
   simp at e1
  by_cases hc : regT q = s
  ·rw [Zt hc]; exact ⟨_, rfl, fun _ => ⟨hf, Pbbh hc h0, hc⟩, fun h => by cases h⟩
  ·rw [Zf hc]; exact ⟨_, rfl, fun h => (by cases h), fun _ => rfl⟩
theorem Psd {k} (hk : Zk k) (s : Zb) (hs : s.size ≤ 1048576) : ∃ r, Pem.f k s = some r ∧ Pag.f k s = some r ∧ RegR s r := by
 obtain ⟨r, h1, h2⟩ := Pty hk s hs
 obtain ⟨r', h3, h4⟩ := Ptl hk s hs
 suffices r = r' by subst this; exact ⟨r, h1, h3, h2⟩
 cases hr : r.2 with
 | true =>
  obtain ⟨f1, f2, f3⟩ := h2.1 hr
  have := Prp hk r.1 f1 f2
  rw [f3, h3] at this
  rw [Option.some.inj this, ← hr]
 | false =>
  cases hr' : r'.2 with
  | true =>
   obtain ⟨f1, f2, f3⟩ := h4.1 hr'
   have := Psn hk r'.1 f1 f2
   rw [f3, h1] at this
   rw [Option.some.inj this] at hr
   cases hr
  | false => rw [h2.2 hr, h4.2 hr']
end S
namespace N
open W W2 V Y
abbrev EntT := Int × Zb
theorem Pog {α : Type} [DecidableEq α] {a b : List α} (h : a.length = b.length) : (List.range a.length).all (fun i => decide (a[i]? = b[i]?)) = decide (a = b) := by
 rw [Bool.eq_iff_iff, Pcp, Zq]
 constructor
 ·intro hp
  apply List.ext_getElem?
  intro i
  by_cases hi : i < a.length
  ·simpa using hp i hi
  ·rw [List.getElem?_eq_none (by omega), List.getElem?_eq_none (by omega)]
 ·rintro rfl i _
  simp
theorem Pxf (x y : EntT) : (decide (x.1 = y.1) && (decide (x.2 = y.2) && true)) = decide (x = y) := by
 rw [Bool.eq_iff_iff]; simp [Prod.ext_iff]
theorem Pbao {k} (hk : Zk k) (a b : List EntT) (ha : a.length ≤ 1048576) : Pbg.f k a b = some (decide (a = b)) := by
 unfold Pbg.f
 by_cases hl : a.length = b.length
 rotate_left
 ·rw [Zf (show ¬ (a.length : Int) = (b.length : Int) by omega), Zf (fun e => hl (by rw [e]))]; rfl
 rw [Zt (show (a.length : Int) = (b.length : Int) by omega), ← Pog hl]
 have key := Pjh (B := Pbg.b0 k) a.length (fun i => (a, b, false, (i : Int))) (fun i => decide (a[i]? = b[i]?)) (.inl false) (.inr false) (fun i hi => by
  have hb : i < b.length := by omega
  have e1 : decide ((i : Int) < (a.length : Int)) = true := by simp; omega
  have e2 : inb? a.length (i : Int) = some i := by rw [Zi, Zn]
  have e3 : inb? b.length (i : Int) = some i := by rw [Zi, Zn]
  unfold Pbg.b0
  dsimp only
  simp (disch := omega) only [e1, Zy, e2, e3, Zo, Zg hi, Zg hb, Zv, Pxf, Zj]
  cases decide (a[i] = b[i]) <;> rfl) (by
  have e1 : decide ((a.length : Int) < (a.length : Int)) = false := by simp
  unfold Pbg.b0
  dsimp only
  rw [e1]; rfl) k (by omega)
 have e0 : ((0 : Nat) : Int) = 0 := rfl
 simp only [e0] at key
 rw [key]
 cases (List.range a.length).all (fun i => decide (a[i]? = b[i]?)) <;> rfl
theorem Pzz {k} (hk : Zk k) (a b : List EntT) (ha : a.length ≤ 1048576) : Pbl.f k a b = some (decide (a = b)) := by
 unfold Pbl.f
 by_cases hl : a.length = b.length
 rotate_left
 ·rw [Zf (show ¬ (a.length : Int) = (b.length : Int) by omega), Zf (fun e => hl (by rw [e]))]; rfl
 rw [Zt (show (a.length : Int) = (b.length : Int) by omega), ← Pog hl]
 have key := Pjh (B := Pbl.b0 k) a.length (fun i => (a, b, false, (a.length : Int), (i : Int))) (fun i => decide (a[i]? = b[i]?)) (.inl false) (.inr false) (fun i hi => by
  have hb : i < b.length := by omega
  have e1 : decide ((i : Int) < (a.length : Int)) = true := by simp; omega
  have e2 : inb? a.length (i : Int) = some i := by rw [Zi, Zn]
  have e3 : inb? b.length (i : Int) = some i := by rw [Zi, Zn]
  unfold Pbl.b0
  dsimp only
  simp (disch := omega) only [e1, Zy, e2, e3, Zo, Zg hi, Zg hb, Zv, Pxf, Zj]
  cases decide (a[i] = b[i]) <;> rfl) (by
  have e1 : decide ((a.length : Int) < (a.length : Int)) = false := by simp
  unfold Pbl.b0
  dsimp only
  rw [e1]; rfl) k (by omega)
 have e0 : ((0 : Nat) : Int) = 0 := rfl
 simp only [e0] at key
 rw [key]
 cases (List.range a.length).all (fun i => decide (a[i]? = b[i]?)) <;> rfl
abbrev NodeT := Int × Int × Bool × CoreT × S.RegT × SnapT × DiskT × Int × Int × Int
structure NodeS (n : NodeT) : Prop where
 core : coreS n.2.2.2.1
 reg : S.RegS n.2.2.2.2.1
 r1 : n.2.2.2.2.1.1.length ≤ 1048576
 r2 : n.2.2.2.2.1.2.1.length ≤ 1048576
 r3 : n.2.2.2.2.1.2.2.length ≤ 1048576
 r4 : ∀ s ∈ n.2.2.2.2.1.2.2, s.2.2.2.2.2.1.size ≤ 1048576
 snap : n.2.2.2.2.2.1.2.2.size ≤ 1048576
 disk : Small n.2.2.2.2.2.2.1
theorem ands (b c : Bool) : (bif b then some c else some false : Option Bool) = some (b && c) := by cases b <;> rfl
theorem Pvv {k} (hk : Zk k) (a b : WalT) (ha : a.2.2.2.2.length ≤ 1048576) : ∃ q, Pfb.f k a b = some q ∧ Pfe.f k a b = some q ∧ q = (decide (a.1 = b.1) && (decide (a.2.1 = b.2.1) && (decide (a.2.2.1 = b.2.2.1) && (decide (a.2.2.2.1 = b.2.2.2.1) && decide (a.2.2.2.2 = b.2.2.2.2))))) := by
 unfold Pfb.f Pfe.f
 rw [Pbao hk _ _ ha, Pzz hk _ _ ha]
 simp only [Zo, ands]
 exact ⟨_, rfl, rfl, rfl⟩
def walOf (c : CoreT) : WalT := (c.2.2.1, c.2.2.2.1, c.2.2.2.2.2.2.1, c.2.2.2.2.2.2.2.1, c.2.2.2.2.2.2.2.2.1)
theorem Pbas {k : Nat} (c : CoreT) (h : coreS c) : Pfl.f k c = some (walOf c) := by
 unfold Pfl.f
 rw [Qrr (by have := h.1; simp [limOf]; omega)]; rfl
theorem Puu {k : Nat} (c : CoreT) (h : coreS c) : Pdi.f k c = some (walOf c) := by
 unfold Pdi.f Pbh.f
 rw [Qrr (by have := h.1; simp [limOf]; omega)]; rfl
theorem Pzo {k} (hk : Zk k) (n : NodeT) (h : NodeS n) : ∃ q, Pic.f k n = some q ∧ ((Pgm.f k n.2.2.2.1).bind fun r2 => bif r2 then ((Pho.f k n.2.2.2.2.1).bind fun r3 => bif r3 then (bif (decide (n.2.2.2.2.2.1.1 = 0) && (decide (n.2.2.2.2.2.1.2.1 = 0) && (decide (n.2.2.2.2.2.1.2.2 = (⟨#[]⟩ : Zb)) && true))) then (some (decide (n.2.2.2.2.2.2.2.1 = (-1)))) else (some false)) else (some false)) else (some false)) = some (q && decide (n.2.2.2.2.2.2.2.1 = (-1))) := by
 obtain ⟨a1, a2, a3, a4⟩ := h.core
 have r1 := h.r1
 have r2 := h.r2
 have r3 := h.r3
 unfold Pic.f Pgm.f Pho.f
 obtain ⟨q, _, e, eq⟩ := Pvv hk (walOf n.2.2.2.1) (0, 0, 0, 0, []) a1
 rw [Puu _ h.core]
 simp only [Zo]
 rw [e]
 simp only [Zo, ands]
 rw [Zw (n := (n.2.2.2.1.2.2.2.2.2.2.2.2.2.2.1.length : Int) + (n.2.2.2.1.2.2.2.2.2.2.2.2.2.2.2.1.length : Int)), Zw, Zw (n := (n.2.2.2.2.1.1.length : Int) + (n.2.2.2.2.1.2.1.length : Int)), Zw]
 refine ⟨_, rfl, ?_⟩
 rw [Zj, Bool.eq_iff_iff]
 subst eq
 dsimp only [walOf]
 have hnil : ∀ l : List U2, l = [] ↔ (l.length : Int) = 0 := fun l => by cases l <;> simp <;> omega
 simp only [Zd, Zq, and_true, walOf, hnil]
 constructor
 ·rintro ⟨⟨h1, h2, ⟨h3, h4, h5, h6, h7⟩, h8, h9, h10, h11⟩, h12, ⟨h13, h14, h15⟩, h16⟩
  refine ⟨⟨h1, h2, of_decide_eq_true h3, of_decide_eq_true h4, h8, h9, of_decide_eq_true h5, of_decide_eq_true h6, h7, h10, by omega, by omega, by omega, by omega, by omega, by omega, h13, h14, h15⟩, h16⟩
 ·rintro ⟨⟨h1, h2, h3, h4, h8, h9, h5, h6, h7, h10, g1, g2, g3, g4, g5, g6, h13, h14, h15⟩, h16⟩
  exact ⟨⟨h1, h2, ⟨Zt h3, Zt h4, Zt h5, Zt h6, h7⟩, h8, h9, h10, by omega⟩, by omega, ⟨h13, h14, h15⟩, h16⟩
theorem Pbcb {k} (hk : Zk k) (n : NodeT) (h : NodeS n) (z : Bool) : ∃ q, Pcu.c0 k (z, n.1, n.2.1, true, n.2.2.2) = some q ∧ Pet.f k (n.1, n.2.1, true, n.2.2.2) = some q := by
 obtain ⟨g1, g2⟩ := S.Pve hk n.2.2.2.2.1 h.reg h.r1 h.r2 h.r3
 obtain ⟨rr, t1, t2, t3⟩ := S.Psd hk n.2.2.2.2.2.1.2.2 h.snap
 obtain ⟨kk, v1, v2, v3⟩ := T.Psf hk h.disk
 obtain ⟨q, w1, w2, _⟩ := Pvv hk kk.1.1 (walOf n.2.2.2.1) (by omega)
 have last : ∀ z, Pcu.c1 k (z, (n.1, n.2.1, true, n.2.2.2), n.2.2.2.1) = Pet.c0 k (z, (n.1, n.2.1, true, n.2.2.2), n.2.2.2.1) ∧ ∃ q, Pet.c0 k (z, (n.1, n.2.1, true, n.2.2.2), n.2.2.2.1) = some q := fun z => by
  unfold Pcu.c1 Pet.c0
  dsimp only
  rw [v1, v2]
  simp only [Zo]
  rw [Pbas _ h.core, Puu _ h.core]
  simp only [Zo]
  rw [w1, w2]
  simp only [Zo, ands]
  exact ⟨by first | rfl | trivial, _, rfl⟩
 unfold Pcu.c0 Pet.f
 dsimp only
 rw [Pban hk _ h.core, Pzy hk _ h.core, g1, g2, Pvk, Pus, t1, t2]
 simp only [Zo, Zx, Zz]
 cases coreB n.2.2.2.1 with
 | false => exact ⟨_, rfl, rfl⟩
 | true =>
 simp only [Zx, Zz]
 cases decide (n.2.2.2.1.1 = n.1) with
 | false => exact ⟨_, rfl, rfl⟩
 | true =>
 simp only [Zx, Zz]
 cases decide (n.2.2.2.1.2.1 = n.2.1) with
 | false => exact ⟨_, rfl, rfl⟩
 | true =>
 simp only [Zx, Zz]
 cases S.regB S.specV S.specA n.2.2.2.2.1 with
 | false => exact ⟨_, rfl, rfl⟩
 | true =>
 simp only [Zx, Zz]
 cases hB : snapB n.2.2.2.2.2.1 with
 | false => exact ⟨_, rfl, rfl⟩
 | true =>
 simp only [Zx, Zz]
 cases decide (n.2.2.2.2.2.1.1 = n.2.2.2.1.2.2.2.2.2.2.1) with
 | false => exact ⟨_, rfl, rfl⟩
 | true =>
 simp only [Zx, Zz]
 cases decide (n.2.2.2.2.2.1.2.1 = n.2.2.2.1.2.2.2.2.2.2.2.1) with
 | false => exact ⟨_, rfl, rfl⟩
 | true =>
 simp only [Zx, Zz]
 unfold snapB at hB
 obtain ⟨l1, q1, l2⟩ := last z
 obtain ⟨l3, q3, l4⟩ := last false
 have hz : Pet.c0 k (z, (n.1, n.2.1, true, n.2.2.2), n.2.2.2.1) = Pet.c0 k (false, (n.1, n.2.1, true, n.2.2.2), n.2.2.2.1) := rfl
 by_cases h0 : n.2.2.2.2.2.1.1 = 0
 ·rw [if_pos h0] at hB
  simp only [Zd] at hB
  rw [Zf (show ¬ 0 < n.2.2.2.2.2.1.1 by omega), Zt h0, hB.1, hB.2]
  simp only [Zz, Bool.and_self, Zx, Zo]
  rw [l1, hz, l4]
  refine ⟨_, rfl, ?_⟩
  cases rr.2 <;> exact l4
 ·rw [if_neg h0] at hB
  simp only [Zd, Zq] at hB
  rw [Zt (show 0 < n.2.2.2.2.2.1.1 by omega), Zf h0]
  simp only [Zy, Bool.false_and, Bool.not_false]
  cases rr.2 with
  | false => exact ⟨_, rfl, rfl⟩
  | true =>
   simp only [Zx, Zz, Zo]
   rw [l1, hz]
   exact ⟨_, l4, l4⟩
theorem Pyh {k} (hk : Zk k) (n : NodeT) (h : NodeS n) : ∃ q, Pcu.f k n = some q ∧ Pep.f k n = some q := by
 unfold Pcu.f Pep.f Pjs.f
 simp only [V.l1, W.Pcr, Zo]
 cases h1 : (decide (1 ≤ n.2.1) && decide (n.2.1 ≤ 5)) with
 | false => exact ⟨_, rfl, rfl⟩
 | true =>
 simp only [Zx, Zz]
 cases (decide (0 ≤ n.1) && decide (n.1 ≤ Zr (n.2.1 - 1))) with
 | false => exact ⟨_, rfl, rfl⟩
 | true =>
 simp only [Zx, Zz]
 rw [Pvj hk _ h.disk, Pxm hk _ h.disk, ← Pnv]
 simp only [Zo]
 cases diskS n.2.2.2.2.2.2.1 with
 | false => exact ⟨_, rfl, rfl⟩
 | true =>
 simp only [Zx, Zz]
 cases (decide (-1 ≤ n.2.2.2.2.2.2.2.1) && decide (n.2.2.2.2.2.2.2.1 ≤ 100)) with
 | false => exact ⟨_, rfl, rfl⟩
 | true =>
 simp only [Zx, Zz]
 cases h5 : (decide (0 ≤ n.2.2.2.2.2.2.2.2.1) && decide (n.2.2.2.2.2.2.2.2.1 ≤ 20)) with
 | false => exact ⟨_, rfl, rfl⟩
 | true =>
 simp only [Zx, Zz, Zy]
 cases h6 : (decide (0 ≤ n.2.2.2.2.2.2.2.2.2) && decide (n.2.2.2.2.2.2.2.2.2 ≤ 1048576)) with
 | false => exact ⟨_, rfl, rfl⟩
 | true =>
 simp only [Zd, Zq] at h5 h6
 have last : ∃ q, Pcu.c0 k (false, n) = some q ∧ Pep.c0 k (false, n) = some q := by
  unfold Pep.c0
  cases hu : n.2.2.1 with
  | true =>
   have e : n = (n.1, n.2.1, true, n.2.2.2) := by rw [← hu]
   obtain ⟨q, u1, u2⟩ := Pbcb hk n h false
   rw [← e] at u1 u2
   dsimp only
   simp only [Zy, u2, Zo]
   exact ⟨_, u1, rfl⟩
  | false =>
   obtain ⟨q, u1, u2⟩ := Pzo hk n h
   unfold Pcu.c0
   dsimp only
   rw [hu]
   simp only [Bool.not_false, Zy, Zz]
   rw [u1]
   simp only [Zo, ands] at u2 ⊢
   exact ⟨_, rfl, u2⟩
 simp only [Zx, Zz, Zo]
 by_cases c1 : n.2.2.2.2.2.2.2.1 = -1
 ·rw [Zt c1, Zw]
  simp only [Zy]
  by_cases c2 : n.2.2.2.2.2.2.2.2.1 = 0
  ·by_cases c3 : n.2.2.2.2.2.2.2.2.2 = 0
   ·rw [Zt c2, Zt c3, Zt (show n.2.2.2.2.2.2.2.2.1 + n.2.2.2.2.2.2.2.2.2 = 0 by omega)]
    exact last
   ·rw [Zt c2, Zf c3, Zf (show ¬ n.2.2.2.2.2.2.2.2.1 + n.2.2.2.2.2.2.2.2.2 = 0 by omega)]
    exact ⟨_, rfl, rfl⟩
  ·rw [Zf c2, Zf (show ¬ n.2.2.2.2.2.2.2.2.1 + n.2.2.2.2.2.2.2.2.2 = 0 by omega)]
   exact ⟨_, rfl, rfl⟩
 ·rw [Zf c1]
  exact last
end N
namespace N
open W W2 V Y
abbrev NodeK : CK := (.pair (.int .i64) (.pair (.int .i64) (.pair .bool (.pair (.pair (.int .i64) (.pair (.int .i64) (.pair (.int .i64) (.pair (.int .i64) (.pair (.int .i64) (.pair (.int .i64) (.pair (.int .i64) (.pair (.int .i64) (.pair (.sl 189 (.pair (.int .i64) .str)) (.pair (.int .i64) (.pair (.sl 3 (.int .i64)) (.pair (.sl 3 (.int .i64)) (.sl 3 (.int .i64)))))))))))))) (.pair (.pair (.sl 191 (.pair .str (.pair .str (.int .i64)))) (.pair (.sl 3 (.int .i64)) (.sl 195 (.pair (.int .i64) (.pair (.int .i64) (.pair (.int .i64) (.pair (.int .i64) (.pair (.int .i64) (.pair .str (.pair (.int .i64) (.int .i64))))))))))) (.pair (.pair (.int .i64) (.pair (.int .i64) .str)) (.pair (.pair (.int .i64) (.pair (.int .i64) (.pair (.sl 197 (.pair (.int .i64) (.pair .str (.int .i64)))) (.pair (.sl 199 (.pair .str (.int .i64))) (.sl 201 (.pair (.int .i64) (.pair .str (.pair .str (.int .i64))))))))) (.pair (.int .i64) (.pair (.int .i64) (.int .i64))))))))))
theorem neg_f {n : Int} (h : 0 ≤ n) : decide (n < 0) = false := by simp; omega
theorem Pqt {α : Type} {f : α → Nat} {l : List α} {x : α} (h : x ∈ l) : f x ≤ (l.map f).sum := by
 induction l with
 | nil => simp at h
 | cons y l ih =>
  rw [List.map_cons, List.sum_cons]
  rcases List.mem_cons.1 h with rfl | h
  ·omega
  ·have := ih h; omega
theorem Pbby {k} (hk : Zk k) (n : NodeT) (hw : WfT NodeK n) : ∃ v, Phf.f k n 1048576 = some v ∧ (v = -1 ∨ (0 ≤ v ∧ NodeS n)) := by
 obtain ⟨v, hv, hv2⟩ := Pze hk n hw.2.2.2.1.2.2.2.2.2.2.2.2.1.1 (fun x hx => (hw.2.2.2.1.2.2.2.2.2.2.2.2.1.2 x hx).2) hw.2.2.2.1.2.2.2.2.2.2.2.2.2.2.1.1 hw.2.2.2.1.2.2.2.2.2.2.2.2.2.2.2.1.1 hw.2.2.2.1.2.2.2.2.2.2.2.2.2.2.2.2.1 hw.2.2.2.2.1.1.1 (fun x hx => ⟨(hw.2.2.2.2.1.1.2 x hx).1, (hw.2.2.2.2.1.1.2 x hx).2.1⟩) hw.2.2.2.2.1.2.1.1 hw.2.2.2.2.1.2.2.1 (fun x hx => (hw.2.2.2.2.1.2.2.2 x hx).2.2.2.2.2.1) hw.2.2.2.2.2.1.2.2 hw.2.2.2.2.2.2.1.2.2.1.1 (fun x hx => (hw.2.2.2.2.2.2.1.2.2.1.2 x hx).2.1) hw.2.2.2.2.2.2.1.2.2.2.1.1 (fun x hx => (hw.2.2.2.2.2.2.1.2.2.2.1.2 x hx).1) hw.2.2.2.2.2.2.1.2.2.2.2.1 (fun x hx => ⟨(hw.2.2.2.2.2.2.1.2.2.2.2.2 x hx).2.1, (hw.2.2.2.2.2.2.1.2.2.2.2.2 x hx).2.2.1⟩) 1048576 (by omega) (by omega)
 refine ⟨v, hv, hv2.imp id fun ⟨a, b⟩ => ⟨a, ?_⟩⟩
 have e : amtI n.2.2.2.2.2.2.1.2.2.1 = (List.map (fun x : Int × U1 => x.2.1.size) n.2.2.2.2.2.2.1.2.2.1).sum := rfl
 refine ⟨⟨by omega, by omega, by omega, by omega⟩, fun x hx => ?_, by omega, by omega, by omega, fun x hx => ?_, by omega, ⟨by omega, by omega, by omega, by omega, fun x hx => ?_, fun x hx => ?_⟩⟩
 ·have := Pqt (f := fun x : U6 => x.1.size + x.2.1.size) hx
  omega
 ·have := Pqt (f := fun x : U3 => x.2.2.2.2.2.1.size) hx
  omega
 ·have := Pqt (f := fun x : U1 => x.1.size) hx
  omega
 ·have := Pqt (f := fun x : Int × U6 => x.2.1.size + x.2.2.1.size) hx
  omega
theorem Pbbz {k} (hk : Zk k) {n : NodeT} (h : NodeS n) : Pfk.f k n = some n := Pzl hk n h.core.1 h.core.2.1 h.core.2.2.1 h.core.2.2.2 h.r1 h.r2 h.r3 h.disk.ino h.disk.dir h.disk.mov
structure NodeF (n : NodeT) : Prop where
 c1 : n.2.2.2.1.2.2.2.2.2.2.2.2.1.length ≤ 4194304
 c2 : n.2.2.2.1.2.2.2.2.2.2.2.2.2.2.1.length ≤ 4194304
 c3 : n.2.2.2.1.2.2.2.2.2.2.2.2.2.2.2.1.length ≤ 4194304
 c4 : n.2.2.2.1.2.2.2.2.2.2.2.2.2.2.2.2.length ≤ 4194304
 r1 : n.2.2.2.2.1.1.length ≤ 4194304
 r2 : n.2.2.2.2.1.2.1.length ≤ 4194304
 r3 : n.2.2.2.2.1.2.2.length ≤ 4194304
 d1 : n.2.2.2.2.2.2.1.2.2.1.length ≤ 4194304
 d2 : n.2.2.2.2.2.2.1.2.2.2.1.length ≤ 4194304
 d3 : n.2.2.2.2.2.2.1.2.2.2.2.length ≤ 4194304
theorem NodeS.fits {n : NodeT} (h : NodeS n) : NodeF n := by
 obtain ⟨a1, a2, a3, a4⟩ := h.core
 have b1 := h.r1
 have b2 := h.r2
 have b3 := h.r3
 have d1 := h.disk.ino
 have d2 := h.disk.dir
 have d3 := h.disk.mov
 exact ⟨by omega, by omega, by omega, by omega, by omega, by omega, by omega, by omega, by omega, by omega⟩
theorem Pbbp {k} (hk : Zk k) {n : NodeT} (h : NodeF n) : Phe.f k n n = some true := by
 obtain ⟨a1, a2, a3, a4, b1, b2, b3, d1, d2, d3⟩ := h
 exact Pte hk n (by omega) (by omega) (by omega) (by omega) (by omega) (by omega) (by omega) (by omega) (by omega) (by omega)
theorem Pwf (n : NodeT) (hw : WfT NodeK n) : ∃ k, Pek.f k n = some true := by
 refine ⟨9223372036854775808, ?_⟩
 have hk : 9223372036854775808 ≤ 9223372036854775808 := Nat.le_refl _
 obtain ⟨v, hv, hv2⟩ := Pbby hk n hw
 unfold Pek.f
 simp only [hv, Zo]
 rcases hv2 with rfl | ⟨h0, hs⟩
 ·rfl
 obtain ⟨q, h1, h2⟩ := Pyh hk n hs
 simp only [neg_f h0, Zz, Pbbz hk hs, h1, h2, Zo, Pbbp hk hs.fits, decide_true, Zx]
end N
end Go.Proofs.YtbkcbfkehncocaaGreatDoor.Rx
