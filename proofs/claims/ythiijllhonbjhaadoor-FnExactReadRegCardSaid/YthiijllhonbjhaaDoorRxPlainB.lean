/- The digest is the same on both sides. No condition beside those that each theorem states. -/
import Derived.Test.YthiijllhonbjhaaDoorRxPlainA
set_option linter.unusedVariables false
set_option linter.unusedSimpArgs false
namespace Go.Proofs.YthiijllhonbjhaaDoor.Rx.S
open Go.Proofs.YthiijllhonbjhaaDoor.Rx

/-! the digest: words, rounds, blocks -/
theorem arrL_eq {n : Nat} {xs : List Int} (h : xs.length = n) : arrL n xs = xs := by
  subst h; exact (range_getD (fun x => x) 0 xs).trans (List.map_id _)
theorem wrap_u32 (n : Int) : IntKind.wrap .u32 n = n % 4294967296 := by
  unfold IntKind.wrap; simp [IntKind.signed, IntKind.bits]
theorem or_comm32 (a b : Int) : bits .or .u32 a b = bits .or .u32 b a := by
  unfold bits; simp only; rw [BitVec.or_comm]
def rot (n : Nat) (a : Int) : Int := bits .or .u32 (Int.fdiv a (2 ^ n)) (IntKind.wrap .u32 (a * 2 ^ (32 - n)))
theorem spec_turn2 (k : Nat) (a : Int) : spec_l2Turn.f k a 2 = some (rot 2 a) := by
  unfold spec_l2Turn.f; rw [if_neg (by decide), if_neg (by decide)]; rfl
theorem impl_turn2 (k : Nat) (a : Int) : bits_RotateLeft32.f k a (-2) = some (rot 2 a) := by
  unfold bits_RotateLeft32.f
  rw [show bits .and .u64 (IntKind.wrap .u64 (-2)) 31 = 30 from by decide, if_neg (by decide), if_neg (by decide), or_comm32]; rfl
theorem spec_turn6 (k : Nat) (a : Int) : spec_l2Turn.f k a 6 = some (rot 6 a) := by
  unfold spec_l2Turn.f; rw [if_neg (by decide), if_neg (by decide)]; rfl
theorem impl_turn6 (k : Nat) (a : Int) : bits_RotateLeft32.f k a (-6) = some (rot 6 a) := by
  unfold bits_RotateLeft32.f
  rw [show bits .and .u64 (IntKind.wrap .u64 (-6)) 31 = 26 from by decide, if_neg (by decide), if_neg (by decide), or_comm32]; rfl
theorem spec_turn7 (k : Nat) (a : Int) : spec_l2Turn.f k a 7 = some (rot 7 a) := by
  unfold spec_l2Turn.f; rw [if_neg (by decide), if_neg (by decide)]; rfl
theorem impl_turn7 (k : Nat) (a : Int) : bits_RotateLeft32.f k a (-7) = some (rot 7 a) := by
  unfold bits_RotateLeft32.f
  rw [show bits .and .u64 (IntKind.wrap .u64 (-7)) 31 = 25 from by decide, if_neg (by decide), if_neg (by decide), or_comm32]; rfl
theorem spec_turn11 (k : Nat) (a : Int) : spec_l2Turn.f k a 11 = some (rot 11 a) := by
  unfold spec_l2Turn.f; rw [if_neg (by decide), if_neg (by decide)]; rfl
theorem impl_turn11 (k : Nat) (a : Int) : bits_RotateLeft32.f k a (-11) = some (rot 11 a) := by
  unfold bits_RotateLeft32.f
  rw [show bits .and .u64 (IntKind.wrap .u64 (-11)) 31 = 21 from by decide, if_neg (by decide), if_neg (by decide), or_comm32]; rfl
theorem spec_turn13 (k : Nat) (a : Int) : spec_l2Turn.f k a 13 = some (rot 13 a) := by
  unfold spec_l2Turn.f; rw [if_neg (by decide), if_neg (by decide)]; rfl
theorem impl_turn13 (k : Nat) (a : Int) : bits_RotateLeft32.f k a (-13) = some (rot 13 a) := by
  unfold bits_RotateLeft32.f
  rw [show bits .and .u64 (IntKind.wrap .u64 (-13)) 31 = 19 from by decide, if_neg (by decide), if_neg (by decide), or_comm32]; rfl
theorem spec_turn17 (k : Nat) (a : Int) : spec_l2Turn.f k a 17 = some (rot 17 a) := by
  unfold spec_l2Turn.f; rw [if_neg (by decide), if_neg (by decide)]; rfl
theorem impl_turn17 (k : Nat) (a : Int) : bits_RotateLeft32.f k a (-17) = some (rot 17 a) := by
  unfold bits_RotateLeft32.f
  rw [show bits .and .u64 (IntKind.wrap .u64 (-17)) 31 = 15 from by decide, if_neg (by decide), if_neg (by decide), or_comm32]; rfl
theorem spec_turn18 (k : Nat) (a : Int) : spec_l2Turn.f k a 18 = some (rot 18 a) := by
  unfold spec_l2Turn.f; rw [if_neg (by decide), if_neg (by decide)]; rfl
theorem impl_turn18 (k : Nat) (a : Int) : bits_RotateLeft32.f k a (-18) = some (rot 18 a) := by
  unfold bits_RotateLeft32.f
  rw [show bits .and .u64 (IntKind.wrap .u64 (-18)) 31 = 14 from by decide, if_neg (by decide), if_neg (by decide), or_comm32]; rfl
theorem spec_turn19 (k : Nat) (a : Int) : spec_l2Turn.f k a 19 = some (rot 19 a) := by
  unfold spec_l2Turn.f; rw [if_neg (by decide), if_neg (by decide)]; rfl
theorem impl_turn19 (k : Nat) (a : Int) : bits_RotateLeft32.f k a (-19) = some (rot 19 a) := by
  unfold bits_RotateLeft32.f
  rw [show bits .and .u64 (IntKind.wrap .u64 (-19)) 31 = 13 from by decide, if_neg (by decide), if_neg (by decide), or_comm32]; rfl
theorem spec_turn22 (k : Nat) (a : Int) : spec_l2Turn.f k a 22 = some (rot 22 a) := by
  unfold spec_l2Turn.f; rw [if_neg (by decide), if_neg (by decide)]; rfl
theorem impl_turn22 (k : Nat) (a : Int) : bits_RotateLeft32.f k a (-22) = some (rot 22 a) := by
  unfold bits_RotateLeft32.f
  rw [show bits .and .u64 (IntKind.wrap .u64 (-22)) 31 = 10 from by decide, if_neg (by decide), if_neg (by decide), or_comm32]; rfl
theorem spec_turn25 (k : Nat) (a : Int) : spec_l2Turn.f k a 25 = some (rot 25 a) := by
  unfold spec_l2Turn.f; rw [if_neg (by decide), if_neg (by decide)]; rfl
theorem impl_turn25 (k : Nat) (a : Int) : bits_RotateLeft32.f k a (-25) = some (rot 25 a) := by
  unfold bits_RotateLeft32.f
  rw [show bits .and .u64 (IntKind.wrap .u64 (-25)) 31 = 7 from by decide, if_neg (by decide), if_neg (by decide), or_comm32]; rfl

def wordOf (b : ByteArray) (i : Nat) : Int := bits .or .u32 (bits .or .u32 (bits .or .u32 (IntKind.wrap .u32 ((IntKind.wrap .u32 (byteAt b (4 * i))) * 2 ^ (min (24 : Int).toNat (IntKind.bits .u32)))) (IntKind.wrap .u32 ((IntKind.wrap .u32 (byteAt b (4 * i + 1))) * 2 ^ (min (16 : Int).toNat (IntKind.bits .u32))))) (IntKind.wrap .u32 ((IntKind.wrap .u32 (byteAt b (4 * i + 2))) * 2 ^ (min (8 : Int).toNat (IntKind.bits .u32))))) (IntKind.wrap .u32 (byteAt b (4 * i + 3)))
def schX (a : Int) : Int := bits .xor .u32 (bits .xor .u32 (rot 7 a) (rot 18 a)) (Int.fdiv a (2 ^ (min (3 : Int).toNat (IntKind.bits .u32))))
def schY (a : Int) : Int := bits .xor .u32 (bits .xor .u32 (rot 17 a) (rot 19 a)) (Int.fdiv a (2 ^ (min (10 : Int).toNat (IntKind.bits .u32))))
def sched (w : List Int) (i : Nat) : Int := IntKind.wrap .u32 (IntKind.wrap .u32 (IntKind.wrap .u32 (w.getD (i - 16) 0 + schX (w.getD (i - 15) 0)) + w.getD (i - 7) 0) + schY (w.getD (i - 2) 0))
def words (b : ByteArray) : Nat → List Int
  | 0 => []
  | i + 1 => words b i ++ [if i < 16 then wordOf b i else sched (words b i) i]
theorem words_length (b : ByteArray) : ∀ i, (words b i).length = i
  | 0 => rfl
  | i + 1 => by simp [words, words_length b i]
theorem get_getD {w : List Int} {j : Nat} (h : j < w.length) : w[j]? = some (w.getD j 0) := by
  rw [List.getD_eq_getElem?_getD, List.getElem?_eq_getElem h]; rfl

theorem spec_words1 {k : Nat} (hk : 9223372036854775808 ≤ k) (h t : List Int) (b : ByteArray) (hb : b.size = 64) :
    iter (X := (List Int × List Int × List Int × List Int) ⊕ (List Int)) (spec_l2Block.b0 k) k (h, t, b, [], [], 0) = some (.inl (h, t, [], words b 16)) := by
  refine iter_upto (B := spec_l2Block.b0 k) 16 (fun i => (h, t, b, [], words b i, (i : Int))) (.inl (h, t, [], words b 16)) (fun i hi => ?_) ?_ k (by omega)
  · unfold spec_l2Block.b0
    dsimp only
    have e0 : inb? b.size (IntKind.wrap .i64 (4 * (i : Int))) = some (4 * i) := by
      rw [wrap_i64 (by omega) (by omega), inb_ok (by omega) (by omega)]; congr 1
    have e1 : inb? b.size (IntKind.wrap .i64 ((IntKind.wrap .i64 (4 * (i : Int))) + 1)) = some (4 * i + 1) := by
      rw [wrap_i64 (n := 4 * (i : Int)) (by omega) (by omega), wrap_i64 (by omega) (by omega), inb_ok (by omega) (by omega)]; congr 1
    have e2 : inb? b.size (IntKind.wrap .i64 ((IntKind.wrap .i64 (4 * (i : Int))) + 2)) = some (4 * i + 2) := by
      rw [wrap_i64 (n := 4 * (i : Int)) (by omega) (by omega), wrap_i64 (by omega) (by omega), inb_ok (by omega) (by omega)]; congr 1
    have e3 : inb? b.size (IntKind.wrap .i64 ((IntKind.wrap .i64 (4 * (i : Int))) + 3)) = some (4 * i + 3) := by
      rw [wrap_i64 (n := 4 * (i : Int)) (by omega) (by omega), wrap_i64 (by omega) (by omega), inb_ok (by omega) (by omega)]; congr 1
    rw [decide_eq_true (show (i : Int) < 16 by omega), e0, e1, e2, e3, wrap_i64 (n := (i : Int) + 1) (by omega) (by omega)]
    simp only [cond_true, Option.bind_some]
    rw [app_ok (by rw [words_length]; unfold limOf; simp; omega)]
    simp only [Option.bind_some, words, if_pos hi]
    rfl
  · unfold spec_l2Block.b0
    rfl

theorem spec_words2 {k : Nat} (hk : 9223372036854775808 ≤ k) (h t : List Int) (b : ByteArray) :
    iter (X := (List Int × List Int × List Int × List Int) ⊕ (List Int)) (spec_l2Block.b1 k) k (h, t, [], words b 16, 16) = some (.inl (h, t, [], words b 64)) := by
  refine iter_upto (B := spec_l2Block.b1 k) 48 (fun i => (h, t, [], words b (16 + i), ((16 + i : Nat) : Int))) (.inl (h, t, [], words b 64)) (fun i hi => ?_) ?_ k (by omega)
  · unfold spec_l2Block.b1
    dsimp only
    have hl := words_length b (16 + i)
    have e (c : Nat) (hc : c ≤ 16) (hc1 : 1 ≤ c) : inb? (words b (16 + i)).length (IntKind.wrap .i64 (((16 + i : Nat) : Int) - c)) = some (16 + i - c) := by
      rw [hl, wrap_i64 (by omega) (by omega), inb_ok (by omega) (by omega)]; congr 1; omega
    have g (c : Nat) (hc : c ≤ 16) (hc1 : 1 ≤ c) : (words b (16 + i))[16 + i - c]? = some ((words b (16 + i)).getD (16 + i - c) 0) := get_getD (by rw [hl]; omega)
    have e15 : inb? (words b (16 + i)).length (IntKind.wrap .i64 (((16 + i : Nat) : Int) - 15)) = some (16 + i - 15) := e 15 (by omega) (by omega)
    have g15 := g 15 (by omega) (by omega)
    have e2 : inb? (words b (16 + i)).length (IntKind.wrap .i64 (((16 + i : Nat) : Int) - 2)) = some (16 + i - 2) := e 2 (by omega) (by omega)
    have g2 := g 2 (by omega) (by omega)
    have e16 : inb? (words b (16 + i)).length (IntKind.wrap .i64 (((16 + i : Nat) : Int) - 16)) = some (16 + i - 16) := e 16 (by omega) (by omega)
    have g16 := g 16 (by omega) (by omega)
    have e7 : inb? (words b (16 + i)).length (IntKind.wrap .i64 (((16 + i : Nat) : Int) - 7)) = some (16 + i - 7) := e 7 (by omega) (by omega)
    have g7 := g 7 (by omega) (by omega)
    rw [decide_eq_true (show ((16 + i : Nat) : Int) < 64 by omega), e15, e2, e16, e7]
    simp only [cond_true, Option.bind_some, g15, g2, g16, g7, spec_turn2, impl_turn2, spec_turn6, impl_turn6, spec_turn7, impl_turn7, spec_turn11, impl_turn11, spec_turn13, impl_turn13, spec_turn17, impl_turn17, spec_turn18, impl_turn18, spec_turn19, impl_turn19, spec_turn22, impl_turn22, spec_turn25, impl_turn25]
    rw [app_ok (by rw [hl]; unfold limOf; simp; omega), wrap_i64 (n := ((16 + i : Nat) : Int) + 1) (by omega) (by omega)]
    simp only [Option.bind_some]
    rw [show 16 + (i + 1) = 16 + i + 1 from rfl]
    simp only [words, if_neg (show ¬ 16 + i < 16 by omega)]
    rfl
  · unfold spec_l2Block.b1
    rfl

def chI (e f g : Int) : Int := bits .xor .u32 (bits .and .u32 e f) (bits .and .u32 (bits .xor .u32 (if IntKind.signed .u32 then -1 else IntKind.max .u32) e) g)
def majI (a b c : Int) : Int := bits .xor .u32 (bits .xor .u32 (bits .and .u32 a b) (bits .and .u32 a c)) (bits .and .u32 b c)
def s1I (e : Int) : Int := bits .xor .u32 (bits .xor .u32 (rot 6 e) (rot 11 e)) (rot 25 e)
def s0I (a : Int) : Int := bits .xor .u32 (bits .xor .u32 (rot 2 a) (rot 13 a)) (rot 22 a)
def rndT (v : List Int) (K W : Int) : Int := IntKind.wrap .u32 (IntKind.wrap .u32 (IntKind.wrap .u32 (IntKind.wrap .u32 (v.getD 7 0 + s1I (v.getD 4 0)) + chI (v.getD 4 0) (v.getD 5 0) (v.getD 6 0)) + K) + W)
def rnd (v : List Int) (K W : Int) : List Int := [IntKind.wrap .u32 (rndT v K W + IntKind.wrap .u32 (s0I (v.getD 0 0) + majI (v.getD 0 0) (v.getD 1 0) (v.getD 2 0))), v.getD 0 0, v.getD 1 0, v.getD 2 0, IntKind.wrap .u32 (v.getD 3 0 + rndT v K W), v.getD 4 0, v.getD 5 0, v.getD 6 0]
def rnds (h w : List Int) : Nat → List Int
  | 0 => h
  | i + 1 => rnd (rnds h w i) (shaTab.getD i 0) (w.getD i 0)
theorem rnds_length {h w : List Int} (hh : h.length = 8) : ∀ i, (rnds h w i).length = 8
  | 0 => hh
  | i + 1 => rfl

theorem spec_rounds {k : Nat} (hk : 9223372036854775808 ≤ k) (h : List Int) (hh : h.length = 8) (b : ByteArray) :
    iter (X := (List Int × List Int × List Int) ⊕ (List Int)) (spec_l2Block.b2 k) k (h, shaTab, [], words b 64, h, 0) = some (.inl (h, [], rnds h (words b 64) 64)) := by
  refine iter_upto (B := spec_l2Block.b2 k) 64 (fun i => (h, shaTab, [], words b 64, rnds h (words b 64) i, (i : Int))) (.inl (h, [], rnds h (words b 64) 64)) (fun i hi => ?_) ?_ k (by omega)
  · have hw := words_length b 64
    generalize words b 64 = w at hw
    have hv := rnds_length (w := w) hh i
    rw [show rnds h w (i + 1) = rnd (rnds h w i) (shaTab.getD i 0) (w.getD i 0) from rfl]
    generalize rnds h w i = v at hv
    unfold spec_l2Block.b2
    dsimp only
    have gt : shaTab[i]? = some (shaTab.getD i 0) := get_getD hi
    have gw : w[i]? = some (w.getD i 0) := get_getD (by omega)
    have it : inb? shaTab.length (i : Int) = some i := inb_ok (by omega) (by show (i : Int) < ((64 : Nat) : Int); omega)
    have iw : inb? w.length (i : Int) = some i := inb_ok (by omega) (by omega)
    have gv (j : Nat) (hj : j < 8) : v[j]? = some (v.getD j 0) := get_getD (by omega)
    have i0 : inb? v.length 0 = some 0 := by rw [hv]; rfl
    have i1 : inb? v.length 1 = some 1 := by rw [hv]; rfl
    have i2 : inb? v.length 2 = some 2 := by rw [hv]; rfl
    have i3 : inb? v.length 3 = some 3 := by rw [hv]; rfl
    have i4 : inb? v.length 4 = some 4 := by rw [hv]; rfl
    have i5 : inb? v.length 5 = some 5 := by rw [hv]; rfl
    have i6 : inb? v.length 6 = some 6 := by rw [hv]; rfl
    have i7 : inb? v.length 7 = some 7 := by rw [hv]; rfl
    rw [decide_eq_true (show (i : Int) < 64 by omega), it, iw, i0, i1, i2, i3, i4, i5, i6, i7]
    simp only [cond_true, Option.bind_some, gt, gw, gv 0 (by omega), gv 1 (by omega), gv 2 (by omega), gv 3 (by omega), gv 4 (by omega), gv 5 (by omega), gv 6 (by omega), gv 7 (by omega), spec_turn2, impl_turn2, spec_turn6, impl_turn6, spec_turn7, impl_turn7, spec_turn11, impl_turn11, spec_turn13, impl_turn13, spec_turn17, impl_turn17, spec_turn18, impl_turn18, spec_turn19, impl_turn19, spec_turn22, impl_turn22, spec_turn25, impl_turn25]
    rw [wrap_i64 (n := (i : Int) + 1) (by omega) (by omega)]
    rfl
  · unfold spec_l2Block.b2
    rfl

def addL (h v : List Int) : List Int := (List.range 8).map fun j => IntKind.wrap .u32 (h.getD j 0 + v.getD j 0)
def blockF (h : List Int) (b : ByteArray) : List Int := addL h (rnds h (words b 64) 64)
theorem addL_length (h v : List Int) : (addL h v).length = 8 := rfl

theorem spec_block {k : Nat} (hk : 9223372036854775808 ≤ k) (h : List Int) (hh : h.length = 8) (b : ByteArray) (hb : b.size = 64) : spec_l2Block.f k h shaTab b = some (blockF h b) := by
  unfold spec_l2Block.f
  rw [spec_words1 hk h shaTab b hb]
  simp only [Option.bind_some]
  unfold spec_l2Block.d0
  dsimp only
  rw [spec_words2 hk h shaTab b]
  simp only [Option.bind_some]
  unfold spec_l2Block.d1
  dsimp only
  rw [app_ok (by rw [hh]; unfold limOf; simp), List.nil_append]
  simp only [Option.bind_some]
  rw [spec_rounds hk h hh b]
  simp only [Option.bind_some]
  unfold spec_l2Block.d2
  dsimp only
  have hv := rnds_length (w := words b 64) hh 64
  unfold blockF
  generalize rnds h (words b 64) 64 = v at hv
  have := iter_upto (B := spec_l2Block.b3 k) (X := (List Int × List Int) ⊕ (List Int)) 8 (fun i => (h, [], v, (List.range i).map (fun j => IntKind.wrap .u32 (h.getD j 0 + v.getD j 0)), (i : Int))) (.inl ([], addL h v)) (fun i hi => by
    unfold spec_l2Block.b3
    dsimp only
    rw [decide_eq_true (show (i : Int) < 8 by omega), inb_ok (by omega) (by omega), inb_ok (by omega) (by omega), Int.toNat_natCast]
    simp only [cond_true, Option.bind_some, get_getD (show i < h.length by omega), get_getD (show i < v.length by omega)]
    rw [app_ok (by rw [List.length_map, List.length_range]; unfold limOf; simp; omega), wrap_i64 (n := (i : Int) + 1) (by omega) (by omega), List.range_succ, List.map_append]
    rfl) (by unfold spec_l2Block.b3; rfl) k (by omega)
  have e : iter (X := (List Int × List Int) ⊕ (List Int)) (spec_l2Block.b3 k) k (h, [], v, [], 0) = some (.inl ([], addL h v)) := this
  rw [e]
  rfl
end Go.Proofs.YthiijllhonbjhaaDoor.Rx.S
namespace Go.Proofs.YthiijllhonbjhaaDoor.Rx.S
open Go.Proofs.YthiijllhonbjhaaDoor.Rx

def arrAt (b : ByteArray) (i : Nat) : List Int := words b i ++ List.replicate (64 - i) 0
theorem arrAt_length (b : ByteArray) {i : Nat} (h : i ≤ 64) : (arrAt b i).length = 64 := by
  simp [arrAt, words_length]; omega
theorem arrAt_getD (b : ByteArray) {i j : Nat} (h : j < i) : (arrAt b i).getD j 0 = (words b i).getD j 0 := by
  unfold arrAt
  rw [List.getD_eq_getElem?_getD, List.getD_eq_getElem?_getD, List.getElem?_append_left (by rw [words_length]; exact h)]
theorem arrAt_set (b : ByteArray) {i : Nat} (x : Int) (h : i < 64) : (arrAt b i).set i x = words b i ++ [x] ++ List.replicate (64 - (i + 1)) 0 := by
  unfold arrAt
  rw [List.set_append_right _ _ (by rw [words_length]; exact Nat.le_refl _), words_length, Nat.sub_self, List.append_assoc]
  congr 1
  obtain ⟨n, hn⟩ : ∃ n, 64 - i = n + 1 := ⟨63 - i, by omega⟩
  rw [hn, show 64 - (i + 1) = n by omega]
  rfl
theorem sched_at (b : ByteArray) {i : Nat} (h : 16 ≤ i) : sched (arrAt b i) i = sched (words b i) i := by
  unfold sched
  rw [arrAt_getD b (show i - 16 < i by omega), arrAt_getD b (show i - 15 < i by omega), arrAt_getD b (show i - 7 < i by omega), arrAt_getD b (show i - 2 < i by omega)]

theorem four (k : Nat) (b : ByteArray) (hb : b.size = 64) {i : Nat} (hi : i < 16) : impl_fourBytes.f k (b.extract (4 * i) b.size) = some (wordOf b i) := by
  unfold impl_fourBytes.f
  have hs : (b.extract (4 * i) b.size).size = 64 - 4 * i := by rw [V.size_ext b (Nat.le_refl _), hb]
  have g (j : Nat) (hj : j < 4) : byteAt (b.extract (4 * i) b.size) j = byteAt b (4 * i + j) := V.byteAt_ext b (Nat.le_refl _) (by omega)
  have i0 : inb? (b.extract (4 * i) b.size).size 0 = some 0 := inb_ok (by omega) (by omega)
  have i1 : inb? (b.extract (4 * i) b.size).size 1 = some 1 := inb_ok (by omega) (by omega)
  have i2 : inb? (b.extract (4 * i) b.size).size 2 = some 2 := inb_ok (by omega) (by omega)
  have i3 : inb? (b.extract (4 * i) b.size).size 3 = some 3 := inb_ok (by omega) (by omega)
  rw [i0, i1, i2, i3]
  simp only [Option.bind_some]
  rw [g 0 (by omega), g 1 (by omega), g 2 (by omega), g 3 (by omega)]
  rfl

theorem impl_words1 {k : Nat} (hk : 9223372036854775808 ≤ k) (h z : List Int) (hh : h.length = 8) (hz : z.length = 8) (b : ByteArray) (hb : b.size = 64) :
    iter (X := (List Int × List Int × List Int) ⊕ (List Int)) (impl_shaBlock.b0 k) k (b, 0, h, z, List.replicate 64 0) = some (.inl (h, z, arrAt b 16)) := by
  refine iter_upto (B := impl_shaBlock.b0 k) 16 (fun i => (b, (i : Int), h, z, arrAt b i)) (.inl (h, z, arrAt b 16)) (fun i hi => ?_) ?_ k (by omega)
  · unfold impl_shaBlock.b0
    dsimp only
    rw [decide_eq_true (show (i : Int) < 16 by omega), wrap_i64 (n := 4 * (i : Int)) (by omega) (by omega), cut_ok (by omega) (by omega) (by omega), inb_ok (n := 64) (i := (i : Int)) (by omega) (by omega), wrap_i64 (n := (i : Int) + 1) (by omega) (by omega)]
    simp only [cond_true, Option.bind_some, Int.toNat_natCast]
    rw [show (4 * (i : Int)).toNat = 4 * i by omega, four k b hb hi]
    simp only [Option.bind_some]
    rw [arrL_eq hh, arrL_eq hz, arrL_eq (arrAt_length b (by omega)), arrAt_set b _ (by omega)]
    rw [arrL_eq (by simp [words_length]; omega)]
    simp only [arrAt, words, if_pos hi]
    rfl
  · unfold impl_shaBlock.b0
    dsimp only
    rw [arrL_eq hh, arrL_eq hz, arrL_eq (arrAt_length b (by omega))]
    rfl

theorem impl_words2 {k : Nat} (hk : 9223372036854775808 ≤ k) (h z : List Int) (hh : h.length = 8) (hz : z.length = 8) (b : ByteArray) :
    iter (X := (List Int × List Int × List Int) ⊕ (List Int)) (impl_shaBlock.b1 k) k (16, h, z, arrAt b 16) = some (.inl (h, z, arrAt b 64)) := by
  refine iter_upto (B := impl_shaBlock.b1 k) 48 (fun i => (((16 + i : Nat) : Int), h, z, arrAt b (16 + i))) (.inl (h, z, arrAt b 64)) (fun i hi => ?_) ?_ k (by omega)
  · unfold impl_shaBlock.b1
    dsimp only
    have e (c : Nat) (hc : c ≤ 16) (hc1 : 1 ≤ c) : inb? 64 (IntKind.wrap .i64 (((16 + i : Nat) : Int) - c)) = some (16 + i - c) := by
      rw [wrap_i64 (by omega) (by omega), inb_ok (by omega) (by omega)]; congr 1; omega
    have e15 : inb? 64 (IntKind.wrap .i64 (((16 + i : Nat) : Int) - 15)) = some (16 + i - 15) := e 15 (by omega) (by omega)
    have e2 : inb? 64 (IntKind.wrap .i64 (((16 + i : Nat) : Int) - 2)) = some (16 + i - 2) := e 2 (by omega) (by omega)
    have e16 : inb? 64 (IntKind.wrap .i64 (((16 + i : Nat) : Int) - 16)) = some (16 + i - 16) := e 16 (by omega) (by omega)
    have e7 : inb? 64 (IntKind.wrap .i64 (((16 + i : Nat) : Int) - 7)) = some (16 + i - 7) := e 7 (by omega) (by omega)
    rw [decide_eq_true (show ((16 + i : Nat) : Int) < 64 by omega), e15, e2, e16, e7, inb_ok (n := 64) (i := ((16 + i : Nat) : Int)) (by omega) (by omega), arrL_eq hh, arrL_eq hz, arrL_eq (arrAt_length b (show 16 + i ≤ 64 by omega)), wrap_i64 (n := ((16 + i : Nat) : Int) + 1) (by omega) (by omega)]
    simp only [cond_true, Option.bind_some, impl_turn7, impl_turn18, impl_turn17, impl_turn19, Int.toNat_natCast]
    have hs := sched_at b (show 16 ≤ 16 + i by omega)
    unfold sched schX schY at hs
    rw [hs, arrAt_set b _ (by omega), arrL_eq (by simp [words_length]; omega)]
    rw [show 16 + (i + 1) = 16 + i + 1 from rfl]
    simp only [arrAt, words, if_neg (show ¬ 16 + i < 16 by omega)]
    rfl
  · unfold impl_shaBlock.b1
    dsimp only
    rw [arrL_eq hh, arrL_eq hz, arrL_eq (arrAt_length b (by omega))]
    rfl

theorem wrap_assoc (a b c : Int) : IntKind.wrap .u32 (IntKind.wrap .u32 (a + b) + c) = IntKind.wrap .u32 (a + IntKind.wrap .u32 (b + c)) := by
  simp only [wrap_u32]; omega

theorem impl_rounds {k : Nat} (hk : 9223372036854775808 ≤ k) (h z w : List Int) (hh : h.length = 8) (hz : z.length = 8) (hw : w.length = 64) :
    iter (X := (List Int × List Int × List Int) ⊕ (List Int)) (impl_shaBlock.b2 k) k (0, h, z, w, h) = some (.inl (h, z, rnds h w 64)) := by
  refine iter_upto (B := impl_shaBlock.b2 k) 64 (fun i => ((i : Int), h, z, w, rnds h w i)) (.inl (h, z, rnds h w 64)) (fun i hi => ?_) ?_ k (by omega)
  · rw [show rnds h w (i + 1) = rnd (rnds h w i) (shaTab.getD i 0) (w.getD i 0) from rfl]
    generalize rnds h w i = v
    unfold impl_shaBlock.b2
    dsimp only
    have gt : shaTab[i]? = some (shaTab.getD i 0) := get_getD hi
    rw [decide_eq_true (show (i : Int) < 64 by omega), inb_ok (n := 64) (i := (i : Int)) (by omega) (by omega), arrL_eq hh, arrL_eq hz, arrL_eq hw, wrap_i64 (n := (i : Int) + 1) (by omega) (by omega)]
    simp only [cond_true, Option.bind_some, impl_turn6, impl_turn11, impl_turn25, impl_turn2, impl_turn13, impl_turn22, Int.toNat_natCast, gt]
    rw [wrap_assoc]
    rfl
  · unfold impl_shaBlock.b2
    dsimp only
    rw [arrL_eq hh, arrL_eq hz, arrL_eq (rnds_length (w := w) hh 64)]
    rfl

def addI (h v : List Int) (i : Nat) : List Int := (List.range 8).map fun j => if j < i then IntKind.wrap .u32 (h.getD j 0 + v.getD j 0) else h.getD j 0
theorem addL_get (h v : List Int) {j : Nat} (hj : j < 8) : (addL h v).getD j 0 = IntKind.wrap .u32 (h.getD j 0 + v.getD j 0) := by
  unfold addL
  rw [List.getD_eq_getElem?_getD, List.getElem?_map, List.getElem?_range hj]; rfl
theorem addI_get (h v : List Int) {i j : Nat} (hj : j < 8) : (addI h v i).getD j 0 = if j < i then IntKind.wrap .u32 (h.getD j 0 + v.getD j 0) else h.getD j 0 := by
  unfold addI
  rw [List.getD_eq_getElem?_getD, List.getElem?_map, List.getElem?_range hj]; rfl
theorem list8_ext {a b : List Int} (ha : a.length = 8) (hb : b.length = 8) (h : ∀ j, j < 8 → a.getD j 0 = b.getD j 0) : a = b := by
  apply List.ext_getElem (by omega)
  intro j h1 h2
  have := h j (by omega)
  simpa [List.getD_eq_getElem?_getD, List.getElem?_eq_getElem h1, List.getElem?_eq_getElem h2] using this

theorem impl_block {k : Nat} (hk : 9223372036854775808 ≤ k) (h : List Int) (hh : h.length = 8) (b : ByteArray) (hb : b.size = 64) : impl_shaBlock.f k h b = some (blockF h b) := by
  unfold impl_shaBlock.f
  have hz : (List.replicate 8 (0 : Int)).length = 8 := rfl
  rw [arrL_eq hh, impl_words1 hk h _ hh hz b hb]
  simp only [Option.bind_some]
  unfold impl_shaBlock.d0
  dsimp only
  rw [arrL_eq hh, arrL_eq hz, arrL_eq (arrAt_length b (by omega)), impl_words2 hk h _ hh hz b]
  simp only [Option.bind_some]
  unfold impl_shaBlock.d1
  dsimp only
  have ew : arrAt b 64 = words b 64 := by simp [arrAt]
  have hw := words_length b 64
  rw [arrL_eq hh, arrL_eq hz, arrL_eq (arrAt_length b (by omega)), ew, impl_rounds hk h _ _ hh hz hw]
  simp only [Option.bind_some]
  unfold impl_shaBlock.d2
  dsimp only
  have hv := rnds_length (w := words b 64) hh 64
  rw [arrL_eq hh, arrL_eq hz, arrL_eq hv]
  unfold blockF
  generalize rnds h (words b 64) 64 = v at hv
  have hl : ∀ i, (addI h v i).length = 8 := fun i => rfl
  have := iter_upto (B := impl_shaBlock.b3 k) (X := (List Int × List Int) ⊕ (List Int)) 8 (fun i => ((i : Int), addI h v i, List.replicate 8 0, v)) (.inl (addI h v 8, List.replicate 8 0)) (fun i hi => by
    unfold impl_shaBlock.b3
    dsimp only
    rw [decide_eq_true (show (i : Int) < 8 by omega), inb_ok (n := 8) (i := (i : Int)) (by omega) (by omega), arrL_eq (hl i), arrL_eq hz, arrL_eq hv, wrap_i64 (n := (i : Int) + 1) (by omega) (by omega)]
    simp only [cond_true, Option.bind_some, Int.toNat_natCast]
    rw [addI_get h v hi, if_neg (by omega), arrL_eq (by rw [List.length_set]; exact hl i)]
    have e : (addI h v i).set i (IntKind.wrap .u32 (h.getD i 0 + v.getD i 0)) = addI h v (i + 1) := by
      refine list8_ext (by rw [List.length_set]; exact hl i) (hl _) fun j hj => ?_
      rw [addI_get h v hj, List.getD_eq_getElem?_getD, List.getElem?_set]
      by_cases he : i = j
      · subst he
        rw [if_pos rfl, if_pos (by rw [hl]; omega), if_pos (by omega)]; rfl
      · rw [if_neg he, ← List.getD_eq_getElem?_getD, addI_get h v hj]
        by_cases h1 : j < i
        · rw [if_pos h1, if_pos (by omega)]
        · rw [if_neg h1, if_neg (by omega)]
    rw [e]
    rfl) (by
    unfold impl_shaBlock.b3
    dsimp only
    rw [arrL_eq (hl 8), arrL_eq hz, arrL_eq hv]
    rfl) k (by omega)
  have e0 : addI h v 0 = h := list8_ext (hl 0) hh fun j hj => by rw [addI_get h v hj, if_neg (by omega)]
  have e8 : addI h v 8 = addL h v := list8_ext (hl 8) rfl fun j hj => by
    rw [addI_get h v hj, if_pos hj, addL_get h v hj]
  rw [e0, e8] at this
  have e : iter (X := (List Int × List Int) ⊕ (List Int)) (impl_shaBlock.b3 k) k (0, h, List.replicate 8 0, v) = some (.inl (addL h v, List.replicate 8 0)) := this
  rw [e]
  simp only [Option.bind_some]
  unfold impl_shaBlock.d3
  dsimp only
  rw [arrL_eq (addL_length h v)]
end Go.Proofs.YthiijllhonbjhaaDoor.Rx.S
namespace Go.Proofs.YthiijllhonbjhaaDoor.Rx.S
open Go.Proofs.YthiijllhonbjhaaDoor.Rx Go.Proofs.YthiijllhonbjhaaDoor.Rx.Y

/-! numbers of seven bytes -/
theorem spec_fixN (k : Nat) (n w : Int) (z : ByteArray) (l : List Int) (i : Int) (h0 : 0 ≤ n) (h1 : n ≤ 4611686018427387904) (hw : i < w) (hi0 : 0 ≤ i) (hi : i ≤ 8) (hl : l.length ≤ 8) :
    spec_Fixed.b0 k (n, w, z, strOfNums l, i) = some (.inl (n / 256, w, z, strOfNums (n % 256 :: l), i + 1)) := by
  unfold spec_Fixed.b0
  dsimp only
  have e1 : Int.tmod n 256 = n % 256 := Int.tmod_eq_emod_of_nonneg h0
  have e2 : IntKind.wrap .i64 (Int.tdiv n 256) = n / 256 := by rw [Int.tdiv_eq_ediv_of_nonneg h0]; exact wrap_i64 (by omega) (by omega)
  rw [decide_eq_true hw, e1, e2, wrap_u8 (by omega) (by omega), cat_ok (by rw [V.size_strOfNums, V.size_strOfNums]; simp; omega), wrap_i64 (n := i + 1) (by omega) (by omega), nums_cons]
  rfl

def fix7 (n : Int) : ByteArray := strOfNums [n / 256 / 256 / 256 / 256 / 256 / 256 % 256, n / 256 / 256 / 256 / 256 / 256 % 256, n / 256 / 256 / 256 / 256 % 256, n / 256 / 256 / 256 % 256, n / 256 / 256 % 256, n / 256 % 256, n % 256]
theorem fix7_size (n : Int) : (fix7 n).size = 7 := by unfold fix7; rw [V.size_strOfNums]; rfl

theorem spec_fix7 {k : Nat} (hk : 9223372036854775808 ≤ k) (n : Int) (h0 : 0 ≤ n) (h1 : n < 72057594037927936) : spec_Fixed.f k n 7 = some (fix7 n) := by
  unfold spec_Fixed.f fix7
  rw [V.l1]
  obtain ⟨k, rfl⟩ : ∃ m, k = m + 8 := ⟨k - 8, by omega⟩
  have key : iter (X := (Int × ByteArray × ByteArray) ⊕ ByteArray) (spec_Fixed.b0 (k + 8)) (k + 8) (n, 7, (⟨#[]⟩ : ByteArray), (⟨#[]⟩ : ByteArray), 0) = some (.inl (n / 256 / 256 / 256 / 256 / 256 / 256 / 256, ⟨#[]⟩, strOfNums [n / 256 / 256 / 256 / 256 / 256 / 256 % 256, n / 256 / 256 / 256 / 256 / 256 % 256, n / 256 / 256 / 256 / 256 % 256, n / 256 / 256 / 256 % 256, n / 256 / 256 % 256, n / 256 % 256, n % 256])) := by
    conv => lhs; rw [show ((⟨#[]⟩ : ByteArray), (⟨#[]⟩ : ByteArray), (0 : Int)) = ((⟨#[]⟩ : ByteArray), strOfNums [], (0 : Int)) from rfl]
    rw [V.iter_inl (spec_fixN (k + 8) n 7 ⟨#[]⟩ [] 0 h0 (by omega) (by omega) (by omega) (by omega) (by simp)),
      V.iter_inl (spec_fixN (k + 8) (n / 256) 7 ⟨#[]⟩ _ (0 + 1) (by omega) (by omega) (by omega) (by omega) (by omega) (by simp)),
      V.iter_inl (spec_fixN (k + 8) (n / 256 / 256) 7 ⟨#[]⟩ _ (0 + 1 + 1) (by omega) (by omega) (by omega) (by omega) (by omega) (by simp)),
      V.iter_inl (spec_fixN (k + 8) (n / 256 / 256 / 256) 7 ⟨#[]⟩ _ (0 + 1 + 1 + 1) (by omega) (by omega) (by omega) (by omega) (by omega) (by simp)),
      V.iter_inl (spec_fixN (k + 8) (n / 256 / 256 / 256 / 256) 7 ⟨#[]⟩ _ (0 + 1 + 1 + 1 + 1) (by omega) (by omega) (by omega) (by omega) (by omega) (by simp)),
      V.iter_inl (spec_fixN (k + 8) (n / 256 / 256 / 256 / 256 / 256) 7 ⟨#[]⟩ _ (0 + 1 + 1 + 1 + 1 + 1) (by omega) (by omega) (by omega) (by omega) (by omega) (by simp)),
      V.iter_inl (spec_fixN (k + 8) (n / 256 / 256 / 256 / 256 / 256 / 256) 7 ⟨#[]⟩ _ (0 + 1 + 1 + 1 + 1 + 1 + 1) (by omega) (by omega) (by omega) (by omega) (by omega) (by simp))]
    refine V.iter_inr ?_
    unfold spec_Fixed.b0
    dsimp only
    rw [decide_eq_false (by omega)]; rfl
  rw [key, decide_eq_false (show ¬ n < 0 by omega)]
  simp only [Option.bind_some]
  unfold spec_Fixed.d0
  dsimp only
  rw [decide_eq_false (show ¬ (0 < n / 256 / 256 / 256 / 256 / 256 / 256 / 256) by omega)]
  rfl

theorem impl_fix7 {k : Nat} (hk : 9223372036854775808 ≤ k) (n : Int) (h0 : 0 ≤ n) (h1 : n < 72057594037927936) : impl_Fixed.f k n 7 = some (fix7 n) := by
  unfold impl_Fixed.f fix7
  rw [W.within_eq]
  have e2 : IntKind.wrap .i64 (1 * 2 ^ (min (IntKind.wrap .i64 (8 * 7)).toNat (IntKind.bits .i64))) = 72057594037927936 := rfl
  have step : ∀ (m : Int) (z : ByteArray) (l : List Int) (i : Nat) (y : Int), 0 ≤ m → m ≤ 4611686018427387904 → l.length = 7 → i < 7 → l[i]? = some y → impl_Fixed.b0 k (m, z, l, (i : Int)) = some (.inl (m / 256, z, l.set i (m % 256), (i : Int) - 1)) := by
    intro m z l i y m0 m1 hl hi hy
    unfold impl_Fixed.b0
    dsimp only
    have e3 : Int.fdiv m (2 ^ (min (8 : Int).toNat (IntKind.bits .i64))) = m / 256 := by
      have : (2 ^ (min (8 : Int).toNat (IntKind.bits .i64)) : Int) = 256 := rfl
      rw [this, Int.fdiv_eq_ediv_of_nonneg m (by omega)]
    rw [decide_eq_true (show (0 : Int) ≤ (i : Int) by omega), inb_ok (by omega) (by omega), Int.toNat_natCast, e3, and255 m0 (by omega), wrap_u8 (by omega) (by omega), wrap_i64 (n := (i : Int) - 1) (by omega) (by omega)]
    simp only [cond_true, Option.bind_some, hy]
  obtain ⟨kk, hkk⟩ : ∃ m, k = m + 8 := ⟨k - 8, by omega⟩
  have key : iter (X := (ByteArray × List Int) ⊕ ByteArray) (impl_Fixed.b0 k) k (n, (⟨#[]⟩ : ByteArray), [0, 0, 0, 0, 0, 0, 0], 6) = some (.inl (⟨#[]⟩, [n / 256 / 256 / 256 / 256 / 256 / 256 % 256, n / 256 / 256 / 256 / 256 / 256 % 256, n / 256 / 256 / 256 / 256 % 256, n / 256 / 256 / 256 % 256, n / 256 / 256 % 256, n / 256 % 256, n % 256])) := by
    have a0 := step (n) ⟨#[]⟩ [0, 0, 0, 0, 0, 0, 0] 6 0 (by omega) (by omega) rfl (by omega) rfl
    have a1 := step (n / 256) ⟨#[]⟩ [0, 0, 0, 0, 0, 0, n % 256] 5 0 (by omega) (by omega) rfl (by omega) rfl
    have a2 := step (n / 256 / 256) ⟨#[]⟩ [0, 0, 0, 0, 0, n / 256 % 256, n % 256] 4 0 (by omega) (by omega) rfl (by omega) rfl
    have a3 := step (n / 256 / 256 / 256) ⟨#[]⟩ [0, 0, 0, 0, n / 256 / 256 % 256, n / 256 % 256, n % 256] 3 0 (by omega) (by omega) rfl (by omega) rfl
    have a4 := step (n / 256 / 256 / 256 / 256) ⟨#[]⟩ [0, 0, 0, n / 256 / 256 / 256 % 256, n / 256 / 256 % 256, n / 256 % 256, n % 256] 2 0 (by omega) (by omega) rfl (by omega) rfl
    have a5 := step (n / 256 / 256 / 256 / 256 / 256) ⟨#[]⟩ [0, 0, n / 256 / 256 / 256 / 256 % 256, n / 256 / 256 / 256 % 256, n / 256 / 256 % 256, n / 256 % 256, n % 256] 1 0 (by omega) (by omega) rfl (by omega) rfl
    have a6 := step (n / 256 / 256 / 256 / 256 / 256 / 256) ⟨#[]⟩ [0, n / 256 / 256 / 256 / 256 / 256 % 256, n / 256 / 256 / 256 / 256 % 256, n / 256 / 256 / 256 % 256, n / 256 / 256 % 256, n / 256 % 256, n % 256] 0 0 (by omega) (by omega) rfl (by omega) rfl
    have b : impl_Fixed.b0 k (n / 256 / 256 / 256 / 256 / 256 / 256 / 256, (⟨#[]⟩ : ByteArray), [n / 256 / 256 / 256 / 256 / 256 / 256 % 256, n / 256 / 256 / 256 / 256 / 256 % 256, n / 256 / 256 / 256 / 256 % 256, n / 256 / 256 / 256 % 256, n / 256 / 256 % 256, n / 256 % 256, n % 256], (-1 : Int)) = some (.inr (.inl (⟨#[]⟩, [n / 256 / 256 / 256 / 256 / 256 / 256 % 256, n / 256 / 256 / 256 / 256 / 256 % 256, n / 256 / 256 / 256 / 256 % 256, n / 256 / 256 / 256 % 256, n / 256 / 256 % 256, n / 256 % 256, n % 256]))) := rfl
    conv => lhs; arg 2; rw [hkk]
    exact (V.iter_inl a0).trans ((V.iter_inl a1).trans ((V.iter_inl a2).trans ((V.iter_inl a3).trans ((V.iter_inl a4).trans ((V.iter_inl a5).trans ((V.iter_inl a6).trans (V.iter_inr b)))))))
  have e5 : mk? (limOf 1) 7 (0 : Int) = some [0, 0, 0, 0, 0, 0, 0] := rfl
  have e6 : IntKind.wrap .i64 (7 - 1) = 6 := rfl
  rw [e2, e5, e6, decide_eq_false (show ¬ n < 0 by omega), decide_eq_false (show ¬ (72057594037927936 : Int) ≤ n by omega)]
  simp only [Option.bind_some]
  rw [key]
  rfl
end Go.Proofs.YthiijllhonbjhaaDoor.Rx.S
namespace Go.Proofs.YthiijllhonbjhaaDoor.Rx.S
open Go.Proofs.YthiijllhonbjhaaDoor.Rx Go.Proofs.YthiijllhonbjhaaDoor.Rx.Y

theorem nums_append (a b : List Int) : strOfNums (a ++ b) = strOfNums a ++ strOfNums b := by
  unfold strOfNums
  apply ByteArray.ext
  simp [ByteArray.data_append]
theorem byteAt_left {s t : ByteArray} {i : Nat} (h : i < s.size) : byteAt (s ++ t) i = byteAt s i := by
  rw [V.byteAt_lt h, V.byteAt_lt (by rw [ByteArray.size_append]; omega), ByteArray.getElem_append_left h]
theorem byteAt_right {s t : ByteArray} {i : Nat} (h : s.size ≤ i) (h2 : i < s.size + t.size) : byteAt (s ++ t) i = byteAt t (i - s.size) := by
  rw [V.byteAt_lt (show i - s.size < t.size by omega), V.byteAt_lt (by rw [ByteArray.size_append]; omega), ByteArray.getElem_append_right h]

def H0 : List Int := [1779033703, 3144134277, 1013904242, 2773480762, 1359893119, 2600822924, 528734635, 1541459225]
def runF (f : Nat → ByteArray) (h : List Int) : Nat → List Int
  | 0 => h
  | m + 1 => blockF (runF f h m) (f m)
theorem runF_length {f : Nat → ByteArray} {h : List Int} (hh : h.length = 8) : ∀ m, (runF f h m).length = 8
  | 0 => hh
  | m + 1 => rfl
theorem runF_congr {f g : Nat → ByteArray} {h : List Int} : ∀ {m : Nat}, (∀ j, j < m → f j = g j) → runF f h m = runF g h m
  | 0, _ => rfl
  | m + 1, e => by simp only [runF]; rw [runF_congr (fun j hj => e j (by omega)), e m (by omega)]
theorem runF_add (f : Nat → ByteArray) (h : List Int) (a : Nat) : ∀ m, runF f h (a + m) = runF (fun j => f (a + j)) (runF f h a) m
  | 0 => rfl
  | m + 1 => by rw [← Nat.add_assoc]; simp only [runF]; rw [runF_add f h a m]
def blk (p : ByteArray) (j : Nat) : ByteArray := p.extract (64 * j) (64 * j + 64)
theorem blk_size {p : ByteArray} {j : Nat} (h : 64 * j + 64 ≤ p.size) : (blk p j).size = 64 := by
  unfold blk; rw [V.size_ext p h]; omega

def zz (n : Nat) : Nat := (64 - (n + 9) % 64) % 64
def pad (n : Nat) : ByteArray := (⟨#[128]⟩ ++ strOfNums (List.replicate (zz n + 1) 0)) ++ fix7 (8 * n)
theorem pad_size (n : Nat) : (pad n).size = zz n + 9 := by
  unfold pad
  rw [ByteArray.size_append, ByteArray.size_append, V.size_strOfNums, fix7_size, List.length_replicate]
  show 1 + _ + 7 = _
  omega
def fix4 (n : Int) : ByteArray := strOfNums [n / 256 / 256 / 256 % 256, n / 256 / 256 % 256, n / 256 % 256, n % 256]
theorem fix4_size (n : Int) : (fix4 n).size = 4 := by unfold fix4; rw [V.size_strOfNums]; rfl
def outF (h : List Int) : Nat → ByteArray
  | 0 => ⟨#[]⟩
  | i + 1 => outF h i ++ fix4 (h.getD i 0)
theorem outF_size (h : List Int) : ∀ i, (outF h i).size = 4 * i
  | 0 => rfl
  | i + 1 => by simp only [outF]; rw [ByteArray.size_append, outF_size h i, fix4_size]; omega
/-- the digest -/
def shaF (s : ByteArray) : ByteArray := outF (runF (blk (s ++ pad s.size)) H0 ((s.size + zz s.size + 9) / 64)) 8
theorem shaF_size (s : ByteArray) : (shaF s).size = 32 := outF_size _ 8

def Small (h : List Int) : Prop := ∀ j, j < 8 → 0 ≤ h.getD j 0 ∧ h.getD j 0 < 4294967296
theorem block_small (h : List Int) (b : ByteArray) : Small (blockF h b) := fun j hj => by
  unfold blockF
  rw [addL_get _ _ hj, wrap_u32]
  omega
theorem H0_small : Small H0 := by unfold Small; decide
theorem run_small {f : Nat → ByteArray} : ∀ m, Small (runF f H0 m)
  | 0 => H0_small
  | m + 1 => block_small _ _

theorem impl_out {k : Nat} (hk : 9223372036854775808 ≤ k) (h : List Int) (hh : h.length = 8) (hs : Small h) : impl_Sha.d0 k (⟨#[]⟩, h) = some (outF h 8) := by
  unfold impl_Sha.d0
  dsimp only
  rw [arrL_eq hh]
  have := iter_upto (B := impl_Sha.b1 k) (X := (ByteArray × ByteArray) ⊕ ByteArray) 8 (fun i => ((⟨#[]⟩ : ByteArray), outF h i, h, (i : Int))) (.inl (⟨#[]⟩, outF h 8)) (fun i hi => by
    unfold impl_Sha.b1
    dsimp only
    obtain ⟨h1, h2⟩ := hs i hi
    rw [decide_eq_true (show (i : Int) < 8 by omega), inb_ok (n := 8) (i := (i : Int)) (by omega) (by omega), arrL_eq hh, Int.toNat_natCast]
    simp only [cond_true, Option.bind_some]
    rw [wrap_i64 (n := h.getD i 0) (by omega) (by omega), impl_fix4 hk _ h1 h2]
    simp only [Option.bind_some]
    rw [cat_ok (by rw [outF_size]; have := fix4_size (h.getD i 0); unfold fix4 at this; rw [this]; omega), wrap_i64 (n := (i : Int) + 1) (by omega) (by omega)]
    rfl) (by unfold impl_Sha.b1; rfl) k (by omega)
  have e : iter (X := (ByteArray × ByteArray) ⊕ ByteArray) (impl_Sha.b1 k) k ((⟨#[]⟩ : ByteArray), (⟨#[]⟩ : ByteArray), h, 0) = some (.inl (⟨#[]⟩, outF h 8)) := this
  rw [e]
  rfl

theorem spec_out {k : Nat} (hk : 9223372036854775808 ≤ k) (h : List Int) (hh : h.length = 8) (hs : Small h) : spec_Sha.d2 k (⟨#[]⟩, h) = some (outF h 8) := by
  unfold spec_Sha.d2
  dsimp only
  have := iter_upto (B := spec_Sha.b3 k) (X := (ByteArray × ByteArray) ⊕ ByteArray) 8 (fun i => ((⟨#[]⟩ : ByteArray), h, outF h i, (i : Int))) (.inl (⟨#[]⟩, outF h 8)) (fun i hi => by
    unfold spec_Sha.b3
    dsimp only
    obtain ⟨h1, h2⟩ := hs i hi
    rw [decide_eq_true (show (i : Int) < 8 by omega), inb_ok (by omega) (by omega), Int.toNat_natCast]
    simp only [cond_true, Option.bind_some, get_getD (show i < h.length by omega)]
    rw [wrap_i64 (n := h.getD i 0) (by omega) (by omega), spec_fix4 hk _ h1 h2]
    simp only [Option.bind_some]
    rw [cat_ok (by rw [outF_size]; have := fix4_size (h.getD i 0); unfold fix4 at this; rw [this]; omega), wrap_i64 (n := (i : Int) + 1) (by omega) (by omega)]
    rfl) (by unfold spec_Sha.b3; rfl) k (by omega)
  have e : iter (X := (ByteArray × ByteArray) ⊕ ByteArray) (spec_Sha.b3 k) k ((⟨#[]⟩ : ByteArray), h, (⟨#[]⟩ : ByteArray), 0) = some (.inl (⟨#[]⟩, outF h 8)) := this
  rw [e]
  rfl

theorem pad_mod (n : Nat) : (n + zz n + 9) % 64 = 0 := by unfold zz; omega

theorem impl_sha {k : Nat} (hk : 9223372036854775808 ≤ k) (s : ByteArray) (hn : s.size ≤ 1099511627776) : impl_Sha.f k s = some (shaF s) := by
  unfold impl_Sha.f
  have hz : zz s.size < 64 := by unfold zz; omega
  have ez : IntKind.wrap .i64 ((Int.tmod (IntKind.wrap .i64 (64 - (Int.tmod (IntKind.wrap .i64 ((s.size : Int) + 9)) 64))) 64) + 1) = ((zz s.size + 1 : Nat) : Int) := by
    rw [wrap_i64 (n := (s.size : Int) + 9) (by omega) (by omega), Int.tmod_eq_emod_of_nonneg (a := (s.size : Int) + 9) (by omega), wrap_i64 (n := 64 - ((s.size : Int) + 9) % 64) (by omega) (by omega), Int.tmod_eq_emod_of_nonneg (by omega), wrap_i64 (by omega) (by omega)]
    unfold zz; omega
  have h128 : (⟨#[128]⟩ : ByteArray).size = 1 := rfl
  rw [cat_ok (by rw [h128]; omega), ez, mk_ok (by omega) (by unfold limOf; omega), wrap_i64 (n := 8 * (s.size : Int)) (by omega) (by omega), impl_fix7 hk _ (by omega) (by omega)]
  simp only [Option.bind_some, Int.toNat_natCast]
  rw [cat_ok (by rw [ByteArray.size_append, V.size_strOfNums, List.length_replicate, h128]; omega)]
  simp only [Option.bind_some]
  rw [cat_ok (by rw [ByteArray.size_append, ByteArray.size_append, V.size_strOfNums, List.length_replicate, h128, fix7_size]; omega)]
  simp only [Option.bind_some]
  have ep : s ++ ⟨#[128]⟩ ++ strOfNums (List.replicate (zz s.size + 1) 0) ++ fix7 (8 * (s.size : Int)) = s ++ pad s.size := by
    unfold pad; simp only [ByteArray.append_assoc]
  rw [ep]
  have hps : (s ++ pad s.size).size = s.size + zz s.size + 9 := by rw [ByteArray.size_append, pad_size]; omega
  have hm := pad_mod s.size
  have hNb : s.size + zz s.size + 9 ≤ 2199023255552 := by omega
  unfold shaF
  generalize s ++ pad s.size = p at hps
  generalize s.size + zz s.size + 9 = N at hps hm hNb
  have := iter_upto (B := impl_Sha.b0 k) (X := (ByteArray × List Int) ⊕ ByteArray) (N / 64) (fun i => ((⟨#[]⟩ : ByteArray), p, ((64 * i : Nat) : Int), runF (blk p) H0 i)) (.inl (⟨#[]⟩, runF (blk p) H0 (N / 64))) (fun i hi => by
    unfold impl_Sha.b0
    dsimp only
    have hl := runF_length (f := blk p) (h := H0) rfl i
    rw [decide_eq_true (show ((64 * i : Nat) : Int) < (p.size : Int) by omega), wrap_i64 (n := ((64 * i : Nat) : Int) + 64) (by omega) (by omega), cut_ok (by omega) (by omega) (by omega), arrL_eq hl]
    simp only [cond_true, Option.bind_some]
    have hb : p.extract (((64 * i : Nat) : Int)).toNat (((64 * i : Nat) : Int) + 64).toNat = blk p i := by
      unfold blk; congr 1
    rw [hb, impl_block hk _ hl _ (blk_size (by omega))]
    simp only [Option.bind_some]
    rw [arrL_eq (show (blockF (runF (blk p) H0 i) (blk p i)).length = 8 from rfl)]
    rfl) (by
    unfold impl_Sha.b0
    dsimp only
    rw [decide_eq_false (by omega), arrL_eq (runF_length (f := blk p) (h := H0) rfl _)]
    rfl) k (by omega)
  have e : iter (X := (ByteArray × List Int) ⊕ ByteArray) (impl_Sha.b0 k) k ((⟨#[]⟩ : ByteArray), p, 0, [1779033703, 3144134277, 1013904242, 2773480762, 1359893119, 2600822924, 528734635, 1541459225]) = some (.inl (⟨#[]⟩, runF (blk p) H0 (N / 64))) := this
  rw [e]
  simp only [Option.bind_some]
  rw [impl_out hk _ (runF_length rfl _) (run_small _)]

theorem spec_sha {k : Nat} (hk : 9223372036854775808 ≤ k) (s : ByteArray) (hn : s.size ≤ 1099511627776) : spec_Sha.f k s = some (shaF s) := by
  unfold spec_Sha.f
  have hz : zz s.size < 64 := by unfold zz; omega
  rw [show spec_l2Begin.f k = some H0 from rfl, show spec_l2Table.f k = some shaTab from rfl]
  simp only [Option.bind_some]
  have h1 := iter_upto (B := spec_Sha.b0 k) (X := (ByteArray × ByteArray × List Int × List Int × List Int) ⊕ ByteArray) (zz s.size) (fun j => (s, (⟨#[]⟩ : ByteArray), H0, shaTab, [128] ++ List.replicate j 0)) (.inl (s, ⟨#[]⟩, H0, shaTab, [128] ++ List.replicate (zz s.size) 0)) (fun j hj => by
    unfold spec_Sha.b0
    dsimp only
    have e : Int.tmod (IntKind.wrap .i64 ((s.size : Int) + (([128] ++ List.replicate j 0 : List Int).length : Int))) 64 = (((s.size + 1 + j) % 64 : Nat) : Int) := by
      rw [List.length_append, List.length_replicate]
      simp only [List.length_cons, List.length_nil]
      rw [wrap_i64 (by omega) (by omega), Int.tmod_eq_emod_of_nonneg (by omega)]; omega
    rw [e, decide_eq_false (by unfold zz at hj; omega), app_ok (by simp; unfold limOf; omega)]
    simp only [Bool.not_false, cond_true, Option.bind_some]
    rw [List.append_assoc, show List.replicate j (0 : Int) ++ [0] = List.replicate (j + 1) 0 from (List.replicate_succ' (n := j) (a := (0 : Int))).symm]) (by
    unfold spec_Sha.b0
    dsimp only
    have e : Int.tmod (IntKind.wrap .i64 ((s.size : Int) + (([128] ++ List.replicate (zz s.size) 0 : List Int).length : Int))) 64 = (((s.size + 1 + zz s.size) % 64 : Nat) : Int) := by
      rw [List.length_append, List.length_replicate]
      simp only [List.length_cons, List.length_nil]
      rw [wrap_i64 (by omega) (by omega), Int.tmod_eq_emod_of_nonneg (by omega)]; omega
    rw [e, decide_eq_true (by unfold zz; omega)]
    rfl) k (by omega)
  have e1 : iter (X := (ByteArray × ByteArray × List Int × List Int × List Int) ⊕ ByteArray) (spec_Sha.b0 k) k (s, (⟨#[]⟩ : ByteArray), H0, shaTab, [128]) = some (.inl (s, ⟨#[]⟩, H0, shaTab, [128] ++ List.replicate (zz s.size) 0)) := h1
  rw [e1]
  simp only [Option.bind_some]
  unfold spec_Sha.d0
  dsimp only
  have hp0 : (strOfNums ([128] ++ List.replicate (zz s.size) 0)).size = zz s.size + 1 := by rw [V.size_strOfNums]; simp
  have hp1 : (strOfNums [0]).size = 1 := rfl
  rw [cat_ok (by rw [hp0, hp1]; omega), wrap_i64 (n := 8 * (s.size : Int)) (by omega) (by omega), spec_fix7 hk _ (by omega) (by omega)]
  simp only [Option.bind_some]
  rw [cat_ok (by rw [ByteArray.size_append, hp0, hp1, fix7_size]; omega)]
  simp only [Option.bind_some]
  have ep : strOfNums ([128] ++ List.replicate (zz s.size) 0) ++ strOfNums [0] ++ fix7 (8 * (s.size : Int)) = pad s.size := by
    unfold pad
    rw [← nums_append, List.append_assoc, show List.replicate (zz s.size) (0 : Int) ++ [0] = List.replicate (zz s.size + 1) 0 from (List.replicate_succ' (n := zz s.size) (a := (0 : Int))).symm, nums_append]
    rfl
  rw [ep]
  have ea : IntKind.wrap .i64 ((IntKind.wrap .i64 (Int.tdiv (s.size : Int) 64)) * 64) = ((64 * (s.size / 64) : Nat) : Int) := by
    rw [Int.tdiv_eq_ediv_of_nonneg (by omega), wrap_i64 (n := (s.size : Int) / 64) (by omega) (by omega), wrap_i64 (by omega) (by omega)]; omega
  rw [ea]
  have h2 := iter_upto (B := spec_Sha.b1 k) (X := (ByteArray × ByteArray × List Int × List Int × ByteArray × Int) ⊕ ByteArray) (s.size / 64) (fun i => (s, (⟨#[]⟩ : ByteArray), runF (blk s) H0 i, shaTab, pad s.size, ((64 * (s.size / 64) : Nat) : Int), ((64 * i : Nat) : Int))) (.inl (s, ⟨#[]⟩, runF (blk s) H0 (s.size / 64), shaTab, pad s.size, ((64 * (s.size / 64) : Nat) : Int))) (fun i hi => by
    unfold spec_Sha.b1
    dsimp only
    have hl := runF_length (f := blk s) (h := H0) rfl i
    rw [decide_eq_true (show ((64 * i : Nat) : Int) < ((64 * (s.size / 64) : Nat) : Int) by omega), wrap_i64 (n := ((64 * i : Nat) : Int) + 64) (by omega) (by omega), cut_ok (by omega) (by omega) (by omega)]
    simp only [cond_true, Option.bind_some]
    have hb : s.extract (((64 * i : Nat) : Int)).toNat (((64 * i : Nat) : Int) + 64).toNat = blk s i := by
      unfold blk; congr 1
    rw [hb, spec_block hk _ hl _ (blk_size (by omega))]
    rfl) (by
    unfold spec_Sha.b1
    dsimp only
    rw [decide_eq_false (by omega)]
    rfl) k (by omega)
  have e2 : iter (X := (ByteArray × ByteArray × List Int × List Int × ByteArray × Int) ⊕ ByteArray) (spec_Sha.b1 k) k (s, (⟨#[]⟩ : ByteArray), H0, shaTab, pad s.size, ((64 * (s.size / 64) : Nat) : Int), 0) = some (.inl (s, ⟨#[]⟩, runF (blk s) H0 (s.size / 64), shaTab, pad s.size, ((64 * (s.size / 64) : Nat) : Int))) := h2
  rw [e2]
  simp only [Option.bind_some]
  unfold spec_Sha.d1
  dsimp only
  rw [cut_ok (by omega) (by omega) (by omega)]
  simp only [Option.bind_some, Int.toNat_natCast]
  have hps := pad_size s.size
  have hes : (s.extract (64 * (s.size / 64)) s.size).size = s.size - 64 * (s.size / 64) := V.size_ext s (Nat.le_refl _)
  rw [cat_ok (by rw [hes, hps]; omega)]
  simp only [Option.bind_some]
  have hm := pad_mod s.size
  have hrs : (s.extract (64 * (s.size / 64)) s.size ++ pad s.size).size = s.size + zz s.size + 9 - 64 * (s.size / 64) := by rw [ByteArray.size_append, hes, hps]; omega
  have hP : (s ++ pad s.size).size = s.size + zz s.size + 9 := by rw [ByteArray.size_append, hps]; omega
  -- the blocks are the same
  have b1 : ∀ j, j < s.size / 64 → blk (s ++ pad s.size) j = blk s j := fun j hj => by
    refine V.str_ext (by rw [blk_size (by omega), blk_size (by omega)]) fun i hi => ?_
    rw [blk_size (by omega)] at hi
    unfold blk
    rw [V.byteAt_ext _ (by omega) (by omega), V.byteAt_ext _ (by omega) (by omega), byteAt_left (by omega)]
  have b2 : ∀ j, j < (s.size + zz s.size + 9) / 64 - s.size / 64 → blk (s ++ pad s.size) (s.size / 64 + j) = blk (s.extract (64 * (s.size / 64)) s.size ++ pad s.size) j := fun j hj => by
    refine V.str_ext (by rw [blk_size (by omega), blk_size (by omega)]) fun i hi => ?_
    rw [blk_size (by omega)] at hi
    unfold blk
    rw [V.byteAt_ext _ (by omega) (by omega), V.byteAt_ext _ (by omega) (by omega)]
    by_cases hc : 64 * (s.size / 64 + j) + i < s.size
    · rw [byteAt_left hc, byteAt_left (by rw [hes]; omega), V.byteAt_ext s (Nat.le_refl _) (by omega)]
      congr 1; omega
    · rw [byteAt_right (by omega) (by omega), byteAt_right (by rw [hes]; omega) (by rw [hes]; omega), hes]
      congr 1; omega
  have hrun : runF (blk (s ++ pad s.size)) H0 ((s.size + zz s.size + 9) / 64) = runF (blk (s.extract (64 * (s.size / 64)) s.size ++ pad s.size)) (runF (blk s) H0 (s.size / 64)) ((s.size + zz s.size + 9) / 64 - s.size / 64) := by
    have e : (s.size + zz s.size + 9) / 64 = s.size / 64 + ((s.size + zz s.size + 9) / 64 - s.size / 64) := by omega
    conv => lhs; rw [e]
    rw [runF_add, runF_congr b1, runF_congr (f := fun j => blk (s ++ pad s.size) (s.size / 64 + j)) b2]
  unfold shaF
  have hsm := run_small (f := blk (s ++ pad s.size)) ((s.size + zz s.size + 9) / 64)
  have hl8 := runF_length (f := blk (s ++ pad s.size)) (h := H0) rfl ((s.size + zz s.size + 9) / 64)
  rw [hrun] at hsm hl8 ⊢
  have hl0 := runF_length (f := blk s) (h := H0) rfl (s.size / 64)
  generalize runF (blk s) H0 (s.size / 64) = h0 at hl0 hsm hl8
  generalize s.extract (64 * (s.size / 64)) s.size ++ pad s.size = p at hrs hsm hl8
  have hN : (s.size + zz s.size + 9) / 64 - s.size / 64 = p.size / 64 := by omega
  have hpm : p.size % 64 = 0 := by omega
  have hpb : p.size ≤ 2199023255552 := by omega
  rw [hN] at hsm hl8 ⊢
  have h3 := iter_upto (B := spec_Sha.b2 k) (X := (ByteArray × List Int) ⊕ ByteArray) (p.size / 64) (fun i => ((⟨#[]⟩ : ByteArray), runF (blk p) h0 i, shaTab, p, ((64 * i : Nat) : Int))) (.inl (⟨#[]⟩, runF (blk p) h0 (p.size / 64))) (fun i hi => by
    unfold spec_Sha.b2
    dsimp only
    have hl := runF_length (f := blk p) hl0 i
    rw [wrap_i64 (n := ((64 * i : Nat) : Int) + 64) (by omega) (by omega), decide_eq_true (by omega), cut_ok (by omega) (by omega) (by omega)]
    simp only [cond_true, Option.bind_some]
    have hb : p.extract (((64 * i : Nat) : Int)).toNat (((64 * i : Nat) : Int) + 64).toNat = blk p i := by
      unfold blk; congr 1
    rw [hb, spec_block hk _ hl _ (blk_size (by omega))]
    rfl) (by
    unfold spec_Sha.b2
    dsimp only
    rw [wrap_i64 (by omega) (by omega), decide_eq_false (by omega)]
    rfl) k (by omega)
  have e3 : iter (X := (ByteArray × List Int) ⊕ ByteArray) (spec_Sha.b2 k) k ((⟨#[]⟩ : ByteArray), h0, shaTab, p, 0) = some (.inl (⟨#[]⟩, runF (blk p) h0 (p.size / 64))) := h3
  rw [e3]
  simp only [Option.bind_some]
  rw [spec_out hk _ hl8 hsm]
end Go.Proofs.YthiijllhonbjhaaDoor.Rx.S
