/- The plain side of the law: part 2. No condition beside those that each theorem states. -/
import Derived.Test.YtgocmmfhglppjaaGreatDoorRxPlain1
set_option linter.unusedVariables false
set_option linter.unusedSimpArgs false
namespace Go.Proofs.YtgocmmfhglppjaaGreatDoor.Rx.S
open Go.Proofs.YtgocmmfhglppjaaGreatDoor.Rx

/-! the digest: words, rounds, blocks -/
theorem arrL_eq {n : Nat} {xs : List Int} (h : xs.length = n) : arrL n xs = xs := by
  subst h; exact (range_getD (fun x => x) 0 xs).trans (List.map_id _)
theorem wrap_u32 (n : Int) : IntKind.wrap .u32 n = n % 4294967296 := by
  unfold IntKind.wrap; simp [IntKind.signed, IntKind.bits]
theorem or_comm32 (a b : Int) : bits .or .u32 a b = bits .or .u32 b a := by
  unfold bits; simp only; rw [BitVec.or_comm]
def rot (n : Nat) (a : Int) : Int := bits .or .u32 (Int.fdiv a (2 ^ n)) (IntKind.wrap .u32 (a * 2 ^ (32 - n)))
theorem spec_turn2 (k : Nat) (a : Int) : spec_l2Turn.f k a 2 = some (rot 2 a) := by
  unfold spec_l2Turn.f; rw [if_neg (by decide), if_neg (by decide)]; rfl
theorem impl_turn2 (k : Nat) (a : Int) : bits_RotateLeft32.f k a (-2) = some (rot 2 a) := by
  unfold bits_RotateLeft32.f
  rw [show bits .and .u64 (IntKind.wrap .u64 (-2)) 31 = 30 from by decide, if_neg (by decide), if_neg (by decide), or_comm32]; rfl
theorem spec_turn6 (k : Nat) (a : Int) : spec_l2Turn.f k a 6 = some (rot 6 a) := by
  unfold spec_l2Turn.f; rw [if_neg (by decide), if_neg (by decide)]; rfl
theorem impl_turn6 (k : Nat) (a : Int) : bits_RotateLeft32.f k a (-6) = some (rot 6 a) := by
  unfold bits_RotateLeft32.f
  rw [show bits .and .u64 (IntKind.wrap .u64 (-6)) 31 = 26 from by decide, if_neg (by decide), if_neg (by decide), or_comm32]; rfl
theorem spec_turn7 (k : Nat) (a : Int) : spec_l2Turn.f k a 7 = some (rot 7 a) := by
  unfold spec_l2Turn.f; rw [if_neg (by decide), if_neg (by decide)]; rfl
theorem impl_turn7 (k : Nat) (a : Int) : bits_RotateLeft32.f k a (-7) = some (rot 7 a) := by
  unfold bits_RotateLeft32.f
  rw [show bits .and .u64 (IntKind.wrap .u64 (-7)) 31 = 25 from by decide, if_neg (by decide), if_neg (by decide), or_comm32]; rfl
theorem spec_turn11 (k : Nat) (a : Int) : spec_l2Turn.f k a 11 = some (rot 11 a) := by
  unfold spec_l2Turn.f; rw [if_neg (by decide), if_neg (by decide)]; rfl
theorem impl_turn11 (k : Nat) (a : Int) : bits_RotateLeft32.f k a (-11) = some (rot 11 a) := by
  unfold bits_RotateLeft32.f
  rw [show bits .and .u64 (IntKind.wrap .u64 (-11)) 31 = 21 from by decide, if_neg (by decide), if_neg (by decide), or_comm32]; rfl
theorem spec_turn13 (k : Nat) (a : Int) : spec_l2Turn.f k a 13 = some (rot 13 a) := by
  unfold spec_l2Turn.f; rw [if_neg (by decide), if_neg (by decide)]; rfl
theorem impl_turn13 (k : Nat) (a : Int) : bits_RotateLeft32.f k a (-13) = some (rot 13 a) := by
  unfold bits_RotateLeft32.f
  rw [show bits .and .u64 (IntKind.wrap .u64 (-13)) 31 = 19 from by decide, if_neg (by decide), if_neg (by decide), or_comm32]; rfl
theorem spec_turn17 (k : Nat) (a : Int) : spec_l2Turn.f k a 17 = some (rot 17 a) := by
  unfold spec_l2Turn.f; rw [if_neg (by decide), if_neg (by decide)]; rfl
theorem impl_turn17 (k : Nat) (a : Int) : bits_RotateLeft32.f k a (-17) = some (rot 17 a) := by
  unfold bits_RotateLeft32.f
  rw [show bits .and .u64 (IntKind.wrap .u64 (-17)) 31 = 15 from by decide, if_neg (by decide), if_neg (by decide), or_comm32]; rfl
theorem spec_turn18 (k : Nat) (a : Int) : spec_l2Turn.f k a 18 = some (rot 18 a) := by
  unfold spec_l2Turn.f; rw [if_neg (by decide), if_neg (by decide)]; rfl
theorem impl_turn18 (k : Nat) (a : Int) : bits_RotateLeft32.f k a (-18) = some (rot 18 a) := by
  unfold bits_RotateLeft32.f
  rw [show bits .and .u64 (IntKind.wrap .u64 (-18)) 31 = 14 from by decide, if_neg (by decide), if_neg (by decide), or_comm32]; rfl
theorem spec_turn19 (k : Nat) (a : Int) : spec_l2Turn.f k a 19 = some (rot 19 a) := by
  unfold spec_l2Turn.f; rw [if_neg (by decide), if_neg (by decide)]; rfl
theorem impl_turn19 (k : Nat) (a : Int) : bits_RotateLeft32.f k a (-19) = some (rot 19 a) := by
  unfold bits_RotateLeft32.f
  rw [show bits .and .u64 (IntKind.wrap .u64 (-19)) 31 = 13 from by decide, if_neg (by decide), if_neg (by decide), or_comm32]; rfl
theorem spec_turn22 (k : Nat) (a : Int) : spec_l2Turn.f k a 22 = some (rot 22 a) := by
  unfold spec_l2Turn.f; rw [if_neg (by decide), if_neg (by decide)]; rfl
theorem impl_turn22 (k : Nat) (a : Int) : bits_RotateLeft32.f k a (-22) = some (rot 22 a) := by
  unfold bits_RotateLeft32.f
  rw [show bits .and .u64 (IntKind.wrap .u64 (-22)) 31 = 10 from by decide, if_neg (by decide), if_neg (by decide), or_comm32]; rfl
theorem spec_turn25 (k : Nat) (a : Int) : spec_l2Turn.f k a 25 = some (rot 25 a) := by
  unfold spec_l2Turn.f; rw [if_neg (by decide), if_neg (by decide)]; rfl
theorem impl_turn25 (k : Nat) (a : Int) : bits_RotateLeft32.f k a (-25) = some (rot 25 a) := by
  unfold bits_RotateLeft32.f
  rw [show bits .and .u64 (IntKind.wrap .u64 (-25)) 31 = 7 from by decide, if_neg (by decide), if_neg (by decide), or_comm32]; rfl

def wordOf (b : ByteArray) (i : Nat) : Int := bits .or .u32 (bits .or .u32 (bits .or .u32 (IntKind.wrap .u32 ((IntKind.wrap .u32 (byteAt b (4 * i))) * 2 ^ (min (24 : Int).toNat (IntKind.bits .u32)))) (IntKind.wrap .u32 ((IntKind.wrap .u32 (byteAt b (4 * i + 1))) * 2 ^ (min (16 : Int).toNat (IntKind.bits .u32))))) (IntKind.wrap .u32 ((IntKind.wrap .u32 (byteAt b (4 * i + 2))) * 2 ^ (min (8 : Int).toNat (IntKind.bits .u32))))) (IntKind.wrap .u32 (byteAt b (4 * i + 3)))
def schX (a : Int) : Int := bits .xor .u32 (bits .xor .u32 (rot 7 a) (rot 18 a)) (Int.fdiv a (2 ^ (min (3 : Int).toNat (IntKind.bits .u32))))
def schY (a : Int) : Int := bits .xor .u32 (bits .xor .u32 (rot 17 a) (rot 19 a)) (Int.fdiv a (2 ^ (min (10 : Int).toNat (IntKind.bits .u32))))
def sched (w : List Int) (i : Nat) : Int := IntKind.wrap .u32 (IntKind.wrap .u32 (IntKind.wrap .u32 (w.getD (i - 16) 0 + schX (w.getD (i - 15) 0)) + w.getD (i - 7) 0) + schY (w.getD (i - 2) 0))
def words (b : ByteArray) : Nat → List Int
  | 0 => []
  | i + 1 => words b i ++ [if i < 16 then wordOf b i else sched (words b i) i]
theorem words_length (b : ByteArray) : ∀ i, (words b i).length = i
  | 0 => rfl
  | i + 1 => by simp [words, words_length b i]
theorem get_getD {w : List Int} {j : Nat} (h : j < w.length) : w[j]? = some (w.getD j 0) := by
  rw [List.getD_eq_getElem?_getD, List.getElem?_eq_getElem h]; rfl

theorem spec_words1 {k : Nat} (hk : 9223372036854775808 ≤ k) (h t : List Int) (b : ByteArray) (hb : b.size = 64) :
    iter (X := (List Int × List Int × List Int × List Int) ⊕ (List Int)) (spec_l2Block.b0 k) k (h, t, b, [], [], 0) = some (.inl (h, t, [], words b 16)) := by
  refine iter_upto (B := spec_l2Block.b0 k) 16 (fun i => (h, t, b, [], words b i, (i : Int))) (.inl (h, t, [], words b 16)) (fun i hi => ?_) ?_ k (by omega)
  · unfold spec_l2Block.b0
    dsimp only
    have e0 : inb? b.size (IntKind.wrap .i64 (4 * (i : Int))) = some (4 * i) := by
      rw [wrap_i64 (by omega) (by omega), inb_ok (by omega) (by omega)]; congr 1
    have e1 : inb? b.size (IntKind.wrap .i64 ((IntKind.wrap .i64 (4 * (i : Int))) + 1)) = some (4 * i + 1) := by
      rw [wrap_i64 (n := 4 * (i : Int)) (by omega) (by omega), wrap_i64 (by omega) (by omega), inb_ok (by omega) (by omega)]; congr 1
    have e2 : inb? b.size (IntKind.wrap .i64 ((IntKind.wrap .i64 (4 * (i : Int))) + 2)) = some (4 * i + 2) := by
      rw [wrap_i64 (n := 4 * (i : Int)) (by omega) (by omega), wrap_i64 (by omega) (by omega), inb_ok (by omega) (by omega)]; congr 1
    have e3 : inb? b.size (IntKind.wrap .i64 ((IntKind.wrap .i64 (4 * (i : Int))) + 3)) = some (4 * i + 3) := by
      rw [wrap_i64 (n := 4 * (i : Int)) (by omega) (by omega), wrap_i64 (by omega) (by omega), inb_ok (by omega) (by omega)]; congr 1
    rw [decide_eq_true (show (i : Int) < 16 by omega), e0, e1, e2, e3, wrap_i64 (n := (i : Int) + 1) (by omega) (by omega)]
    simp only [cond_true, Option.bind_some]
    rw [app_ok (by rw [words_length]; unfold limOf; simp; omega)]
    simp only [Option.bind_some, words, if_pos hi]
    rfl
  · unfold spec_l2Block.b0
    rfl

theorem spec_words2 {k : Nat} (hk : 9223372036854775808 ≤ k) (h t : List Int) (b : ByteArray) :
    iter (X := (List Int × List Int × List Int × List Int) ⊕ (List Int)) (spec_l2Block.b1 k) k (h, t, [], words b 16, 16) = some (.inl (h, t, [], words b 64)) := by
  refine iter_upto (B := spec_l2Block.b1 k) 48 (fun i => (h, t, [], words b (16 + i), ((16 + i : Nat) : Int))) (.inl (h, t, [], words b 64)) (fun i hi => ?_) ?_ k (by omega)
  · unfold spec_l2Block.b1
    dsimp only
    have hl := words_length b (16 + i)
    have e (c : Nat) (hc : c ≤ 16) (hc1 : 1 ≤ c) : inb? (words b (16 + i)).length (IntKind.wrap .i64 (((16 + i : Nat) : Int) - c)) = some (16 + i - c) := by
      rw [hl, wrap_i64 (by omega) (by omega), inb_ok (by omega) (by omega)]; congr 1; omega
    have g (c : Nat) (hc : c ≤ 16) (hc1 : 1 ≤ c) : (words b (16 + i))[16 + i - c]? = some ((words b (16 + i)).getD (16 + i - c) 0) := get_getD (by rw [hl]; omega)
    have e15 : inb? (words b (16 + i)).length (IntKind.wrap .i64 (((16 + i : Nat) : Int) - 15)) = some (16 + i - 15) := e 15 (by omega) (by omega)
    have g15 := g 15 (by omega) (by omega)
    have e2 : inb? (words b (16 + i)).length (IntKind.wrap .i64 (((16 + i : Nat) : Int) - 2)) = some (16 + i - 2) := e 2 (by omega) (by omega)
    have g2 := g 2 (by omega) (by omega)
    have e16 : inb? (words b (16 + i)).length (IntKind.wrap .i64 (((16 + i : Nat) : Int) - 16)) = some (16 + i - 16) := e 16 (by omega) (by omega)
    have g16 := g 16 (by omega) (by omega)
    have e7 : inb? (words b (16 + i)).length (IntKind.wrap .i64 (((16 + i : Nat) : Int) - 7)) = some (16 + i - 7) := e 7 (by omega) (by omega)
    have g7 := g 7 (by omega) (by omega)
    rw [decide_eq_true (show ((16 + i : Nat) : Int) < 64 by omega), e15, e2, e16, e7]
    simp only [cond_true, Option.bind_some, g15, g2, g16, g7, spec_turn2, impl_turn2, spec_turn6, impl_turn6, spec_turn7, impl_turn7, spec_turn11, impl_turn11, spec_turn13, impl_turn13, spec_turn17, impl_turn17, spec_turn18, impl_turn18, spec_turn19, impl_turn19, spec_turn22, impl_turn22, spec_turn25, impl_turn25]
    rw [app_ok (by rw [hl]; unfold limOf; simp; omega), wrap_i64 (n := ((16 + i : Nat) : Int) + 1) (by omega) (by omega)]
    simp only [Option.bind_some]
    rw [show 16 + (i + 1) = 16 + i + 1 from rfl]
    simp only [words, if_neg (show ¬ 16 + i < 16 by omega)]
    rfl
  · unfold spec_l2Block.b1
    rfl

def chI (e f g : Int) : Int := bits .xor .u32 (bits .and .u32 e f) (bits .and .u32 (bits .xor .u32 (if IntKind.signed .u32 then -1 else IntKind.max .u32) e) g)
def majI (a b c : Int) : Int := bits .xor .u32 (bits .xor .u32 (bits .and .u32 a b) (bits .and .u32 a c)) (bits .and .u32 b c)
def s1I (e : Int) : Int := bits .xor .u32 (bits .xor .u32 (rot 6 e) (rot 11 e)) (rot 25 e)
def s0I (a : Int) : Int := bits .xor .u32 (bits .xor .u32 (rot 2 a) (rot 13 a)) (rot 22 a)
def rndT (v : List Int) (K W : Int) : Int := IntKind.wrap .u32 (IntKind.wrap .u32 (IntKind.wrap .u32 (IntKind.wrap .u32 (v.getD 7 0 + s1I (v.getD 4 0)) + chI (v.getD 4 0) (v.getD 5 0) (v.getD 6 0)) + K) + W)
def rnd (v : List Int) (K W : Int) : List Int := [IntKind.wrap .u32 (rndT v K W + IntKind.wrap .u32 (s0I (v.getD 0 0) + majI (v.getD 0 0) (v.getD 1 0) (v.getD 2 0))), v.getD 0 0, v.getD 1 0, v.getD 2 0, IntKind.wrap .u32 (v.getD 3 0 + rndT v K W), v.getD 4 0, v.getD 5 0, v.getD 6 0]
def rnds (h w : List Int) : Nat → List Int
  | 0 => h
  | i + 1 => rnd (rnds h w i) (shaTab.getD i 0) (w.getD i 0)
theorem rnds_length {h w : List Int} (hh : h.length = 8) : ∀ i, (rnds h w i).length = 8
  | 0 => hh
  | i + 1 => rfl

theorem spec_rounds {k : Nat} (hk : 9223372036854775808 ≤ k) (h : List Int) (hh : h.length = 8) (b : ByteArray) :
    iter (X := (List Int × List Int × List Int) ⊕ (List Int)) (spec_l2Block.b2 k) k (h, shaTab, [], words b 64, h, 0) = some (.inl (h, [], rnds h (words b 64) 64)) := by
  refine iter_upto (B := spec_l2Block.b2 k) 64 (fun i => (h, shaTab, [], words b 64, rnds h (words b 64) i, (i : Int))) (.inl (h, [], rnds h (words b 64) 64)) (fun i hi => ?_) ?_ k (by omega)
  · have hw := words_length b 64
    generalize words b 64 = w at hw
    have hv := rnds_length (w := w) hh i
    rw [show rnds h w (i + 1) = rnd (rnds h w i) (shaTab.getD i 0) (w.getD i 0) from rfl]
    generalize rnds h w i = v at hv
    unfold spec_l2Block.b2
    dsimp only
    have gt : shaTab[i]? = some (shaTab.getD i 0) := get_getD hi
    have gw : w[i]? = some (w.getD i 0) := get_getD (by omega)
    have it : inb? shaTab.length (i : Int) = some i := inb_ok (by omega) (by show (i : Int) < ((64 : Nat) : Int); omega)
    have iw : inb? w.length (i : Int) = some i := inb_ok (by omega) (by omega)
    have gv (j : Nat) (hj : j < 8) : v[j]? = some (v.getD j 0) := get_getD (by omega)
    have i0 : inb? v.length 0 = some 0 := by rw [hv]; rfl
    have i1 : inb? v.length 1 = some 1 := by rw [hv]; rfl
    have i2 : inb? v.length 2 = some 2 := by rw [hv]; rfl
    have i3 : inb? v.length 3 = some 3 := by rw [hv]; rfl
    have i4 : inb? v.length 4 = some 4 := by rw [hv]; rfl
    have i5 : inb? v.length 5 = some 5 := by rw [hv]; rfl
    have i6 : inb? v.length 6 = some 6 := by rw [hv]; rfl
    have i7 : inb? v.length 7 = some 7 := by rw [hv]; rfl
    rw [decide_eq_true (show (i : Int) < 64 by omega), it, iw, i0, i1, i2, i3, i4, i5, i6, i7]
    simp only [cond_true, Option.bind_some, gt, gw, gv 0 (by omega), gv 1 (by omega), gv 2 (by omega), gv 3 (by omega), gv 4 (by omega), gv 5 (by omega), gv 6 (by omega), gv 7 (by omega), spec_turn2, impl_turn2, spec_turn6, impl_turn6, spec_turn7, impl_turn7, spec_turn11, impl_turn11, spec_turn13, impl_turn13, spec_turn17, impl_turn17, spec_turn18, impl_turn18, spec_turn19, impl_turn19, spec_turn22, impl_turn22, spec_turn25, impl_turn25]
    rw [wrap_i64 (n := (i : Int) + 1) (by omega) (by omega)]
    rfl
  · unfold spec_l2Block.b2
    rfl

def addL (h v : List Int) : List Int := (List.range 8).map fun j => IntKind.wrap .u32 (h.getD j 0 + v.getD j 0)
def blockF (h : List Int) (b : ByteArray) : List Int := addL h (rnds h (words b 64) 64)
theorem addL_length (h v : List Int) : (addL h v).length = 8 := rfl

theorem spec_block {k : Nat} (hk : 9223372036854775808 ≤ k) (h : List Int) (hh : h.length = 8) (b : ByteArray) (hb : b.size = 64) : spec_l2Block.f k h shaTab b = some (blockF h b) := by
  unfold spec_l2Block.f
  rw [spec_words1 hk h shaTab b hb]
  simp only [Option.bind_some]
  unfold spec_l2Block.d0
  dsimp only
  rw [spec_words2 hk h shaTab b]
  simp only [Option.bind_some]
  unfold spec_l2Block.d1
  dsimp only
  rw [app_ok (by rw [hh]; unfold limOf; simp), List.nil_append]
  simp only [Option.bind_some]
  rw [spec_rounds hk h hh b]
  simp only [Option.bind_some]
  unfold spec_l2Block.d2
  dsimp only
  have hv := rnds_length (w := words b 64) hh 64
  unfold blockF
  generalize rnds h (words b 64) 64 = v at hv
  have := iter_upto (B := spec_l2Block.b3 k) (X := (List Int × List Int) ⊕ (List Int)) 8 (fun i => (h, [], v, (List.range i).map (fun j => IntKind.wrap .u32 (h.getD j 0 + v.getD j 0)), (i : Int))) (.inl ([], addL h v)) (fun i hi => by
    unfold spec_l2Block.b3
    dsimp only
    rw [decide_eq_true (show (i : Int) < 8 by omega), inb_ok (by omega) (by omega), inb_ok (by omega) (by omega), Int.toNat_natCast]
    simp only [cond_true, Option.bind_some, get_getD (show i < h.length by omega), get_getD (show i < v.length by omega)]
    rw [app_ok (by rw [List.length_map, List.length_range]; unfold limOf; simp; omega), wrap_i64 (n := (i : Int) + 1) (by omega) (by omega), List.range_succ, List.map_append]
    rfl) (by unfold spec_l2Block.b3; rfl) k (by omega)
  have e : iter (X := (List Int × List Int) ⊕ (List Int)) (spec_l2Block.b3 k) k (h, [], v, [], 0) = some (.inl ([], addL h v)) := this
  rw [e]
  rfl
end Go.Proofs.YtgocmmfhglppjaaGreatDoor.Rx.S
namespace Go.Proofs.YtgocmmfhglppjaaGreatDoor.Rx.S
open Go.Proofs.YtgocmmfhglppjaaGreatDoor.Rx

def arrAt (b : ByteArray) (i : Nat) : List Int := words b i ++ List.replicate (64 - i) 0
theorem arrAt_length (b : ByteArray) {i : Nat} (h : i ≤ 64) : (arrAt b i).length = 64 := by
  simp [arrAt, words_length]; omega
theorem arrAt_getD (b : ByteArray) {i j : Nat} (h : j < i) : (arrAt b i).getD j 0 = (words b i).getD j 0 := by
  unfold arrAt
  rw [List.getD_eq_getElem?_getD, List.getD_eq_getElem?_getD, List.getElem?_append_left (by rw [words_length]; exact h)]
theorem arrAt_set (b : ByteArray) {i : Nat} (x : Int) (h : i < 64) : (arrAt b i).set i x = words b i ++ [x] ++ List.replicate (64 - (i + 1)) 0 := by
  unfold arrAt
  rw [List.set_append_right _ _ (by rw [words_length]; exact Nat.le_refl _), words_length, Nat.sub_self, List.append_assoc]
  congr 1
  obtain ⟨n, hn⟩ : ∃ n, 64 - i = n + 1 := ⟨63 - i, by omega⟩
  rw [hn, show 64 - (i + 1) = n by omega]
  rfl
theorem sched_at (b : ByteArray) {i : Nat} (h : 16 ≤ i) : sched (arrAt b i) i = sched (words b i) i := by
  unfold sched
  rw [arrAt_getD b (show i - 16 < i by omega), arrAt_getD b (show i - 15 < i by omega), arrAt_getD b (show i - 7 < i by omega), arrAt_getD b (show i - 2 < i by omega)]

theorem four (k : Nat) (b : ByteArray) (hb : b.size = 64) {i : Nat} (hi : i < 16) : impl_fourBytes.f k (b.extract (4 * i) b.size) = some (wordOf b i) := by
  unfold impl_fourBytes.f
  have hs : (b.extract (4 * i) b.size).size = 64 - 4 * i := by rw [V.size_ext b (Nat.le_refl _), hb]
  have g (j : Nat) (hj : j < 4) : byteAt (b.extract (4 * i) b.size) j = byteAt b (4 * i + j) := V.byteAt_ext b (Nat.le_refl _) (by omega)
  have i0 : inb? (b.extract (4 * i) b.size).size 0 = some 0 := inb_ok (by omega) (by omega)
  have i1 : inb? (b.extract (4 * i) b.size).size 1 = some 1 := inb_ok (by omega) (by omega)
  have i2 : inb? (b.extract (4 * i) b.size).size 2 = some 2 := inb_ok (by omega) (by omega)
  have i3 : inb? (b.extract (4 * i) b.size).size 3 = some 3 := inb_ok (by omega) (by omega)
  rw [i0, i1, i2, i3]
  simp only [Option.bind_some]
  rw [g 0 (by omega), g 1 (by omega), g 2 (by omega), g 3 (by omega)]
  rfl

theorem impl_words1 {k : Nat} (hk : 9223372036854775808 ≤ k) (h z : List Int) (hh : h.length = 8) (hz : z.length = 8) (b : ByteArray) (hb : b.size = 64) :
    iter (X := (List Int × List Int × List Int) ⊕ (List Int)) (impl_shaBlock.b0 k) k (b, 0, h, z, List.replicate 64 0) = some (.inl (h, z, arrAt b 16)) := by
  refine iter_upto (B := impl_shaBlock.b0 k) 16 (fun i => (b, (i : Int), h, z, arrAt b i)) (.inl (h, z, arrAt b 16)) (fun i hi => ?_) ?_ k (by omega)
  · unfold impl_shaBlock.b0
    dsimp only
    rw [decide_eq_true (show (i : Int) < 16 by omega), wrap_i64 (n := 4 * (i : Int)) (by omega) (by omega), cut_ok (by omega) (by omega) (by omega), inb_ok (n := 64) (i := (i : Int)) (by omega) (by omega), wrap_i64 (n := (i : Int) + 1) (by omega) (by omega)]
    simp only [cond_true, Option.bind_some, Int.toNat_natCast]
    rw [show (4 * (i : Int)).toNat = 4 * i by omega, four k b hb hi]
    simp only [Option.bind_some]
    rw [arrL_eq hh, arrL_eq hz, arrL_eq (arrAt_length b (by omega)), arrAt_set b _ (by omega)]
    rw [arrL_eq (by simp [words_length]; omega)]
    simp only [arrAt, words, if_pos hi]
    rfl
  · unfold impl_shaBlock.b0
    dsimp only
    rw [arrL_eq hh, arrL_eq hz, arrL_eq (arrAt_length b (by omega))]
    rfl

theorem impl_words2 {k : Nat} (hk : 9223372036854775808 ≤ k) (h z : List Int) (hh : h.length = 8) (hz : z.length = 8) (b : ByteArray) :
    iter (X := (List Int × List Int × List Int) ⊕ (List Int)) (impl_shaBlock.b1 k) k (16, h, z, arrAt b 16) = some (.inl (h, z, arrAt b 64)) := by
  refine iter_upto (B := impl_shaBlock.b1 k) 48 (fun i => (((16 + i : Nat) : Int), h, z, arrAt b (16 + i))) (.inl (h, z, arrAt b 64)) (fun i hi => ?_) ?_ k (by omega)
  · unfold impl_shaBlock.b1
    dsimp only
    have e (c : Nat) (hc : c ≤ 16) (hc1 : 1 ≤ c) : inb? 64 (IntKind.wrap .i64 (((16 + i : Nat) : Int) - c)) = some (16 + i - c) := by
      rw [wrap_i64 (by omega) (by omega), inb_ok (by omega) (by omega)]; congr 1; omega
    have e15 : inb? 64 (IntKind.wrap .i64 (((16 + i : Nat) : Int) - 15)) = some (16 + i - 15) := e 15 (by omega) (by omega)
    have e2 : inb? 64 (IntKind.wrap .i64 (((16 + i : Nat) : Int) - 2)) = some (16 + i - 2) := e 2 (by omega) (by omega)
    have e16 : inb? 64 (IntKind.wrap .i64 (((16 + i : Nat) : Int) - 16)) = some (16 + i - 16) := e 16 (by omega) (by omega)
    have e7 : inb? 64 (IntKind.wrap .i64 (((16 + i : Nat) : Int) - 7)) = some (16 + i - 7) := e 7 (by omega) (by omega)
    rw [decide_eq_true (show ((16 + i : Nat) : Int) < 64 by omega), e15, e2, e16, e7, inb_ok (n := 64) (i := ((16 + i : Nat) : Int)) (by omega) (by omega), arrL_eq hh, arrL_eq hz, arrL_eq (arrAt_length b (show 16 + i ≤ 64 by omega)), wrap_i64 (n := ((16 + i : Nat) : Int) + 1) (by omega) (by omega)]
    simp only [cond_true, Option.bind_some, impl_turn7, impl_turn18, impl_turn17, impl_turn19, Int.toNat_natCast]
    have hs := sched_at b (show 16 ≤ 16 + i by omega)
    unfold sched schX schY at hs
    rw [hs, arrAt_set b _ (by omega), arrL_eq (by simp [words_length]; omega)]
    rw [show 16 + (i + 1) = 16 + i + 1 from rfl]
    simp only [arrAt, words, if_neg (show ¬ 16 + i < 16 by omega)]
    rfl
  · unfold impl_shaBlock.b1
    dsimp only
    rw [arrL_eq hh, arrL_eq hz, arrL_eq (arrAt_length b (by omega))]
    rfl

theorem wrap_assoc (a b c : Int) : IntKind.wrap .u32 (IntKind.wrap .u32 (a + b) + c) = IntKind.wrap .u32 (a + IntKind.wrap .u32 (b + c)) := by
  simp only [wrap_u32]; omega

theorem impl_rounds {k : Nat} (hk : 9223372036854775808 ≤ k) (h z w : List Int) (hh : h.length = 8) (hz : z.length = 8) (hw : w.length = 64) :
    iter (X := (List Int × List Int × List Int) ⊕ (List Int)) (impl_shaBlock.b2 k) k (0, h, z, w, h) = some (.inl (h, z, rnds h w 64)) := by
  refine iter_upto (B := impl_shaBlock.b2 k) 64 (fun i => ((i : Int), h, z, w, rnds h w i)) (.inl (h, z, rnds h w 64)) (fun i hi => ?_) ?_ k (by omega)
  · rw [show rnds h w (i + 1) = rnd (rnds h w i) (shaTab.getD i 0) (w.getD i 0) from rfl]
    generalize rnds h w i = v
    unfold impl_shaBlock.b2
    dsimp only
    have gt : shaTab[i]? = some (shaTab.getD i 0) := get_getD hi
    rw [decide_eq_true (show (i : Int) < 64 by omega), inb_ok (n := 64) (i := (i : Int)) (by omega) (by omega), arrL_eq hh, arrL_eq hz, arrL_eq hw, wrap_i64 (n := (i : Int) + 1) (by omega) (by omega)]
    simp only [cond_true, Option.bind_some, impl_turn6, impl_turn11, impl_turn25, impl_turn2, impl_turn13, impl_turn22, Int.toNat_natCast, gt]
    rw [wrap_assoc]
    rfl
  · unfold impl_shaBlock.b2
    dsimp only
    rw [arrL_eq hh, arrL_eq hz, arrL_eq (rnds_length (w := w) hh 64)]
    rfl

def addI (h v : List Int) (i : Nat) : List Int := (List.range 8).map fun j => if j < i then IntKind.wrap .u32 (h.getD j 0 + v.getD j 0) else h.getD j 0
theorem addL_get (h v : List Int) {j : Nat} (hj : j < 8) : (addL h v).getD j 0 = IntKind.wrap .u32 (h.getD j 0 + v.getD j 0) := by
  unfold addL
  rw [List.getD_eq_getElem?_getD, List.getElem?_map, List.getElem?_range hj]; rfl
theorem addI_get (h v : List Int) {i j : Nat} (hj : j < 8) : (addI h v i).getD j 0 = if j < i then IntKind.wrap .u32 (h.getD j 0 + v.getD j 0) else h.getD j 0 := by
  unfold addI
  rw [List.getD_eq_getElem?_getD, List.getElem?_map, List.getElem?_range hj]; rfl
theorem list8_ext {a b : List Int} (ha : a.length = 8) (hb : b.length = 8) (h : ∀ j, j < 8 → a.getD j 0 = b.getD j 0) : a = b := by
  apply List.ext_getElem (by omega)
  intro j h1 h2
  have := h j (by omega)
  simpa [List.getD_eq_getElem?_getD, List.getElem?_eq_getElem h1, List.getElem?_eq_getElem h2] using this

theorem impl_block {k : Nat} (hk : 9223372036854775808 ≤ k) (h : List Int) (hh : h.length = 8) (b : ByteArray) (hb : b.size = 64) : impl_shaBlock.f k h b = some (blockF h b) := by
  unfold impl_shaBlock.f
  have hz : (List.replicate 8 (0 : Int)).length = 8 := rfl
  rw [arrL_eq hh, impl_words1 hk h _ hh hz b hb]
  simp only [Option.bind_some]
  unfold impl_shaBlock.d0
  dsimp only
  rw [arrL_eq hh, arrL_eq hz, arrL_eq (arrAt_length b (by omega)), impl_words2 hk h _ hh hz b]
  simp only [Option.bind_some]
  unfold impl_shaBlock.d1
  dsimp only
  have ew : arrAt b 64 = words b 64 := by simp [arrAt]
  have hw := words_length b 64
  rw [arrL_eq hh, arrL_eq hz, arrL_eq (arrAt_length b (by omega)), ew, impl_rounds hk h _ _ hh hz hw]
  simp only [Option.bind_some]
  unfold impl_shaBlock.d2
  dsimp only
  have hv := rnds_length (w := words b 64) hh 64
  rw [arrL_eq hh, arrL_eq hz, arrL_eq hv]
  unfold blockF
  generalize rnds h (words b 64) 64 = v at hv
  have hl : ∀ i, (addI h v i).length = 8 := fun i => rfl
  have := iter_upto (B := impl_shaBlock.b3 k) (X := (List Int × List Int) ⊕ (List Int)) 8 (fun i => ((i : Int), addI h v i, List.replicate 8 0, v)) (.inl (addI h v 8, List.replicate 8 0)) (fun i hi => by
    unfold impl_shaBlock.b3
    dsimp only
    rw [decide_eq_true (show (i : Int) < 8 by omega), inb_ok (n := 8) (i := (i : Int)) (by omega) (by omega), arrL_eq (hl i), arrL_eq hz, arrL_eq hv, wrap_i64 (n := (i : Int) + 1) (by omega) (by omega)]
    simp only [cond_true, Option.bind_some, Int.toNat_natCast]
    rw [addI_get h v hi, if_neg (by omega), arrL_eq (by rw [List.length_set]; exact hl i)]
    have e : (addI h v i).set i (IntKind.wrap .u32 (h.getD i 0 + v.getD i 0)) = addI h v (i + 1) := by
      refine list8_ext (by rw [List.length_set]; exact hl i) (hl _) fun j hj => ?_
      rw [addI_get h v hj, List.getD_eq_getElem?_getD, List.getElem?_set]
      by_cases he : i = j
      · subst he
        rw [if_pos rfl, if_pos (by rw [hl]; omega), if_pos (by omega)]; rfl
      · rw [if_neg he, ← List.getD_eq_getElem?_getD, addI_get h v hj]
        by_cases h1 : j < i
        · rw [if_pos h1, if_pos (by omega)]
        · rw [if_neg h1, if_neg (by omega)]
    rw [e]
    rfl) (by
    unfold impl_shaBlock.b3
    dsimp only
    rw [arrL_eq (hl 8), arrL_eq hz, arrL_eq hv]
    rfl) k (by omega)
  have e0 : addI h v 0 = h := list8_ext (hl 0) hh fun j hj => by rw [addI_get h v hj, if_neg (by omega)]
  have e8 : addI h v 8 = addL h v := list8_ext (hl 8) rfl fun j hj => by
    rw [addI_get h v hj, if_pos hj, addL_get h v hj]
  rw [e0, e8] at this
  have e : iter (X := (List Int × List Int) ⊕ (List Int)) (impl_shaBlock.b3 k) k (0, h, List.replicate 8 0, v) = some (.inl (addL h v, List.replicate 8 0)) := this
  rw [e]
  simp only [Option.bind_some]
  unfold impl_shaBlock.d3
  dsimp only
  rw [arrL_eq (addL_length h v)]
end Go.Proofs.YtgocmmfhglppjaaGreatDoor.Rx.S
namespace Go.Proofs.YtgocmmfhglppjaaGreatDoor.Rx.S
open Go.Proofs.YtgocmmfhglppjaaGreatDoor.Rx Go.Proofs.YtgocmmfhglppjaaGreatDoor.Rx.Y

/-! numbers of seven bytes -/
theorem spec_fixN (k : Nat) (n w : Int) (z : ByteArray) (l : List Int) (i : Int) (h0 : 0 ≤ n) (h1 : n ≤ 4611686018427387904) (hw : i < w) (hi0 : 0 ≤ i) (hi : i ≤ 8) (hl : l.length ≤ 8) :
    spec_Fixed.b0 k (n, w, z, strOfNums l, i) = some (.inl (n / 256, w, z, strOfNums (n % 256 :: l), i + 1)) := by
  unfold spec_Fixed.b0
  dsimp only
  have e1 : Int.tmod n 256 = n % 256 := Int.tmod_eq_emod_of_nonneg h0
  have e2 : IntKind.wrap .i64 (Int.tdiv n 256) = n / 256 := by rw [Int.tdiv_eq_ediv_of_nonneg h0]; exact wrap_i64 (by omega) (by omega)
  rw [decide_eq_true hw, e1, e2, wrap_u8 (by omega) (by omega), cat_ok (by rw [V.size_strOfNums, V.size_strOfNums]; simp; omega), wrap_i64 (n := i + 1) (by omega) (by omega), nums_cons]
  rfl

def fix7 (n : Int) : ByteArray := strOfNums [n / 256 / 256 / 256 / 256 / 256 / 256 % 256, n / 256 / 256 / 256 / 256 / 256 % 256, n / 256 / 256 / 256 / 256 % 256, n / 256 / 256 / 256 % 256, n / 256 / 256 % 256, n / 256 % 256, n % 256]
theorem fix7_size (n : Int) : (fix7 n).size = 7 := by unfold fix7; rw [V.size_strOfNums]; rfl

theorem spec_fix7 {k : Nat} (hk : 9223372036854775808 ≤ k) (n : Int) (h0 : 0 ≤ n) (h1 : n < 72057594037927936) : spec_Fixed.f k n 7 = some (fix7 n) := by
  unfold spec_Fixed.f fix7
  rw [V.l1]
  obtain ⟨k, rfl⟩ : ∃ m, k = m + 8 := ⟨k - 8, by omega⟩
  have key : iter (X := (Int × ByteArray × ByteArray) ⊕ ByteArray) (spec_Fixed.b0 (k + 8)) (k + 8) (n, 7, (⟨#[]⟩ : ByteArray), (⟨#[]⟩ : ByteArray), 0) = some (.inl (n / 256 / 256 / 256 / 256 / 256 / 256 / 256, ⟨#[]⟩, strOfNums [n / 256 / 256 / 256 / 256 / 256 / 256 % 256, n / 256 / 256 / 256 / 256 / 256 % 256, n / 256 / 256 / 256 / 256 % 256, n / 256 / 256 / 256 % 256, n / 256 / 256 % 256, n / 256 % 256, n % 256])) := by
    conv => lhs; rw [show ((⟨#[]⟩ : ByteArray), (⟨#[]⟩ : ByteArray), (0 : Int)) = ((⟨#[]⟩ : ByteArray), strOfNums [], (0 : Int)) from rfl]
    rw [V.iter_inl (spec_fixN (k + 8) n 7 ⟨#[]⟩ [] 0 h0 (by omega) (by omega) (by omega) (by omega) (by simp)),
      V.iter_inl (spec_fixN (k + 8) (n / 256) 7 ⟨#[]⟩ _ (0 + 1) (by omega) (by omega) (by omega) (by omega) (by omega) (by simp)),
      V.iter_inl (spec_fixN (k + 8) (n / 256 / 256) 7 ⟨#[]⟩ _ (0 + 1 + 1) (by omega) (by omega) (by omega) (by omega) (by omega) (by simp)),
      V.iter_inl (spec_fixN (k + 8) (n / 256 / 256 / 256) 7 ⟨#[]⟩ _ (0 + 1 + 1 + 1) (by omega) (by omega) (by omega) (by omega) (by omega) (by simp)),
      V.iter_inl (spec_fixN (k + 8) (n / 256 / 256 / 256 / 256) 7 ⟨#[]⟩ _ (0 + 1 + 1 + 1 + 1) (by omega) (by omega) (by omega) (by omega) (by omega) (by simp)),
      V.iter_inl (spec_fixN (k + 8) (n / 256 / 256 / 256 / 256 / 256) 7 ⟨#[]⟩ _ (0 + 1 + 1 + 1 + 1 + 1) (by omega) (by omega) (by omega) (by omega) (by omega) (by simp)),
      V.iter_inl (spec_fixN (k + 8) (n / 256 / 256 / 256 / 256 / 256 / 256) 7 ⟨#[]⟩ _ (0 + 1 + 1 + 1 + 1 + 1 + 1) (by omega) (by omega) (by omega) (by omega) (by omega) (by simp))]
    refine V.iter_inr ?_
    unfold spec_Fixed.b0
    dsimp only
    rw [decide_eq_false (by omega)]; rfl
  rw [key, decide_eq_false (show ¬ n < 0 by omega)]
  simp only [Option.bind_some]
  unfold spec_Fixed.d0
  dsimp only
  rw [decide_eq_false (show ¬ (0 < n / 256 / 256 / 256 / 256 / 256 / 256 / 256) by omega)]
  rfl

theorem impl_fix7 {k : Nat} (hk : 9223372036854775808 ≤ k) (n : Int) (h0 : 0 ≤ n) (h1 : n < 72057594037927936) : impl_Fixed.f k n 7 = some (fix7 n) := by
  unfold impl_Fixed.f fix7
  rw [W.within_eq]
  have e2 : IntKind.wrap .i64 (1 * 2 ^ (min (IntKind.wrap .i64 (8 * 7)).toNat (IntKind.bits .i64))) = 72057594037927936 := rfl
  have step : ∀ (m : Int) (z : ByteArray) (l : List Int) (i : Nat) (y : Int), 0 ≤ m → m ≤ 4611686018427387904 → l.length = 7 → i < 7 → l[i]? = some y → impl_Fixed.b0 k (m, z, l, (i : Int)) = some (.inl (m / 256, z, l.set i (m % 256), (i : Int) - 1)) := by
    intro m z l i y m0 m1 hl hi hy
    unfold impl_Fixed.b0
    dsimp only
    have e3 : Int.fdiv m (2 ^ (min (8 : Int).toNat (IntKind.bits .i64))) = m / 256 := by
      have : (2 ^ (min (8 : Int).toNat (IntKind.bits .i64)) : Int) = 256 := rfl
      rw [this, Int.fdiv_eq_ediv_of_nonneg m (by omega)]
    rw [decide_eq_true (show (0 : Int) ≤ (i : Int) by omega), inb_ok (by omega) (by omega), Int.toNat_natCast, e3, and255 m0 (by omega), wrap_u8 (by omega) (by omega), wrap_i64 (n := (i : Int) - 1) (by omega) (by omega)]
    simp only [cond_true, Option.bind_some, hy]
  obtain ⟨kk, hkk⟩ : ∃ m, k = m + 8 := ⟨k - 8, by omega⟩
  have key : iter (X := (ByteArray × List Int) ⊕ ByteArray) (impl_Fixed.b0 k) k (n, (⟨#[]⟩ : ByteArray), [0, 0, 0, 0, 0, 0, 0], 6) = some (.inl (⟨#[]⟩, [n / 256 / 256 / 256 / 256 / 256 / 256 % 256, n / 256 / 256 / 256 / 256 / 256 % 256, n / 256 / 256 / 256 / 256 % 256, n / 256 / 256 / 256 % 256, n / 256 / 256 % 256, n / 256 % 256, n % 256])) := by
    have a0 := step (n) ⟨#[]⟩ [0, 0, 0, 0, 0, 0, 0] 6 0 (by omega) (by omega) rfl (by omega) rfl
    have a1 := step (n / 256) ⟨#[]⟩ [0, 0, 0, 0, 0, 0, n % 256] 5 0 (by omega) (by omega) rfl (by omega) rfl
    have a2 := step (n / 256 / 256) ⟨#[]⟩ [0, 0, 0, 0, 0, n / 256 % 256, n % 256] 4 0 (by omega) (by omega) rfl (by omega) rfl
    have a3 := step (n / 256 / 256 / 256) ⟨#[]⟩ [0, 0, 0, 0, n / 256 / 256 % 256, n / 256 % 256, n % 256] 3 0 (by omega) (by omega) rfl (by omega) rfl
    have a4 := step (n / 256 / 256 / 256 / 256) ⟨#[]⟩ [0, 0, 0, n / 256 / 256 / 256 % 256, n / 256 / 256 % 256, n / 256 % 256, n % 256] 2 0 (by omega) (by omega) rfl (by omega) rfl
    have a5 := step (n / 256 / 256 / 256 / 256 / 256) ⟨#[]⟩ [0, 0, n / 256 / 256 / 256 / 256 % 256, n / 256 / 256 / 256 % 256, n / 256 / 256 % 256, n / 256 % 256, n % 256] 1 0 (by omega) (by omega) rfl (by omega) rfl
    have a6 := step (n / 256 / 256 / 256 / 256 / 256 / 256) ⟨#[]⟩ [0, n / 256 / 256 / 256 / 256 / 256 % 256, n / 256 / 256 / 256 / 256 % 256, n / 256 / 256 / 256 % 256, n / 256 / 256 % 256, n / 256 % 256, n % 256] 0 0 (by omega) (by omega) rfl (by omega) rfl
    have b : impl_Fixed.b0 k (n / 256 / 256 / 256 / 256 / 256 / 256 / 256, (⟨#[]⟩ : ByteArray), [n / 256 / 256 / 256 / 256 / 256 / 256 % 256, n / 256 / 256 / 256 / 256 / 256 % 256, n / 256 / 256 / 256 / 256 % 256, n / 256 / 256 / 256 % 256, n / 256 / 256 % 256, n / 256 % 256, n % 256], (-1 : Int)) = some (.inr (.inl (⟨#[]⟩, [n / 256 / 256 / 256 / 256 / 256 / 256 % 256, n / 256 / 256 / 256 / 256 / 256 % 256, n / 256 / 256 / 256 / 256 % 256, n / 256 / 256 / 256 % 256, n / 256 / 256 % 256, n / 256 % 256, n % 256]))) := rfl
    conv => lhs; arg 2; rw [hkk]
    exact (V.iter_inl a0).trans ((V.iter_inl a1).trans ((V.iter_inl a2).trans ((V.iter_inl a3).trans ((V.iter_inl a4).trans ((V.iter_inl a5).trans ((V.iter_inl a6).trans (V.iter_inr b)))))))
  have e5 : mk? (limOf 1) 7 (0 : Int) = some [0, 0, 0, 0, 0, 0, 0] := rfl
  have e6 : IntKind.wrap .i64 (7 - 1) = 6 := rfl
  rw [e2, e5, e6, decide_eq_false (show ¬ n < 0 by omega), decide_eq_false (show ¬ (72057594037927936 : Int) ≤ n by omega)]
  simp only [Option.bind_some]
  rw [key]
  rfl
end Go.Proofs.YtgocmmfhglppjaaGreatDoor.Rx.S
namespace Go.Proofs.YtgocmmfhglppjaaGreatDoor.Rx.S
open Go.Proofs.YtgocmmfhglppjaaGreatDoor.Rx Go.Proofs.YtgocmmfhglppjaaGreatDoor.Rx.Y

theorem nums_append (a b : List Int) : strOfNums (a ++ b) = strOfNums a ++ strOfNums b := by
  unfold strOfNums
  apply ByteArray.ext
  simp [ByteArray.data_append]
theorem byteAt_left {s t : ByteArray} {i : Nat} (h : i < s.size) : byteAt (s ++ t) i = byteAt s i := by
  rw [V.byteAt_lt h, V.byteAt_lt (by rw [ByteArray.size_append]; omega), ByteArray.getElem_append_left h]
theorem byteAt_right {s t : ByteArray} {i : Nat} (h : s.size ≤ i) (h2 : i < s.size + t.size) : byteAt (s ++ t) i = byteAt t (i - s.size) := by
  rw [V.byteAt_lt (show i - s.size < t.size by omega), V.byteAt_lt (by rw [ByteArray.size_append]; omega), ByteArray.getElem_append_right h]

def H0 : List Int := [1779033703, 3144134277, 1013904242, 2773480762, 1359893119, 2600822924, 528734635, 1541459225]
def runF (f : Nat → ByteArray) (h : List Int) : Nat → List Int
  | 0 => h
  | m + 1 => blockF (runF f h m) (f m)
theorem runF_length {f : Nat → ByteArray} {h : List Int} (hh : h.length = 8) : ∀ m, (runF f h m).length = 8
  | 0 => hh
  | m + 1 => rfl
theorem runF_congr {f g : Nat → ByteArray} {h : List Int} : ∀ {m : Nat}, (∀ j, j < m → f j = g j) → runF f h m = runF g h m
  | 0, _ => rfl
  | m + 1, e => by simp only [runF]; rw [runF_congr (fun j hj => e j (by omega)), e m (by omega)]
theorem runF_add (f : Nat → ByteArray) (h : List Int) (a : Nat) : ∀ m, runF f h (a + m) = runF (fun j => f (a + j)) (runF f h a) m
  | 0 => rfl
  | m + 1 => by rw [← Nat.add_assoc]; simp only [runF]; rw [runF_add f h a m]
def blk (p : ByteArray) (j : Nat) : ByteArray := p.extract (64 * j) (64 * j + 64)
theorem blk_size {p : ByteArray} {j : Nat} (h : 64 * j + 64 ≤ p.size) : (blk p j).size = 64 := by
  unfold blk; rw [V.size_ext p h]; omega

def zz (n : Nat) : Nat := (64 - (n + 9) % 64) % 64
def pad (n : Nat) : ByteArray := (⟨#[128]⟩ ++ strOfNums (List.replicate (zz n + 1) 0)) ++ fix7 (8 * n)
theorem pad_size (n : Nat) : (pad n).size = zz n + 9 := by
  unfold pad
  rw [ByteArray.size_append, ByteArray.size_append, V.size_strOfNums, fix7_size, List.length_replicate]
  show 1 + _ + 7 = _
  omega
def fix4 (n : Int) : ByteArray := strOfNums [n / 256 / 256 / 256 % 256, n / 256 / 256 % 256, n / 256 % 256, n % 256]
theorem fix4_size (n : Int) : (fix4 n).size = 4 := by unfold fix4; rw [V.size_strOfNums]; rfl
def outF (h : List Int) : Nat → ByteArray
  | 0 => ⟨#[]⟩
  | i + 1 => outF h i ++ fix4 (h.getD i 0)
theorem outF_size (h : List Int) : ∀ i, (outF h i).size = 4 * i
  | 0 => rfl
  | i + 1 => by simp only [outF]; rw [ByteArray.size_append, outF_size h i, fix4_size]; omega
/-- the digest -/
def shaF (s : ByteArray) : ByteArray := outF (runF (blk (s ++ pad s.size)) H0 ((s.size + zz s.size + 9) / 64)) 8
theorem shaF_size (s : ByteArray) : (shaF s).size = 32 := outF_size _ 8

def Small (h : List Int) : Prop := ∀ j, j < 8 → 0 ≤ h.getD j 0 ∧ h.getD j 0 < 4294967296
theorem block_small (h : List Int) (b : ByteArray) : Small (blockF h b) := fun j hj => by
  unfold blockF
  rw [addL_get _ _ hj, wrap_u32]
  omega
theorem H0_small : Small H0 := by unfold Small; decide
theorem run_small {f : Nat → ByteArray} : ∀ m, Small (runF f H0 m)
  | 0 => H0_small
  | m + 1 => block_small _ _

theorem impl_out {k : Nat} (hk : 9223372036854775808 ≤ k) (h : List Int) (hh : h.length = 8) (hs : Small h) : impl_Sha.d0 k (⟨#[]⟩, h) = some (outF h 8) := by
  unfold impl_Sha.d0
  dsimp only
  rw [arrL_eq hh]
  have := iter_upto (B := impl_Sha.b1 k) (X := (ByteArray × ByteArray) ⊕ ByteArray) 8 (fun i => ((⟨#[]⟩ : ByteArray), outF h i, h, (i : Int))) (.inl (⟨#[]⟩, outF h 8)) (fun i hi => by
    unfold impl_Sha.b1
    dsimp only
    obtain ⟨h1, h2⟩ := hs i hi
    rw [decide_eq_true (show (i : Int) < 8 by omega), inb_ok (n := 8) (i := (i : Int)) (by omega) (by omega), arrL_eq hh, Int.toNat_natCast]
    simp only [cond_true, Option.bind_some]
    rw [wrap_i64 (n := h.getD i 0) (by omega) (by omega), impl_fix4 hk _ h1 h2]
    simp only [Option.bind_some]
    rw [cat_ok (by rw [outF_size]; have := fix4_size (h.getD i 0); unfold fix4 at this; rw [this]; omega), wrap_i64 (n := (i : Int) + 1) (by omega) (by omega)]
    rfl) (by unfold impl_Sha.b1; rfl) k (by omega)
  have e : iter (X := (ByteArray × ByteArray) ⊕ ByteArray) (impl_Sha.b1 k) k ((⟨#[]⟩ : ByteArray), (⟨#[]⟩ : ByteArray), h, 0) = some (.inl (⟨#[]⟩, outF h 8)) := this
  rw [e]
  rfl

theorem spec_out {k : Nat} (hk : 9223372036854775808 ≤ k) (h : List Int) (hh : h.length = 8) (hs : Small h) : spec_Sha.d2 k (⟨#[]⟩, h) = some (outF h 8) := by
  unfold spec_Sha.d2
  dsimp only
  have := iter_upto (B := spec_Sha.b3 k) (X := (ByteArray × ByteArray) ⊕ ByteArray) 8 (fun i => ((⟨#[]⟩ : ByteArray), h, outF h i, (i : Int))) (.inl (⟨#[]⟩, outF h 8)) (fun i hi => by
    unfold spec_Sha.b3
    dsimp only
    obtain ⟨h1, h2⟩ := hs i hi
    rw [decide_eq_true (show (i : Int) < 8 by omega), inb_ok (by omega) (by omega), Int.toNat_natCast]
    simp only [cond_true, Option.bind_some, get_getD (show i < h.length by omega)]
    rw [wrap_i64 (n := h.getD i 0) (by omega) (by omega), spec_fix4 hk _ h1 h2]
    simp only [Option.bind_some]
    rw [cat_ok (by rw [outF_size]; have := fix4_size (h.getD i 0); unfold fix4 at this; rw [this]; omega), wrap_i64 (n := (i : Int) + 1) (by omega) (by omega)]
    rfl) (by unfold spec_Sha.b3; rfl) k (by omega)
  have e : iter (X := (ByteArray × ByteArray) ⊕ ByteArray) (spec_Sha.b3 k) k ((⟨#[]⟩ : ByteArray), h, (⟨#[]⟩ : ByteArray), 0) = some (.inl (⟨#[]⟩, outF h 8)) := this
  rw [e]
  rfl

theorem pad_mod (n : Nat) : (n + zz n + 9) % 64 = 0 := by unfold zz; omega

theorem impl_sha {k : Nat} (hk : 9223372036854775808 ≤ k) (s : ByteArray) (hn : s.size ≤ 1099511627776) : impl_Sha.f k s = some (shaF s) := by
  unfold impl_Sha.f
  have hz : zz s.size < 64 := by unfold zz; omega
  have ez : IntKind.wrap .i64 ((Int.tmod (IntKind.wrap .i64 (64 - (Int.tmod (IntKind.wrap .i64 ((s.size : Int) + 9)) 64))) 64) + 1) = ((zz s.size + 1 : Nat) : Int) := by
    rw [wrap_i64 (n := (s.size : Int) + 9) (by omega) (by omega), Int.tmod_eq_emod_of_nonneg (a := (s.size : Int) + 9) (by omega), wrap_i64 (n := 64 - ((s.size : Int) + 9) % 64) (by omega) (by omega), Int.tmod_eq_emod_of_nonneg (by omega), wrap_i64 (by omega) (by omega)]
    unfold zz; omega
  have h128 : (⟨#[128]⟩ : ByteArray).size = 1 := rfl
  rw [cat_ok (by rw [h128]; omega), ez, mk_ok (by omega) (by unfold limOf; omega), wrap_i64 (n := 8 * (s.size : Int)) (by omega) (by omega), impl_fix7 hk _ (by omega) (by omega)]
  simp only [Option.bind_some, Int.toNat_natCast]
  rw [cat_ok (by rw [ByteArray.size_append, V.size_strOfNums, List.length_replicate, h128]; omega)]
  simp only [Option.bind_some]
  rw [cat_ok (by rw [ByteArray.size_append, ByteArray.size_append, V.size_strOfNums, List.length_replicate, h128, fix7_size]; omega)]
  simp only [Option.bind_some]
  have ep : s ++ ⟨#[128]⟩ ++ strOfNums (List.replicate (zz s.size + 1) 0) ++ fix7 (8 * (s.size : Int)) = s ++ pad s.size := by
    unfold pad; simp only [ByteArray.append_assoc]
  rw [ep]
  have hps : (s ++ pad s.size).size = s.size + zz s.size + 9 := by rw [ByteArray.size_append, pad_size]; omega
  have hm := pad_mod s.size
  have hNb : s.size + zz s.size + 9 ≤ 2199023255552 := by omega
  unfold shaF
  generalize s ++ pad s.size = p at hps
  generalize s.size + zz s.size + 9 = N at hps hm hNb
  have := iter_upto (B := impl_Sha.b0 k) (X := (ByteArray × List Int) ⊕ ByteArray) (N / 64) (fun i => ((⟨#[]⟩ : ByteArray), p, ((64 * i : Nat) : Int), runF (blk p) H0 i)) (.inl (⟨#[]⟩, runF (blk p) H0 (N / 64))) (fun i hi => by
    unfold impl_Sha.b0
    dsimp only
    have hl := runF_length (f := blk p) (h := H0) rfl i
    rw [decide_eq_true (show ((64 * i : Nat) : Int) < (p.size : Int) by omega), wrap_i64 (n := ((64 * i : Nat) : Int) + 64) (by omega) (by omega), cut_ok (by omega) (by omega) (by omega), arrL_eq hl]
    simp only [cond_true, Option.bind_some]
    have hb : p.extract (((64 * i : Nat) : Int)).toNat (((64 * i : Nat) : Int) + 64).toNat = blk p i := by
      unfold blk; congr 1
    rw [hb, impl_block hk _ hl _ (blk_size (by omega))]
    simp only [Option.bind_some]
    rw [arrL_eq (show (blockF (runF (blk p) H0 i) (blk p i)).length = 8 from rfl)]
    rfl) (by
    unfold impl_Sha.b0
    dsimp only
    rw [decide_eq_false (by omega), arrL_eq (runF_length (f := blk p) (h := H0) rfl _)]
    rfl) k (by omega)
  have e : iter (X := (ByteArray × List Int) ⊕ ByteArray) (impl_Sha.b0 k) k ((⟨#[]⟩ : ByteArray), p, 0, [1779033703, 3144134277, 1013904242, 2773480762, 1359893119, 2600822924, 528734635, 1541459225]) = some (.inl (⟨#[]⟩, runF (blk p) H0 (N / 64))) := this
  rw [e]
  simp only [Option.bind_some]
  rw [impl_out hk _ (runF_length rfl _) (run_small _)]

theorem spec_sha {k : Nat} (hk : 9223372036854775808 ≤ k) (s : ByteArray) (hn : s.size ≤ 1099511627776) : spec_Sha.f k s = some (shaF s) := by
  unfold spec_Sha.f
  have hz : zz s.size < 64 := by unfold zz; omega
  rw [show spec_l2Begin.f k = some H0 from rfl, show spec_l2Table.f k = some shaTab from rfl]
  simp only [Option.bind_some]
  have h1 := iter_upto (B := spec_Sha.b0 k) (X := (ByteArray × ByteArray × List Int × List Int × List Int) ⊕ ByteArray) (zz s.size) (fun j => (s, (⟨#[]⟩ : ByteArray), H0, shaTab, [128] ++ List.replicate j 0)) (.inl (s, ⟨#[]⟩, H0, shaTab, [128] ++ List.replicate (zz s.size) 0)) (fun j hj => by
    unfold spec_Sha.b0
    dsimp only
    have e : Int.tmod (IntKind.wrap .i64 ((s.size : Int) + (([128] ++ List.replicate j 0 : List Int).length : Int))) 64 = (((s.size + 1 + j) % 64 : Nat) : Int) := by
      rw [List.length_append, List.length_replicate]
      simp only [List.length_cons, List.length_nil]
      rw [wrap_i64 (by omega) (by omega), Int.tmod_eq_emod_of_nonneg (by omega)]; omega
    rw [e, decide_eq_false (by unfold zz at hj; omega), app_ok (by simp; unfold limOf; omega)]
    simp only [Bool.not_false, cond_true, Option.bind_some]
    rw [List.append_assoc, show List.replicate j (0 : Int) ++ [0] = List.replicate (j + 1) 0 from (List.replicate_succ' (n := j) (a := (0 : Int))).symm]) (by
    unfold spec_Sha.b0
    dsimp only
    have e : Int.tmod (IntKind.wrap .i64 ((s.size : Int) + (([128] ++ List.replicate (zz s.size) 0 : List Int).length : Int))) 64 = (((s.size + 1 + zz s.size) % 64 : Nat) : Int) := by
      rw [List.length_append, List.length_replicate]
      simp only [List.length_cons, List.length_nil]
      rw [wrap_i64 (by omega) (by omega), Int.tmod_eq_emod_of_nonneg (by omega)]; omega
    rw [e, decide_eq_true (by unfold zz; omega)]
    rfl) k (by omega)
  have e1 : iter (X := (ByteArray × ByteArray × List Int × List Int × List Int) ⊕ ByteArray) (spec_Sha.b0 k) k (s, (⟨#[]⟩ : ByteArray), H0, shaTab, [128]) = some (.inl (s, ⟨#[]⟩, H0, shaTab, [128] ++ List.replicate (zz s.size) 0)) := h1
  rw [e1]
  simp only [Option.bind_some]
  unfold spec_Sha.d0
  dsimp only
  have hp0 : (strOfNums ([128] ++ List.replicate (zz s.size) 0)).size = zz s.size + 1 := by rw [V.size_strOfNums]; simp
  have hp1 : (strOfNums [0]).size = 1 := rfl
  rw [cat_ok (by rw [hp0, hp1]; omega), wrap_i64 (n := 8 * (s.size : Int)) (by omega) (by omega), spec_fix7 hk _ (by omega) (by omega)]
  simp only [Option.bind_some]
  rw [cat_ok (by rw [ByteArray.size_append, hp0, hp1, fix7_size]; omega)]
  simp only [Option.bind_some]
  have ep : strOfNums ([128] ++ List.replicate (zz s.size) 0) ++ strOfNums [0] ++ fix7 (8 * (s.size : Int)) = pad s.size := by
    unfold pad
    rw [← nums_append, List.append_assoc, show List.replicate (zz s.size) (0 : Int) ++ [0] = List.replicate (zz s.size + 1) 0 from (List.replicate_succ' (n := zz s.size) (a := (0 : Int))).symm, nums_append]
    rfl
  rw [ep]
  have ea : IntKind.wrap .i64 ((IntKind.wrap .i64 (Int.tdiv (s.size : Int) 64)) * 64) = ((64 * (s.size / 64) : Nat) : Int) := by
    rw [Int.tdiv_eq_ediv_of_nonneg (by omega), wrap_i64 (n := (s.size : Int) / 64) (by omega) (by omega), wrap_i64 (by omega) (by omega)]; omega
  rw [ea]
  have h2 := iter_upto (B := spec_Sha.b1 k) (X := (ByteArray × ByteArray × List Int × List Int × ByteArray × Int) ⊕ ByteArray) (s.size / 64) (fun i => (s, (⟨#[]⟩ : ByteArray), runF (blk s) H0 i, shaTab, pad s.size, ((64 * (s.size / 64) : Nat) : Int), ((64 * i : Nat) : Int))) (.inl (s, ⟨#[]⟩, runF (blk s) H0 (s.size / 64), shaTab, pad s.size, ((64 * (s.size / 64) : Nat) : Int))) (fun i hi => by
    unfold spec_Sha.b1
    dsimp only
    have hl := runF_length (f := blk s) (h := H0) rfl i
    rw [decide_eq_true (show ((64 * i : Nat) : Int) < ((64 * (s.size / 64) : Nat) : Int) by omega), wrap_i64 (n := ((64 * i : Nat) : Int) + 64) (by omega) (by omega), cut_ok (by omega) (by omega) (by omega)]
    simp only [cond_true, Option.bind_some]
    have hb : s.extract (((64 * i : Nat) : Int)).toNat (((64 * i : Nat) : Int) + 64).toNat = blk s i := by
      unfold blk; congr 1
    rw [hb, spec_block hk _ hl _ (blk_size (by omega))]
    rfl) (by
    unfold spec_Sha.b1
    dsimp only
    rw [decide_eq_false (by omega)]
    rfl) k (by omega)
  have e2 : iter (X := (ByteArray × ByteArray × List Int × List Int × ByteArray × Int) ⊕ ByteArray) (spec_Sha.b1 k) k (s, (⟨#[]⟩ : ByteArray), H0, shaTab, pad s.size, ((64 * (s.size / 64) : Nat) : Int), 0) = some (.inl (s, ⟨#[]⟩, runF (blk s) H0 (s.size / 64), shaTab, pad s.size, ((64 * (s.size / 64) : Nat) : Int))) := h2
  rw [e2]
  simp only [Option.bind_some]
  unfold spec_Sha.d1
  dsimp only
  rw [cut_ok (by omega) (by omega) (by omega)]
  simp only [Option.bind_some, Int.toNat_natCast]
  have hps := pad_size s.size
  have hes : (s.extract (64 * (s.size / 64)) s.size).size = s.size - 64 * (s.size / 64) := V.size_ext s (Nat.le_refl _)
  rw [cat_ok (by rw [hes, hps]; omega)]
  simp only [Option.bind_some]
  have hm := pad_mod s.size
  have hrs : (s.extract (64 * (s.size / 64)) s.size ++ pad s.size).size = s.size + zz s.size + 9 - 64 * (s.size / 64) := by rw [ByteArray.size_append, hes, hps]; omega
  have hP : (s ++ pad s.size).size = s.size + zz s.size + 9 := by rw [ByteArray.size_append, hps]; omega
  -- the blocks are the same
  have b1 : ∀ j, j < s.size / 64 → blk (s ++ pad s.size) j = blk s j := fun j hj => by
    refine V.str_ext (by rw [blk_size (by omega), blk_size (by omega)]) fun i hi => ?_
    rw [blk_size (by omega)] at hi
    unfold blk
    rw [V.byteAt_ext _ (by omega) (by omega), V.byteAt_ext _ (by omega) (by omega), byteAt_left (by omega)]
  have b2 : ∀ j, j < (s.size + zz s.size + 9) / 64 - s.size / 64 → blk (s ++ pad s.size) (s.size / 64 + j) = blk (s.extract (64 * (s.size / 64)) s.size ++ pad s.size) j := fun j hj => by
    refine V.str_ext (by rw [blk_size (by omega), blk_size (by omega)]) fun i hi => ?_
    rw [blk_size (by omega)] at hi
    unfold blk
    rw [V.byteAt_ext _ (by omega) (by omega), V.byteAt_ext _ (by omega) (by omega)]
    by_cases hc : 64 * (s.size / 64 + j) + i < s.size
    · rw [byteAt_left hc, byteAt_left (by rw [hes]; omega), V.byteAt_ext s (Nat.le_refl _) (by omega)]
      congr 1; omega
    · rw [byteAt_right (by omega) (by omega), byteAt_right (by rw [hes]; omega) (by rw [hes]; omega), hes]
      congr 1; omega
  have hrun : runF (blk (s ++ pad s.size)) H0 ((s.size + zz s.size + 9) / 64) = runF (blk (s.extract (64 * (s.size / 64)) s.size ++ pad s.size)) (runF (blk s) H0 (s.size / 64)) ((s.size + zz s.size + 9) / 64 - s.size / 64) := by
    have e : (s.size + zz s.size + 9) / 64 = s.size / 64 + ((s.size + zz s.size + 9) / 64 - s.size / 64) := by omega
    conv => lhs; rw [e]
    rw [runF_add, runF_congr b1, runF_congr (f := fun j => blk (s ++ pad s.size) (s.size / 64 + j)) b2]
  unfold shaF
  have hsm := run_small (f := blk (s ++ pad s.size)) ((s.size + zz s.size + 9) / 64)
  have hl8 := runF_length (f := blk (s ++ pad s.size)) (h := H0) rfl ((s.size + zz s.size + 9) / 64)
  rw [hrun] at hsm hl8 ⊢
  have hl0 := runF_length (f := blk s) (h := H0) rfl (s.size / 64)
  generalize runF (blk s) H0 (s.size / 64) = h0 at hl0 hsm hl8
  generalize s.extract (64 * (s.size / 64)) s.size ++ pad s.size = p at hrs hsm hl8
  have hN : (s.size + zz s.size + 9) / 64 - s.size / 64 = p.size / 64 := by omega
  have hpm : p.size % 64 = 0 := by omega
  have hpb : p.size ≤ 2199023255552 := by omega
  rw [hN] at hsm hl8 ⊢
  have h3 := iter_upto (B := spec_Sha.b2 k) (X := (ByteArray × List Int) ⊕ ByteArray) (p.size / 64) (fun i => ((⟨#[]⟩ : ByteArray), runF (blk p) h0 i, shaTab, p, ((64 * i : Nat) : Int))) (.inl (⟨#[]⟩, runF (blk p) h0 (p.size / 64))) (fun i hi => by
    unfold spec_Sha.b2
    dsimp only
    have hl := runF_length (f := blk p) hl0 i
    rw [wrap_i64 (n := ((64 * i : Nat) : Int) + 64) (by omega) (by omega), decide_eq_true (by omega), cut_ok (by omega) (by omega) (by omega)]
    simp only [cond_true, Option.bind_some]
    have hb : p.extract (((64 * i : Nat) : Int)).toNat (((64 * i : Nat) : Int) + 64).toNat = blk p i := by
      unfold blk; congr 1
    rw [hb, spec_block hk _ hl _ (blk_size (by omega))]
    rfl) (by
    unfold spec_Sha.b2
    dsimp only
    rw [wrap_i64 (by omega) (by omega), decide_eq_false (by omega)]
    rfl) k (by omega)
  have e3 : iter (X := (ByteArray × List Int) ⊕ ByteArray) (spec_Sha.b2 k) k ((⟨#[]⟩ : ByteArray), h0, shaTab, p, 0) = some (.inl (⟨#[]⟩, runF (blk p) h0 (p.size / 64))) := h3
  rw [e3]
  simp only [Option.bind_some]
  rw [spec_out hk _ hl8 hsm]
end Go.Proofs.YtgocmmfhglppjaaGreatDoor.Rx.S
namespace Go.Proofs.YtgocmmfhglppjaaGreatDoor.Rx

/-! the reference's reading of a file -/
theorem load_has {k : Nat} (hk : 9223372036854775808 ≤ k) {d : DiskT} (hr : Right d) (n : ByteArray) : ∃ r, spec_Load.f k d n = some r ∧ r.2 = decide (0 ≤ fileM d n) := by
  have hs := hr.small
  unfold spec_Load.f
  simp only [Prod.eta, specOk hk d hs, hr.ok, Option.bind_some, Bool.not_true, cond_false, specFind hk hs]
  by_cases c : fileM d n < 0
  · rw [decide_eq_true c]; exact ⟨_, rfl, by simp; omega⟩
  · obtain ⟨e1, x, e2, e3⟩ := file_at c
    rw [decide_eq_false c]
    simp only [cond_false, e1, e2, Option.bind_some]
    exact ⟨_, rfl, by simp; omega⟩

theorem plan_eq {k : Nat} (hk : 9223372036854775808 ≤ k) {d : DiskT} (hr : Right d) (a t : ByteArray) (ha : a.size ≤ 1048576) : ∃ r, spec_l6Anew.f k d a t = some r ∧ impl_plan.f k d a t = some r ∧ r.length ≤ 6 := by
  unfold spec_l6Anew.f impl_plan.f spec_l6Anew.c0 impl_plan.c0
  have hc : cat? a (⟨#[46, 110, 101, 119]⟩ : ByteArray) = some (a ++ (⟨#[46, 110, 101, 119]⟩ : ByteArray)) := cat_ok (by have : (⟨#[46, 110, 101, 119]⟩ : ByteArray).size = 4 := rfl; omega)
  obtain ⟨r, h1, h2⟩ := load_has hk hr (a ++ (⟨#[46, 110, 101, 119]⟩ : ByteArray))
  simp only [hc, Option.bind_some, h1, h2, implFile hk hr, Prod.eta]
  rw [app_ok (by unfold limOf; simp only [List.length_nil, List.length_cons]; omega)]
  cases decide (0 ≤ fileM d (a ++ (⟨#[46, 110, 101, 119]⟩ : ByteArray))) with
  | true =>
    simp only [cond_true, Option.bind_some, List.nil_append, hc]
    rw [app_ok (by unfold limOf; simp only [List.length_nil, List.length_cons]; omega)]
    exact ⟨_, rfl, rfl, by simp only [List.length_append, List.length_cons, List.length_nil]; omega⟩
  | false =>
    simp only [cond_false, Option.bind_some, List.nil_append, hc]
    rw [app_ok (by unfold limOf; simp only [List.length_nil, List.length_cons]; omega)]
    exact ⟨_, rfl, rfl, by simp only [List.nil_append, List.length_cons, List.length_nil]; omega⟩

/-! records -/
abbrev RecT := Int × Int × Int × Int × ByteArray
theorem isBase_val (k : Nat) (a b : Int) : impl_isBase.f k a b = some (decide ((a = 0 ∧ b = 0) ∨ (1 ≤ a ∧ a ≤ 100000 ∧ 1 ≤ b ∧ b ≤ 100000))) := by rw [W.isBase_eq, W.based_eq]
theorem recOk_eq (k : Nat) (r : RecT) : impl_RecOk.f k r = spec_RecOk.f k r ∧ ∃ b, spec_RecOk.f k r = some b := by
  unfold impl_RecOk.f spec_RecOk.f impl_isTerm.f impl_isVote.f
  simp only [V.l1, W.within_eq, W.based_eq, isBase_val, Option.bind_some]
  by_cases h1 : r.1 = 1
  · simp only [decide_eq_true h1, cond_true]
    generalize (decide (0 ≤ r.2.1) && decide (r.2.1 ≤ 100000)) = p
    generalize (decide (-1 ≤ r.2.2.2.1) && decide (r.2.2.2.1 ≤ 4)) = q
    cases p <;> cases q <;> cases decide (r.2.2.1 = 0) <;> first | exact ⟨rfl, _, rfl⟩ | exact ⟨trivial, _, rfl⟩
  simp only [decide_eq_false h1, cond_false]
  by_cases h2 : r.1 = 2
  · simp only [decide_eq_true h2, cond_true]
    generalize (decide (1 ≤ r.2.1) && decide (r.2.1 ≤ 100000)) = p
    generalize (decide (1 ≤ r.2.2.1) && decide (r.2.2.1 ≤ 100000)) = q
    cases p <;> cases q <;> cases decide (r.2.2.2.1 = 0) <;> cases decide ((r.2.2.2.2.size : Int) ≤ 900) <;> first | exact ⟨rfl, _, rfl⟩ | exact ⟨trivial, _, rfl⟩
  simp only [decide_eq_false h2, cond_false]
  by_cases h3 : r.1 = 3
  · simp only [decide_eq_true h3, cond_true, decide_true, Bool.true_and, Bool.and_true]
    generalize (decide (1 ≤ r.2.2.1) && decide (r.2.2.1 ≤ 100000)) = q
    cases q <;> cases decide (r.2.1 = 0) <;> cases decide (r.2.2.2.1 = 0) <;> cases decide (r.2.2.2.2 = ⟨#[]⟩) <;> first | exact ⟨rfl, _, rfl⟩ | exact ⟨trivial, _, rfl⟩
  simp only [decide_eq_false h3, cond_false]
  by_cases h4 : r.1 = 4
  · simp only [decide_eq_true h4, cond_true]
    generalize decide ((r.2.2.1 = 0 ∧ r.2.1 = 0) ∨ (1 ≤ r.2.2.1 ∧ r.2.2.1 ≤ 100000 ∧ 1 ≤ r.2.1 ∧ r.2.1 ≤ 100000)) = p
    cases p <;> cases decide (r.2.2.2.1 = 0) <;> first | exact ⟨rfl, _, rfl⟩ | exact ⟨trivial, _, rfl⟩
  simp only [decide_eq_false h4, cond_false]
  exact ⟨trivial, _, rfl⟩

theorem showRec_same {k : Nat} (hk : 9223372036854775808 ≤ k) (r : RecT) (hd : r.2.2.2.2.size ≤ 1048576) : ∃ s, spec_ShowRec.f k r = some s ∧ impl_ShowRec.f k r = some s := by
  obtain ⟨h1, b, h2⟩ := recOk_eq k r
  unfold spec_ShowRec.f impl_ShowRec.f
  rw [h1, h2, V.var_eq]
  simp only [Option.bind_some]
  cases b with
  | false => exact ⟨_, rfl, rfl⟩
  | true =>
    simp only [Bool.not_true, cond_false]
    obtain ⟨s1, e1, z1⟩ := V.var_some hk r.2.1
    obtain ⟨s2, e2, z2⟩ := V.var_some hk r.2.2.1
    obtain ⟨s3, e3, z3⟩ := V.var_some hk (IntKind.wrap .i64 (r.2.2.2.1 + 1))
    have hz : (strOfNums [IntKind.wrap .u8 r.1]).size = 1 := by rw [V.size_strOfNums]; rfl
    rw [e1, e2, e3]
    simp only [Option.bind_some]
    rw [cat_ok (by omega)]
    simp only [Option.bind_some]
    rw [cat_ok (by simp only [ByteArray.size_append]; omega)]
    simp only [Option.bind_some]
    rw [cat_ok (by simp only [ByteArray.size_append]; omega)]
    simp only [Option.bind_some]
    rw [cat_ok (by simp only [ByteArray.size_append]; omega)]
    exact ⟨_, rfl, rfl⟩

theorem frame_same {k : Nat} (hk : 9223372036854775808 ≤ k) (s : ByteArray) : ∃ f, spec_Frame.f k s = some f ∧ impl_Frame.f k s = some f ∧ f.size ≤ 2008 := by
  unfold spec_Frame.f impl_Frame.f
  rw [W.within_eq]
  simp only [Option.bind_some]
  by_cases c1 : (s.size : Int) = 0
  · have e : (decide (1 ≤ (s.size : Int)) && decide ((s.size : Int) ≤ 2000)) = false := by simp; omega
    rw [decide_eq_true c1, e]
    exact ⟨_, rfl, rfl, Nat.zero_le _⟩
  · by_cases c2 : 2000 < (s.size : Int)
    · have e : (decide (1 ≤ (s.size : Int)) && decide ((s.size : Int) ≤ 2000)) = false := by simp; omega
      rw [decide_eq_false c1, decide_eq_true c2, e]
      exact ⟨_, rfl, rfl, Nat.zero_le _⟩
    · have e : (decide (1 ≤ (s.size : Int)) && decide ((s.size : Int) ≤ 2000)) = true := by simp; omega
      rw [decide_eq_false c1, decide_eq_false c2, e]
      simp only [cond_false, Bool.not_true]
      rw [Y.spec_fix4 hk (s.size : Int) (by omega) (by omega), Y.impl_fix4 hk (s.size : Int) (by omega) (by omega)]
      simp only [Option.bind_some]
      obtain ⟨h, hh⟩ : ∃ h, strOfNums [(s.size : Int) / 256 / 256 / 256 % 256, (s.size : Int) / 256 / 256 % 256, (s.size : Int) / 256 % 256, (s.size : Int) % 256] = h := ⟨_, rfl⟩
      have hz : h.size = 4 := by rw [← hh, V.size_strOfNums]; rfl
      rw [hh, cat_ok (by omega)]
      simp only [Option.bind_some]
      obtain ⟨c, p, q, c0, c3⟩ := Y.crc_same hk (h ++ s) (by simp only [ByteArray.size_append]; omega)
      rw [p, q]
      simp only [Option.bind_some]
      rw [Y.spec_fix4 hk c c0 c3, Y.impl_fix4 hk c c0 c3]
      simp only [Option.bind_some]
      obtain ⟨g, hg⟩ : ∃ g, strOfNums [c / 256 / 256 / 256 % 256, c / 256 / 256 % 256, c / 256 % 256, c % 256] = g := ⟨_, rfl⟩
      have gz : g.size = 4 := by rw [← hg, V.size_strOfNums]; rfl
      rw [hg, cat_ok (by omega)]
      simp only [Option.bind_some]
      rw [cat_ok (by simp only [ByteArray.size_append]; omega)]
      exact ⟨_, rfl, rfl, by simp only [ByteArray.size_append]; omega⟩

theorem framed_same {k : Nat} (hk : 9223372036854775808 ≤ k) (r : RecT) (hd : r.2.2.2.2.size ≤ 1048576) : ∃ s f, spec_ShowRec.f k r = some s ∧ spec_Frame.f k s = some f ∧ impl_framed.f k r = some f ∧ f.size ≤ 2008 := by
  obtain ⟨s, h1, h2⟩ := showRec_same hk r hd
  obtain ⟨f, h3, h4, h5⟩ := frame_same hk s
  refine ⟨s, f, h1, h3, ?_, h5⟩
  unfold impl_framed.f
  rw [h2]
  simp only [Option.bind_some]
  rw [h4]
  rfl

/-! a log as a text -/
abbrev WalT := Int × Int × Int × Int × List (Int × ByteArray)
theorem wal_parts {w : WalT} (h : W.walB w = true) : 0 ≤ w.2.2.1 ∧ w.2.2.1 ≤ 100000 ∧ w.2.2.2.2.length ≤ 60 := by
  unfold W.walB at h
  simp only [Bool.and_eq_true, decide_eq_true_eq] at h
  omega
theorem wal_loop {k : Nat} (hk : 9223372036854775808 ≤ k) {w : WalT} (h0 : 0 ≤ w.2.2.1) (h1 : w.2.2.1 ≤ 100000) (hl : w.2.2.2.2.length ≤ 60) (hd : ∀ x ∈ w.2.2.2.2, x.2.size ≤ 1048576) :
    ∀ (m i fuel : Nat) (o : ByteArray), i + m = w.2.2.2.2.length → m < fuel → o.size ≤ (i + 2) * 2008 →
      ∃ t, iter (spec_WalText.b0 k) fuel (⟨#[]⟩, o, (i : Int), w) = some (.inl (⟨#[]⟩, t)) ∧ iter (impl_WalText.b0 k) fuel (⟨#[]⟩, o, w.2.2.2.2, (w.2.2.2.2.length : Int), (i : Int), w) = some (.inl (⟨#[]⟩, t)) := by
  intro m
  induction m with
  | zero =>
    intro i fuel o hi hf ho
    obtain ⟨fuel, rfl⟩ : ∃ f, fuel = f + 1 := ⟨fuel - 1, by omega⟩
    have e1 : decide ((i : Int) < (w.2.2.2.2.length : Int)) = false := by simp; omega
    refine ⟨o, ?_, ?_⟩
    · simp only [iter, spec_WalText.b0, e1, cond_false, Option.bind_some]
    · simp only [iter, impl_WalText.b0, e1, cond_false, Option.bind_some]
  | succ m ih =>
    intro i fuel o hi hf ho
    obtain ⟨fuel, rfl⟩ : ∃ f, fuel = f + 1 := ⟨fuel - 1, by omega⟩
    have hlt : i < w.2.2.2.2.length := by omega
    have e1 : decide ((i : Int) < (w.2.2.2.2.length : Int)) = true := by simp; omega
    have e3 : inb? w.2.2.2.2.length (i : Int) = some i := by rw [inb_ok (by omega) (by omega), Int.toNat_natCast]
    have hx := hd _ (List.getElem_mem hlt)
    obtain ⟨s, f, a1, a2, a3, a4⟩ := framed_same hk (2, w.2.2.2.2[i].1, w.2.2.1 + (i : Int) + 1, 0, w.2.2.2.2[i].2) hx
    have w1 : IntKind.wrap .i64 (w.2.2.1 + 1) = w.2.2.1 + 1 := wrap_i64 (by omega) (by omega)
    have w2 : IntKind.wrap .i64 (w.2.2.1 + 1 + (i : Int)) = w.2.2.1 + (i : Int) + 1 := by rw [wrap_i64 (by omega) (by omega)]; omega
    have w3 : IntKind.wrap .i64 (w.2.2.1 + (i : Int)) = w.2.2.1 + (i : Int) := wrap_i64 (by omega) (by omega)
    have w4 : IntKind.wrap .i64 (w.2.2.1 + (i : Int) + 1) = w.2.2.1 + (i : Int) + 1 := wrap_i64 (by omega) (by omega)
    have w5 : IntKind.wrap .i64 ((i : Int) + 1) = ((i + 1 : Nat) : Int) := by rw [wrap_i64 (by omega) (by omega)]; rfl
    have hcat : cat? o f = some (o ++ f) := cat_ok (by omega)
    obtain ⟨t, b1, b2⟩ := ih (i + 1) fuel (o ++ f) (by omega) (by omega) (by simp only [ByteArray.size_append]; omega)
    refine ⟨t, ?_, ?_⟩
    · rw [← b1]
      conv => lhs; unfold iter
      simp only [spec_WalText.b0, e1, cond_true, e3, Option.bind_some, List.getElem?_eq_getElem hlt, w1, w2, a1, a2, hcat, w5, Prod.eta]
    · rw [← b2]
      conv => lhs; unfold iter
      simp only [impl_WalText.b0, e1, cond_true, e3, Option.bind_some, List.getElem?_eq_getElem hlt, w3, w4, a3, hcat, w5, Prod.eta]

theorem walText_same {k : Nat} (hk : 9223372036854775808 ≤ k) (w : WalT) (hl : w.2.2.2.2.length ≤ 1048576) (hd : ∀ x ∈ w.2.2.2.2, x.2.size ≤ 1048576) : ∃ t, spec_WalText.f k w = some t ∧ impl_WalText.f k w = some t := by
  unfold spec_WalText.f impl_WalText.f
  rw [W.specWal hk w hl, W.implWal hk w hl]
  simp only [Option.bind_some]
  cases hb : W.walB w with
  | false => exact ⟨_, rfl, rfl⟩
  | true =>
    obtain ⟨p1, p2, p3⟩ := wal_parts hb
    simp only [Bool.not_true, cond_false]
    obtain ⟨s, f, a1, a2, a3, a4⟩ := framed_same hk (4, w.2.2.2.1, w.2.2.1, 0, ⟨#[]⟩) (Nat.zero_le _)
    obtain ⟨s', g, b1, b2, b3, b4⟩ := framed_same hk (1, w.1, 0, w.2.1, ⟨#[]⟩) (Nat.zero_le _)
    have hcat : cat? f g = some (f ++ g) := cat_ok (by omega)
    simp only [a1, a2, a3, b1, b2, b3, Option.bind_some, hcat, Prod.eta]
    obtain ⟨t, c1, c2⟩ := wal_loop hk p1 p2 p3 hd w.2.2.2.2.length 0 k (f ++ g) (by omega) (by omega) (by simp only [ByteArray.size_append]; omega)
    have e0 : ((0 : Nat) : Int) = 0 := rfl
    rw [e0] at c1 c2
    rw [c1, c2]
    exact ⟨t, rfl, rfl⟩

end Go.Proofs.YtgocmmfhglppjaaGreatDoor.Rx
namespace Go.Proofs.YtgocmmfhglppjaaGreatDoor.Rx
open Go.Proofs.YtgocmmfhglppjaaGreatDoor.Rx.S (spec_sha impl_sha shaF shaF_size)
theorem frame_same2 {k : Nat} (hk : 9223372036854775808 ≤ k) (s : ByteArray) (n1 : 1 ≤ s.size) (n2 : s.size ≤ 2000) : ∃ f, spec_Frame.f k s = some f ∧ impl_Frame.f k s = some f ∧ f.size ≤ 2008 ∧ 1 ≤ f.size := by
  unfold spec_Frame.f impl_Frame.f
  rw [W.within_eq]
  simp only [Option.bind_some]
  by_cases c1 : (s.size : Int) = 0
  · have e : (decide (1 ≤ (s.size : Int)) && decide ((s.size : Int) ≤ 2000)) = false := by simp; omega
    rw [decide_eq_true c1, e]
    exact absurd c1 (by omega)
  · by_cases c2 : 2000 < (s.size : Int)
    · have e : (decide (1 ≤ (s.size : Int)) && decide ((s.size : Int) ≤ 2000)) = false := by simp; omega
      rw [decide_eq_false c1, decide_eq_true c2, e]
      exact absurd c2 (by omega)
    · have e : (decide (1 ≤ (s.size : Int)) && decide ((s.size : Int) ≤ 2000)) = true := by simp; omega
      rw [decide_eq_false c1, decide_eq_false c2, e]
      simp only [cond_false, Bool.not_true]
      rw [Y.spec_fix4 hk (s.size : Int) (by omega) (by omega), Y.impl_fix4 hk (s.size : Int) (by omega) (by omega)]
      simp only [Option.bind_some]
      obtain ⟨h, hh⟩ : ∃ h, strOfNums [(s.size : Int) / 256 / 256 / 256 % 256, (s.size : Int) / 256 / 256 % 256, (s.size : Int) / 256 % 256, (s.size : Int) % 256] = h := ⟨_, rfl⟩
      have hz : h.size = 4 := by rw [← hh, V.size_strOfNums]; rfl
      rw [hh, cat_ok (by omega)]
      simp only [Option.bind_some]
      obtain ⟨c, p, q, c0, c3⟩ := Y.crc_same hk (h ++ s) (by simp only [ByteArray.size_append]; omega)
      rw [p, q]
      simp only [Option.bind_some]
      rw [Y.spec_fix4 hk c c0 c3, Y.impl_fix4 hk c c0 c3]
      simp only [Option.bind_some]
      obtain ⟨g, hg⟩ : ∃ g, strOfNums [c / 256 / 256 / 256 % 256, c / 256 / 256 % 256, c / 256 % 256, c % 256] = g := ⟨_, rfl⟩
      have gz : g.size = 4 := by rw [← hg, V.size_strOfNums]; rfl
      rw [hg, cat_ok (by omega)]
      simp only [Option.bind_some]
      rw [cat_ok (by simp only [ByteArray.size_append]; omega)]
      exact ⟨_, rfl, rfl, by simp only [ByteArray.size_append]; omega, by simp only [ByteArray.size_append]; omega⟩


abbrev SnapT := Int × Int × ByteArray
def snapB (s : SnapT) : Bool := if s.1 = 0 then decide (s.2.1 = 0) && decide (s.2.2 = (⟨#[]⟩ : ByteArray)) else (decide (1 ≤ s.1) && decide (s.1 ≤ 100000)) && ((decide (1 ≤ s.2.1) && decide (s.2.1 ≤ 100000)) && decide ((s.2.2.size : Int) ≤ 8000))
theorem specSnap (k : Nat) (s : SnapT) : spec_SnapOk.f k s = some (snapB s) := by
  unfold spec_SnapOk.f snapB
  by_cases h : s.1 = 0
  · rw [decide_eq_true h, if_pos h]
    simp only [cond_true]
    cases decide (s.2.1 = 0) <;> rfl
  · rw [decide_eq_false h, if_neg h, V.l1, V.l1]
    simp only [cond_false, Option.bind_some]
    cases (decide (1 ≤ s.1) && decide (s.1 ≤ 100000)) <;> cases (decide (1 ≤ s.2.1) && decide (s.2.1 ≤ 100000)) <;> rfl
theorem implSnap (k : Nat) (s : SnapT) : impl_SnapOk.f k s = some (snapB s) := by
  unfold impl_SnapOk.f snapB
  rw [W.within_eq, W.within_eq]
  simp only [Option.bind_some]
  by_cases h : s.1 = 0
  · rw [decide_eq_true h, if_pos h, decide_eq_false (show ¬ 1 ≤ s.1 by omega)]
    cases decide (s.2.1 = 0) <;> cases decide (s.2.2 = (⟨#[]⟩ : ByteArray)) <;> rfl
  · rw [decide_eq_false h, if_neg h]
    simp only [Bool.false_and, cond_false]
    cases (decide (1 ≤ s.1) && decide (s.1 ≤ 100000)) <;> cases (decide (1 ≤ s.2.1) && decide (s.2.1 ≤ 100000)) <;> rfl

/-- a snapshot's text: the same on both sides; none where there is no snapshot to show -/
theorem showSnap_same {k : Nat} (hk : 9223372036854775808 ≤ k) (s : SnapT) (hs : s.2.2.size ≤ 1048576) : ∃ t, spec_ShowSnap.f k s = some t ∧ impl_ShowSnap.f k s = some t ∧ (t = ⟨#[]⟩ ↔ snapB s = false ∨ s.1 = 0) := by
  unfold spec_ShowSnap.f impl_ShowSnap.f
  rw [specSnap, implSnap]
  simp only [Option.bind_some]
  cases hB : snapB s with
  | false => exact ⟨_, rfl, rfl, by simp⟩
  | true =>
    simp only [Bool.not_true, cond_false]
    unfold snapB at hB
    by_cases h : s.1 = 0
    · rw [if_pos h] at hB
      simp only [Bool.and_eq_true] at hB
      rw [decide_eq_true h, hB.1, hB.2]
      exact ⟨_, rfl, rfl, by simp [h]⟩
    · rw [if_neg h] at hB
      simp only [Bool.and_eq_true, decide_eq_true_eq] at hB
      obtain ⟨⟨a1, a2⟩, ⟨a3, a4⟩, a5⟩ := hB
      rw [decide_eq_false h]
      simp only [Bool.false_and, cond_false]
      rw [Y.spec_fix4 hk s.1 (by omega) (by omega), Y.spec_fix4 hk s.2.1 (by omega) (by omega), Y.spec_fix4 hk (s.2.2.size : Int) (by omega) (by omega), Y.impl_fix4 hk s.1 (by omega) (by omega), Y.impl_fix4 hk s.2.1 (by omega) (by omega), Y.impl_fix4 hk (s.2.2.size : Int) (by omega) (by omega), spec_sha hk _ (by omega), impl_sha hk _ (by omega)]
      obtain ⟨f1, e1⟩ : ∃ f, strOfNums [s.1 / 256 / 256 / 256 % 256, s.1 / 256 / 256 % 256, s.1 / 256 % 256, s.1 % 256] = f := ⟨_, rfl⟩
      obtain ⟨f2, e2⟩ : ∃ f, strOfNums [s.2.1 / 256 / 256 / 256 % 256, s.2.1 / 256 / 256 % 256, s.2.1 / 256 % 256, s.2.1 % 256] = f := ⟨_, rfl⟩
      obtain ⟨f3, e3⟩ : ∃ f, strOfNums [(s.2.2.size : Int) / 256 / 256 / 256 % 256, (s.2.2.size : Int) / 256 / 256 % 256, (s.2.2.size : Int) / 256 % 256, (s.2.2.size : Int) % 256] = f := ⟨_, rfl⟩
      have z1 : f1.size = 4 := by rw [← e1]; rfl
      have z2 : f2.size = 4 := by rw [← e2]; rfl
      have z3 : f3.size = 4 := by rw [← e3]; rfl
      have z4 := shaF_size s.2.2
      rw [e1, e2, e3]
      simp only [Option.bind_some]
      rw [cat_ok (by omega)]
      simp only [Option.bind_some]
      rw [cat_ok (by simp only [ByteArray.size_append]; omega)]
      simp only [Option.bind_some]
      rw [cat_ok (by simp only [ByteArray.size_append]; omega)]
      simp only [Option.bind_some]
      obtain ⟨q, hq⟩ : ∃ q, f1 ++ f2 ++ f3 ++ shaF s.2.2 = q := ⟨_, rfl⟩
      have zq : q.size = 44 := by rw [← hq]; simp only [ByteArray.size_append]; omega
      rw [hq]
      obtain ⟨f, g1, g2, g3, g4⟩ := frame_same2 hk q (by omega) (by omega)
      rw [g1, g2]
      simp only [Option.bind_some]
      rw [cat_ok (by omega)]
      refine ⟨_, rfl, rfl, ?_⟩
      constructor
      · intro e
        have := congrArg ByteArray.size e
        have z : (⟨#[]⟩ : ByteArray).size = 0 := rfl
        rw [ByteArray.size_append, z] at this
        omega
      · rintro (e | e)
        · cases e
        · exact absurd e h

theorem planSnap_eq {k : Nat} (hk : 9223372036854775808 ≤ k) {d : DiskT} (hs : Small d) (s : SnapT) (hz : s.2.2.size ≤ 1048576) (w : WalT) (hl : w.2.2.2.2.length ≤ 1048576) (hd : ∀ x ∈ w.2.2.2.2, x.2.size ≤ 1048576) :
    ∃ r, spec_PlanSnap.f k d s w = some r ∧ impl_PlanSnap.f k d s w = some r ∧ r.length ≤ 12 := by
  unfold spec_PlanSnap.f impl_PlanSnap.f impl_PlanLog.f
  simp only [Prod.eta, specOk hk d hs, implOk hk d hs, ← disk_same, Option.bind_some, W.specWal hk w hl, W.implWal hk w hl, specSnap]
  cases hd' : diskS d with
  | false => exact ⟨_, rfl, rfl, by simp⟩
  | true =>
    have hr : Right d := ⟨hs, hd'⟩
    simp only [Bool.not_true, cond_false]
    cases W.walB w with
    | false => exact ⟨_, rfl, rfl, by simp⟩
    | true =>
      simp only [Bool.not_true, cond_false]
      obtain ⟨t, h1, h2, h3⟩ := showSnap_same hk s hz
      rw [h1, h2]
      simp only [Option.bind_some]
      by_cases ht : t = ⟨#[]⟩
      · rw [decide_eq_true ht]
        rcases h3.1 ht with e | e
        · rw [e]; exact ⟨_, rfl, rfl, by simp⟩
        · rw [decide_eq_true e]
          cases snapB s <;> exact ⟨_, rfl, rfl, by simp⟩
      · have hB : snapB s = true := by
          cases h : snapB s with
          | true => rfl
          | false => exact absurd (h3.2 (.inl h)) ht
        have h0 : ¬ s.1 = 0 := fun e => ht (h3.2 (.inr e))
        rw [decide_eq_false ht, hB, decide_eq_false h0]
        simp only [Bool.not_true, cond_false]
        obtain ⟨r, p1, p2, p3⟩ := plan_eq hk hr ⟨#[115, 110, 97, 112]⟩ t (by show 4 ≤ _; omega)
        obtain ⟨u, u1, u2⟩ := walText_same hk w hl hd
        obtain ⟨q, q1, q2, q3⟩ := plan_eq hk hr ⟨#[108, 111, 103]⟩ u (by show 3 ≤ _; omega)
        rw [p1, p2, u1, u2]
        simp only [Option.bind_some]
        rw [q1, q2]
        simp only [Option.bind_some]
        rw [app_ok (by simp [limOf]; omega)]
        exact ⟨_, rfl, rfl, by simp; omega⟩
end Go.Proofs.YtgocmmfhglppjaaGreatDoor.Rx
namespace Go.Proofs.YtgocmmfhglppjaaGreatDoor.Rx
theorem eqInode_self {k : Nat} (hk : 9223372036854775808 ≤ k) (a : Int × ByteArray × Int) : laws_eqInode.f k a a = some true := by
  unfold laws_eqInode.f
  simp only [decide_true, Bool.not_true, cond_false, Option.bind_some, Prod.eta]

theorem eqInodeS_self {k : Nat} (hk : 9223372036854775808 ≤ k) (l : List (Int × ByteArray × Int)) (h : l.length ≤ 9223372036854775807) : laws_eqInodeS.f k l l = some true := by
  unfold laws_eqInodeS.f
  have key := iter_upto (B := laws_eqInodeS.b0 k) l.length (fun i => (l, l, false, (i : Int))) (.inl false) (fun i hi => by
    have e1 : decide ((i : Int) < (l.length : Int)) = true := by simp; omega
    have e2 : inb? l.length (i : Int) = some i := by rw [inb_ok (by omega) (by omega), Int.toNat_natCast]
    unfold laws_eqInodeS.b0
    dsimp only
    simp (disch := omega) only [e1, cond_true, wrap_i64, Option.bind_some, e2, List.getElem?_eq_getElem hi, Prod.eta, eqInode_self hk, decide_true, Bool.not_true, cond_false]
    simp) (by
    have e1 : decide ((l.length : Int) < (l.length : Int)) = false := by simp
    unfold laws_eqInodeS.b0
    dsimp only
    rw [e1]; rfl) k (by omega)
  have e0 : ((0 : Nat) : Int) = 0 := rfl
  simp only [e0] at key
  simp only [decide_true, Bool.not_true, cond_false, key, Option.bind_some]
  rfl

theorem eqLink_self {k : Nat} (hk : 9223372036854775808 ≤ k) (a : ByteArray × Int) : laws_eqLink.f k a a = some true := by
  unfold laws_eqLink.f
  simp only [decide_true, Bool.not_true, cond_false, Option.bind_some, Prod.eta]

theorem eqLinkS_self {k : Nat} (hk : 9223372036854775808 ≤ k) (l : List (ByteArray × Int)) (h : l.length ≤ 9223372036854775807) : laws_eqLinkS.f k l l = some true := by
  unfold laws_eqLinkS.f
  have key := iter_upto (B := laws_eqLinkS.b0 k) l.length (fun i => (l, l, false, (i : Int))) (.inl false) (fun i hi => by
    have e1 : decide ((i : Int) < (l.length : Int)) = true := by simp; omega
    have e2 : inb? l.length (i : Int) = some i := by rw [inb_ok (by omega) (by omega), Int.toNat_natCast]
    unfold laws_eqLinkS.b0
    dsimp only
    simp (disch := omega) only [e1, cond_true, wrap_i64, Option.bind_some, e2, List.getElem?_eq_getElem hi, Prod.eta, eqLink_self hk, decide_true, Bool.not_true, cond_false]
    simp) (by
    have e1 : decide ((l.length : Int) < (l.length : Int)) = false := by simp
    unfold laws_eqLinkS.b0
    dsimp only
    rw [e1]; rfl) k (by omega)
  have e0 : ((0 : Nat) : Int) = 0 := rfl
  simp only [e0] at key
  simp only [decide_true, Bool.not_true, cond_false, key, Option.bind_some]
  rfl

theorem eqMove_self {k : Nat} (hk : 9223372036854775808 ≤ k) (a : Int × ByteArray × ByteArray × Int) : laws_eqMove.f k a a = some true := by
  unfold laws_eqMove.f
  simp only [decide_true, Bool.not_true, cond_false, Option.bind_some, Prod.eta]

theorem eqMoveS_self {k : Nat} (hk : 9223372036854775808 ≤ k) (l : List (Int × ByteArray × ByteArray × Int)) (h : l.length ≤ 9223372036854775807) : laws_eqMoveS.f k l l = some true := by
  unfold laws_eqMoveS.f
  have key := iter_upto (B := laws_eqMoveS.b0 k) l.length (fun i => (l, l, false, (i : Int))) (.inl false) (fun i hi => by
    have e1 : decide ((i : Int) < (l.length : Int)) = true := by simp; omega
    have e2 : inb? l.length (i : Int) = some i := by rw [inb_ok (by omega) (by omega), Int.toNat_natCast]
    unfold laws_eqMoveS.b0
    dsimp only
    simp (disch := omega) only [e1, cond_true, wrap_i64, Option.bind_some, e2, List.getElem?_eq_getElem hi, Prod.eta, eqMove_self hk, decide_true, Bool.not_true, cond_false]
    simp) (by
    have e1 : decide ((l.length : Int) < (l.length : Int)) = false := by simp
    unfold laws_eqMoveS.b0
    dsimp only
    rw [e1]; rfl) k (by omega)
  have e0 : ((0 : Nat) : Int) = 0 := rfl
  simp only [e0] at key
  simp only [decide_true, Bool.not_true, cond_false, key, Option.bind_some]
  rfl

theorem eqDisk_self {k : Nat} (hk : 9223372036854775808 ≤ k) (a : Int × Int × List (Int × ByteArray × Int) × List (ByteArray × Int) × List (Int × ByteArray × ByteArray × Int)) (ha : a.2.2.1.length ≤ 9223372036854775807) (hb : a.2.2.2.1.length ≤ 9223372036854775807) (hc : a.2.2.2.2.length ≤ 9223372036854775807) : laws_eqDisk.f k a a = some true := by
  unfold laws_eqDisk.f
  simp only [eqInodeS_self hk a.2.2.1 ha, eqLinkS_self hk a.2.2.2.1 hb, eqMoveS_self hk a.2.2.2.2 hc, decide_true, Bool.not_true, cond_false, Option.bind_some, Prod.eta]

theorem szInode_sz {k : Nat} (hk : 9223372036854775808 ≤ k) (a : Int × ByteArray × Int) (wa : a.2.1.size ≤ 9223372036854775807) (l : Int) (h0 : 0 ≤ l) (h1 : l ≤ 1048576) : Sz (laws_szInode.f k a l) l (a.2.1.size) := by
  unfold laws_szInode.f
  exact Sz.cast (n := (a.2.1.size) + (0)) (Sz.sub h0 h1 wa fun v0 p0 q0 => Sz.ret p0) (by omega)

theorem szInodeS_sz {k : Nat} (hk : 9223372036854775808 ≤ k) (a : List (Int × ByteArray × Int)) (wa : a.length ≤ 9223372036854775807) (wb : ∀ x ∈ a, x.2.1.size ≤ 9223372036854775807) (l : Int) (h0 : 0 ≤ l) (h1 : l ≤ 1048576) : Sz (laws_szInodeS.f k a l) l (a.length + (a.map fun x => x.2.1.size).sum) := by
  unfold laws_szInodeS.f
  rw [wrap_i64 (by omega) (by omega)]
  by_cases hneg : l - (a.length : Int) < 0
  · rw [decide_eq_true hneg]; exact ⟨-1, rfl, .inl rfl⟩
  rw [decide_eq_false hneg, cond_false]
  have hi := sz_iter (xs := a) (A := fun x => x.2.1.size) (z := 0) (B := laws_szInodeS.b0 k) (fun i hi v h0 h1 => by
    have e1 : decide ((i : Int) < (a.length : Int)) = true := by simp; omega
    have e2 : inb? a.length (i : Int) = some i := by rw [inb_ok (by omega) (by omega), Int.toNat_natCast]
    obtain ⟨v', h2, h3⟩ := szInode_sz hk a[i] (wb _ (List.getElem_mem hi)) v h0 h1
    unfold laws_szInodeS.b0
    dsimp only
    simp (disch := omega) only [e1, cond_true, wrap_i64, Option.bind_some, e2, List.getElem?_eq_getElem hi, Prod.eta, h2]
    rcases h3 with rfl | ⟨h3, h4⟩
    · exact .inl rfl
    · have e : decide (v' < 0) = false := by simp; omega
      rw [e]
      exact .inr ⟨v', h3, h4, rfl⟩) (fun v => by
    have e1 : decide ((a.length : Int) < (a.length : Int)) = false := by simp
    unfold laws_szInodeS.b0
    dsimp only
    rw [e1]; rfl) a.length 0 k (l - (a.length : Int)) (by omega) (by omega) (by omega) (by omega)
  have e0 : ((0 : Nat) : Int) = 0 := rfl
  rw [e0] at hi
  rcases hi with hi | ⟨v', h2, h3, h4⟩
  · rw [hi]; exact ⟨-1, rfl, .inl rfl⟩
  · rw [h4]
    rw [List.drop_zero] at h3
    exact ⟨v', rfl, .inr ⟨h2, by omega⟩⟩

theorem szLink_sz {k : Nat} (hk : 9223372036854775808 ≤ k) (a : ByteArray × Int) (wa : a.1.size ≤ 9223372036854775807) (l : Int) (h0 : 0 ≤ l) (h1 : l ≤ 1048576) : Sz (laws_szLink.f k a l) l (a.1.size) := by
  unfold laws_szLink.f
  exact Sz.cast (n := (a.1.size) + (0)) (Sz.sub h0 h1 wa fun v0 p0 q0 => Sz.ret p0) (by omega)

theorem szLinkS_sz {k : Nat} (hk : 9223372036854775808 ≤ k) (a : List (ByteArray × Int)) (wa : a.length ≤ 9223372036854775807) (wb : ∀ x ∈ a, x.1.size ≤ 9223372036854775807) (l : Int) (h0 : 0 ≤ l) (h1 : l ≤ 1048576) : Sz (laws_szLinkS.f k a l) l (a.length + (a.map fun x => x.1.size).sum) := by
  unfold laws_szLinkS.f
  rw [wrap_i64 (by omega) (by omega)]
  by_cases hneg : l - (a.length : Int) < 0
  · rw [decide_eq_true hneg]; exact ⟨-1, rfl, .inl rfl⟩
  rw [decide_eq_false hneg, cond_false]
  have hi := sz_iter (xs := a) (A := fun x => x.1.size) (z := 0) (B := laws_szLinkS.b0 k) (fun i hi v h0 h1 => by
    have e1 : decide ((i : Int) < (a.length : Int)) = true := by simp; omega
    have e2 : inb? a.length (i : Int) = some i := by rw [inb_ok (by omega) (by omega), Int.toNat_natCast]
    obtain ⟨v', h2, h3⟩ := szLink_sz hk a[i] (wb _ (List.getElem_mem hi)) v h0 h1
    unfold laws_szLinkS.b0
    dsimp only
    simp (disch := omega) only [e1, cond_true, wrap_i64, Option.bind_some, e2, List.getElem?_eq_getElem hi, Prod.eta, h2]
    rcases h3 with rfl | ⟨h3, h4⟩
    · exact .inl rfl
    · have e : decide (v' < 0) = false := by simp; omega
      rw [e]
      exact .inr ⟨v', h3, h4, rfl⟩) (fun v => by
    have e1 : decide ((a.length : Int) < (a.length : Int)) = false := by simp
    unfold laws_szLinkS.b0
    dsimp only
    rw [e1]; rfl) a.length 0 k (l - (a.length : Int)) (by omega) (by omega) (by omega) (by omega)
  have e0 : ((0 : Nat) : Int) = 0 := rfl
  rw [e0] at hi
  rcases hi with hi | ⟨v', h2, h3, h4⟩
  · rw [hi]; exact ⟨-1, rfl, .inl rfl⟩
  · rw [h4]
    rw [List.drop_zero] at h3
    exact ⟨v', rfl, .inr ⟨h2, by omega⟩⟩

theorem szMove_sz {k : Nat} (hk : 9223372036854775808 ≤ k) (a : Int × ByteArray × ByteArray × Int) (wa : a.2.1.size ≤ 9223372036854775807) (wb : a.2.2.1.size ≤ 9223372036854775807) (l : Int) (h0 : 0 ≤ l) (h1 : l ≤ 1048576) : Sz (laws_szMove.f k a l) l (a.2.1.size + a.2.2.1.size) := by
  unfold laws_szMove.f
  exact Sz.cast (n := (a.2.1.size) + ((a.2.2.1.size) + (0))) (Sz.sub h0 h1 wa fun v0 p0 q0 => Sz.sub p0 (by omega) wb fun v1 p1 q1 => Sz.ret p1) (by omega)

theorem szMoveS_sz {k : Nat} (hk : 9223372036854775808 ≤ k) (a : List (Int × ByteArray × ByteArray × Int)) (wa : a.length ≤ 9223372036854775807) (wb : ∀ x ∈ a, x.2.1.size ≤ 9223372036854775807 ∧ x.2.2.1.size ≤ 9223372036854775807) (l : Int) (h0 : 0 ≤ l) (h1 : l ≤ 1048576) : Sz (laws_szMoveS.f k a l) l (a.length + (a.map fun x => x.2.1.size + x.2.2.1.size).sum) := by
  unfold laws_szMoveS.f
  rw [wrap_i64 (by omega) (by omega)]
  by_cases hneg : l - (a.length : Int) < 0
  · rw [decide_eq_true hneg]; exact ⟨-1, rfl, .inl rfl⟩
  rw [decide_eq_false hneg, cond_false]
  have hi := sz_iter (xs := a) (A := fun x => x.2.1.size + x.2.2.1.size) (z := 0) (B := laws_szMoveS.b0 k) (fun i hi v h0 h1 => by
    have e1 : decide ((i : Int) < (a.length : Int)) = true := by simp; omega
    have e2 : inb? a.length (i : Int) = some i := by rw [inb_ok (by omega) (by omega), Int.toNat_natCast]
    obtain ⟨v', h2, h3⟩ := szMove_sz hk a[i] (wb _ (List.getElem_mem hi)).1 (wb _ (List.getElem_mem hi)).2 v h0 h1
    unfold laws_szMoveS.b0
    dsimp only
    simp (disch := omega) only [e1, cond_true, wrap_i64, Option.bind_some, e2, List.getElem?_eq_getElem hi, Prod.eta, h2]
    rcases h3 with rfl | ⟨h3, h4⟩
    · exact .inl rfl
    · have e : decide (v' < 0) = false := by simp; omega
      rw [e]
      exact .inr ⟨v', h3, h4, rfl⟩) (fun v => by
    have e1 : decide ((a.length : Int) < (a.length : Int)) = false := by simp
    unfold laws_szMoveS.b0
    dsimp only
    rw [e1]; rfl) a.length 0 k (l - (a.length : Int)) (by omega) (by omega) (by omega) (by omega)
  have e0 : ((0 : Nat) : Int) = 0 := rfl
  rw [e0] at hi
  rcases hi with hi | ⟨v', h2, h3, h4⟩
  · rw [hi]; exact ⟨-1, rfl, .inl rfl⟩
  · rw [h4]
    rw [List.drop_zero] at h3
    exact ⟨v', rfl, .inr ⟨h2, by omega⟩⟩

theorem szDisk_sz {k : Nat} (hk : 9223372036854775808 ≤ k) (a : Int × Int × List (Int × ByteArray × Int) × List (ByteArray × Int) × List (Int × ByteArray × ByteArray × Int)) (wa : a.2.2.1.length ≤ 9223372036854775807) (wb : ∀ x ∈ a.2.2.1, x.2.1.size ≤ 9223372036854775807) (wc : a.2.2.2.1.length ≤ 9223372036854775807) (wd : ∀ x ∈ a.2.2.2.1, x.1.size ≤ 9223372036854775807) (we : a.2.2.2.2.length ≤ 9223372036854775807) (wf : ∀ x ∈ a.2.2.2.2, x.2.1.size ≤ 9223372036854775807 ∧ x.2.2.1.size ≤ 9223372036854775807) (l : Int) (h0 : 0 ≤ l) (h1 : l ≤ 1048576) : Sz (laws_szDisk.f k a l) l (a.2.2.1.length + (a.2.2.1.map fun x => x.2.1.size).sum + a.2.2.2.1.length + (a.2.2.2.1.map fun x => x.1.size).sum + a.2.2.2.2.length + (a.2.2.2.2.map fun x => x.2.1.size + x.2.2.1.size).sum) := by
  unfold laws_szDisk.f
  exact Sz.cast (n := (a.2.2.1.length + (a.2.2.1.map fun x => x.2.1.size).sum) + ((a.2.2.2.1.length + (a.2.2.2.1.map fun x => x.1.size).sum) + ((a.2.2.2.2.length + (a.2.2.2.2.map fun x => x.2.1.size + x.2.2.1.size).sum) + (0)))) (Sz.bind (szInodeS_sz hk a.2.2.1 wa wb _ h0 h1) fun v0 p0 q0 => Sz.bind (szLinkS_sz hk a.2.2.2.1 wc wd _ p0 (by omega)) fun v1 p1 q1 => Sz.bind (szMoveS_sz hk a.2.2.2.2 we wf _ p1 (by omega)) fun v2 p2 q2 => Sz.ret p2) (by omega)

theorem toInode_eq {k : Nat} (hk : 9223372036854775808 ≤ k) (a : Int × ByteArray × Int) : laws_toInode.f k a = some a := by
  unfold laws_toInode.f
  simp only [Option.bind_some, Prod.eta]

theorem toInodeS_eq {k : Nat} (hk : 9223372036854775808 ≤ k) (a : List (Int × ByteArray × Int)) (h : a.length ≤ 1048576) : laws_toInodeS.f k a = some a := by
  unfold laws_toInodeS.f
  rw [mk_ok (by omega) (by unfold limOf; omega)]
  simp only [Option.bind_some, Int.toNat_natCast]
  obtain ⟨l1, hl1⟩ : ∃ l1, List.replicate a.length ((0 : Int), (⟨#[]⟩ : ByteArray), (0 : Int)) = l1 := ⟨_, rfl⟩
  have hlen : l1.length = a.length := by rw [← hl1]; simp
  rw [hl1]
  have key := iter_upto (B := laws_toInodeS.b0 k) a.length (fun i => (a, [], cpU a l1 i, (i : Int))) (.inl ([], cpU a l1 a.length)) (fun i hi => by
    have hl := cpU_length a l1 i
    rw [cpU_succ a l1 hi]
    obtain ⟨L, hL⟩ : ∃ L, cpU a l1 i = L := ⟨_, rfl⟩
    rw [hL] at hl ⊢
    have hlt : i < L.length := by omega
    have e1 : decide ((i : Int) < (a.length : Int)) = true := by simp; omega
    have e2 : inb? a.length (i : Int) = some i := by rw [inb_ok (by omega) (by omega), Int.toNat_natCast]
    have e3 : inb? L.length (i : Int) = some i := by rw [inb_ok (by omega) (by omega), Int.toNat_natCast]
    unfold laws_toInodeS.b0
    dsimp only
    simp (disch := omega) only [e1, cond_true, wrap_i64, Option.bind_some, e2, e3, List.getElem?_eq_getElem hi, List.getElem?_eq_getElem hlt, Prod.eta, toInode_eq hk]
    simp) (by
    have e1 : decide ((a.length : Int) < (a.length : Int)) = false := by simp
    unfold laws_toInodeS.b0
    dsimp only
    rw [e1]; rfl) k (by omega)
  have e0 : ((0 : Nat) : Int) = 0 := rfl
  simp only [e0, cpU] at key
  rw [key]
  simp only [Option.bind_some]
  unfold laws_toInodeS.d0
  simp only [cpU_all a l1 hlen]

theorem toLink_eq {k : Nat} (hk : 9223372036854775808 ≤ k) (a : ByteArray × Int) : laws_toLink.f k a = some a := by
  unfold laws_toLink.f
  simp only [Option.bind_some, Prod.eta]

theorem toLinkS_eq {k : Nat} (hk : 9223372036854775808 ≤ k) (a : List (ByteArray × Int)) (h : a.length ≤ 1048576) : laws_toLinkS.f k a = some a := by
  unfold laws_toLinkS.f
  rw [mk_ok (by omega) (by unfold limOf; omega)]
  simp only [Option.bind_some, Int.toNat_natCast]
  obtain ⟨l1, hl1⟩ : ∃ l1, List.replicate a.length ((⟨#[]⟩ : ByteArray), (0 : Int)) = l1 := ⟨_, rfl⟩
  have hlen : l1.length = a.length := by rw [← hl1]; simp
  rw [hl1]
  have key := iter_upto (B := laws_toLinkS.b0 k) a.length (fun i => (a, [], cpU a l1 i, (i : Int))) (.inl ([], cpU a l1 a.length)) (fun i hi => by
    have hl := cpU_length a l1 i
    rw [cpU_succ a l1 hi]
    obtain ⟨L, hL⟩ : ∃ L, cpU a l1 i = L := ⟨_, rfl⟩
    rw [hL] at hl ⊢
    have hlt : i < L.length := by omega
    have e1 : decide ((i : Int) < (a.length : Int)) = true := by simp; omega
    have e2 : inb? a.length (i : Int) = some i := by rw [inb_ok (by omega) (by omega), Int.toNat_natCast]
    have e3 : inb? L.length (i : Int) = some i := by rw [inb_ok (by omega) (by omega), Int.toNat_natCast]
    unfold laws_toLinkS.b0
    dsimp only
    simp (disch := omega) only [e1, cond_true, wrap_i64, Option.bind_some, e2, e3, List.getElem?_eq_getElem hi, List.getElem?_eq_getElem hlt, Prod.eta, toLink_eq hk]
    simp) (by
    have e1 : decide ((a.length : Int) < (a.length : Int)) = false := by simp
    unfold laws_toLinkS.b0
    dsimp only
    rw [e1]; rfl) k (by omega)
  have e0 : ((0 : Nat) : Int) = 0 := rfl
  simp only [e0, cpU] at key
  rw [key]
  simp only [Option.bind_some]
  unfold laws_toLinkS.d0
  simp only [cpU_all a l1 hlen]

theorem toMove_eq {k : Nat} (hk : 9223372036854775808 ≤ k) (a : Int × ByteArray × ByteArray × Int) : laws_toMove.f k a = some a := by
  unfold laws_toMove.f
  simp only [Option.bind_some, Prod.eta]

theorem toMoveS_eq {k : Nat} (hk : 9223372036854775808 ≤ k) (a : List (Int × ByteArray × ByteArray × Int)) (h : a.length ≤ 1048576) : laws_toMoveS.f k a = some a := by
  unfold laws_toMoveS.f
  rw [mk_ok (by omega) (by unfold limOf; omega)]
  simp only [Option.bind_some, Int.toNat_natCast]
  obtain ⟨l1, hl1⟩ : ∃ l1, List.replicate a.length ((0 : Int), (⟨#[]⟩ : ByteArray), (⟨#[]⟩ : ByteArray), (0 : Int)) = l1 := ⟨_, rfl⟩
  have hlen : l1.length = a.length := by rw [← hl1]; simp
  rw [hl1]
  have key := iter_upto (B := laws_toMoveS.b0 k) a.length (fun i => (a, [], cpU a l1 i, (i : Int))) (.inl ([], cpU a l1 a.length)) (fun i hi => by
    have hl := cpU_length a l1 i
    rw [cpU_succ a l1 hi]
    obtain ⟨L, hL⟩ : ∃ L, cpU a l1 i = L := ⟨_, rfl⟩
    rw [hL] at hl ⊢
    have hlt : i < L.length := by omega
    have e1 : decide ((i : Int) < (a.length : Int)) = true := by simp; omega
    have e2 : inb? a.length (i : Int) = some i := by rw [inb_ok (by omega) (by omega), Int.toNat_natCast]
    have e3 : inb? L.length (i : Int) = some i := by rw [inb_ok (by omega) (by omega), Int.toNat_natCast]
    unfold laws_toMoveS.b0
    dsimp only
    simp (disch := omega) only [e1, cond_true, wrap_i64, Option.bind_some, e2, e3, List.getElem?_eq_getElem hi, List.getElem?_eq_getElem hlt, Prod.eta, toMove_eq hk]
    simp) (by
    have e1 : decide ((a.length : Int) < (a.length : Int)) = false := by simp
    unfold laws_toMoveS.b0
    dsimp only
    rw [e1]; rfl) k (by omega)
  have e0 : ((0 : Nat) : Int) = 0 := rfl
  simp only [e0, cpU] at key
  rw [key]
  simp only [Option.bind_some]
  unfold laws_toMoveS.d0
  simp only [cpU_all a l1 hlen]

theorem toDisk_eq {k : Nat} (hk : 9223372036854775808 ≤ k) (a : Int × Int × List (Int × ByteArray × Int) × List (ByteArray × Int) × List (Int × ByteArray × ByteArray × Int)) (ha : a.2.2.1.length ≤ 1048576) (hb : a.2.2.2.1.length ≤ 1048576) (hc : a.2.2.2.2.length ≤ 1048576) : laws_toDisk.f k a = some a := by
  unfold laws_toDisk.f
  simp only [toInodeS_eq hk a.2.2.1 ha, toLinkS_eq hk a.2.2.2.1 hb, toMoveS_eq hk a.2.2.2.2 hc, Option.bind_some, Prod.eta]

/-! a mark's text -/
theorem markText_some {k : Nat} (hk : 9223372036854775808 ≤ k) (n : Int) (h : n ≤ 4611686018427387904) : ∃ s, laws_markText.f k n = some s := by
  unfold laws_markText.f
  by_cases h0 : n ≤ 0
  · rw [decide_eq_true h0]; exact ⟨_, rfl⟩
  · rw [decide_eq_false h0, cond_false]
    obtain ⟨x, hx, hq⟩ := iter_some (B := laws_markText.b0 k) (fun s => 0 ≤ s.1 ∧ (s.2.2.size : Int) + s.1 ≤ 4611686018427387904) (fun s => s.1.toNat)
      (fun x => ∃ y, x = .inl y ∧ (y.2.size : Int) ≤ 4611686018427387904) (fun s hs => by
        obtain ⟨m, a, l⟩ := s
        dsimp only at hs ⊢
        unfold laws_markText.b0
        dsimp only
        by_cases h : 0 < m
        · have e : IntKind.wrap .i64 (Int.tdiv m 10) = m / 10 := by
            rw [Int.tdiv_eq_ediv_of_nonneg hs.1]
            exact wrap_i64 (by omega) (by omega)
          have hz : (strOfNums [IntKind.wrap .u8 (IntKind.wrap .i64 (48 + Int.tmod m 10))]).size = 1 := rfl
          rw [decide_eq_true h, cond_true, cat_ok (by rw [hz]; omega), e]
          refine .inl ⟨_, rfl, ⟨by dsimp only; omega, ?_⟩, by dsimp only; omega⟩
          dsimp only
          rw [ByteArray.size_append, hz]; omega
        · rw [decide_eq_false h, cond_false]
          exact .inr ⟨_, rfl, _, rfl, by dsimp only; omega⟩) k (n, ⟨#[]⟩, ⟨#[]⟩) ⟨by dsimp only; omega, by have : (⟨#[]⟩ : ByteArray).size = 0 := rfl; dsimp only; omega⟩ (by dsimp only; omega)
    obtain ⟨y, rfl, hy⟩ := hq
    rw [hx]
    simp only [Option.bind_some]
    unfold laws_markText.d0
    rw [cat_ok (by have : (⟨#[109]⟩ : ByteArray).size = 1 := rfl; omega)]
    exact ⟨_, rfl⟩
def mtx (k : Nat) (n : Int) : ByteArray := (laws_markText.f k n).getD ⟨#[]⟩
theorem mtx_eq {k : Nat} (hk : 9223372036854775808 ≤ k) {n : Int} (h : n ≤ 4611686018427387904) : laws_markText.f k n = some (mtx k n) := by
  obtain ⟨s, h⟩ := markText_some hk n h
  unfold mtx
  rw [h]; rfl

def mInodeS (k : Nat) (x : Int × ByteArray × Int) (n : Int) : Int × ByteArray × Int := (n, mtx k (n + 1), n + 1 + 1)
theorem laws_markInodeS_eq {k : Nat} (hk : 9223372036854775808 ≤ k) (l : List (Int × ByteArray × Int)) (n : Int) (h0 : 0 ≤ n) (h : n + 3 * l.length ≤ 1152921504606846976) :
    laws_markInodeS.f k l n = some (n + 3 * l.length, mkU (mInodeS k) 3 n l l.length) := by
  unfold laws_markInodeS.f
  have key := iter_upto (B := laws_markInodeS.b0 k) l.length (fun i => (mkU (mInodeS k) 3 n l i, n + 3 * i, (0 : Int), (i : Int))) (.inl (mkU (mInodeS k) 3 n l l.length, n + 3 * l.length, (0 : Int))) (fun i hi => by
    have hl := mkU_length (mInodeS k) 3 n l i
    have hg := mkU_at (mInodeS k) 3 n l hi
    rw [mkU_succ _ _ _ _ hi]
    obtain ⟨L, hL⟩ : ∃ L, mkU (mInodeS k) 3 n l i = L := ⟨_, rfl⟩
    rw [hL] at hl hg ⊢
    have hlt : i < L.length := by omega
    have e1 : decide ((i : Int) < (L.length : Int)) = true := by simp; omega
    have e2 : inb? L.length (i : Int) = some i := by rw [inb_ok (by omega) (by omega), Int.toNat_natCast]
    unfold laws_markInodeS.b0
    dsimp only
    simp (disch := omega) only [e1, cond_true, wrap_i64, mtx_eq hk, Option.bind_some, List.length_set, e2, hg, List.getElem?_set_self hlt, List.getElem?_set_self, List.set_set]
    simp [mInodeS]
    omega) (by
    have hl := mkU_length (mInodeS k) 3 n l l.length
    obtain ⟨L, hL⟩ : ∃ L, mkU (mInodeS k) 3 n l l.length = L := ⟨_, rfl⟩
    rw [hL] at hl ⊢
    have e1 : decide ((l.length : Int) < (L.length : Int)) = false := by simp; omega
    unfold laws_markInodeS.b0
    dsimp only
    rw [e1]; rfl) k (by omega)
  have e0 : ((0 : Nat) : Int) = 0 := rfl
  simp only [e0, mkU, Int.mul_zero, Int.add_zero] at key
  rw [key]
  rfl
theorem markInodeS_some {k : Nat} (hk : 9223372036854775808 ≤ k) (l : List (Int × ByteArray × Int)) (n : Int) (h0 : 0 ≤ n) (h1 : n ≤ 288230376151711744) (h : l.length ≤ 1099511627776) :
    ∃ n' l', laws_markInodeS.f k l n = some (n', l') ∧ 0 ≤ n' ∧ n' ≤ n + 109951162777600 :=
  ⟨_, _, laws_markInodeS_eq hk l n h0 (by omega), by omega, by omega⟩

def mLinkS (k : Nat) (x : ByteArray × Int) (n : Int) : ByteArray × Int := (mtx k (n), n + 1)
theorem laws_markLinkS_eq {k : Nat} (hk : 9223372036854775808 ≤ k) (l : List (ByteArray × Int)) (n : Int) (h0 : 0 ≤ n) (h : n + 2 * l.length ≤ 1152921504606846976) :
    laws_markLinkS.f k l n = some (n + 2 * l.length, mkU (mLinkS k) 2 n l l.length) := by
  unfold laws_markLinkS.f
  have key := iter_upto (B := laws_markLinkS.b0 k) l.length (fun i => (mkU (mLinkS k) 2 n l i, n + 2 * i, (0 : Int), (i : Int))) (.inl (mkU (mLinkS k) 2 n l l.length, n + 2 * l.length, (0 : Int))) (fun i hi => by
    have hl := mkU_length (mLinkS k) 2 n l i
    have hg := mkU_at (mLinkS k) 2 n l hi
    rw [mkU_succ _ _ _ _ hi]
    obtain ⟨L, hL⟩ : ∃ L, mkU (mLinkS k) 2 n l i = L := ⟨_, rfl⟩
    rw [hL] at hl hg ⊢
    have hlt : i < L.length := by omega
    have e1 : decide ((i : Int) < (L.length : Int)) = true := by simp; omega
    have e2 : inb? L.length (i : Int) = some i := by rw [inb_ok (by omega) (by omega), Int.toNat_natCast]
    unfold laws_markLinkS.b0
    dsimp only
    simp (disch := omega) only [e1, cond_true, wrap_i64, mtx_eq hk, Option.bind_some, List.length_set, e2, hg, List.getElem?_set_self hlt, List.getElem?_set_self, List.set_set]
    simp [mLinkS]
    omega) (by
    have hl := mkU_length (mLinkS k) 2 n l l.length
    obtain ⟨L, hL⟩ : ∃ L, mkU (mLinkS k) 2 n l l.length = L := ⟨_, rfl⟩
    rw [hL] at hl ⊢
    have e1 : decide ((l.length : Int) < (L.length : Int)) = false := by simp; omega
    unfold laws_markLinkS.b0
    dsimp only
    rw [e1]; rfl) k (by omega)
  have e0 : ((0 : Nat) : Int) = 0 := rfl
  simp only [e0, mkU, Int.mul_zero, Int.add_zero] at key
  rw [key]
  rfl
theorem markLinkS_some {k : Nat} (hk : 9223372036854775808 ≤ k) (l : List (ByteArray × Int)) (n : Int) (h0 : 0 ≤ n) (h1 : n ≤ 288230376151711744) (h : l.length ≤ 1099511627776) :
    ∃ n' l', laws_markLinkS.f k l n = some (n', l') ∧ 0 ≤ n' ∧ n' ≤ n + 109951162777600 :=
  ⟨_, _, laws_markLinkS_eq hk l n h0 (by omega), by omega, by omega⟩

def mMoveS (k : Nat) (x : Int × ByteArray × ByteArray × Int) (n : Int) : Int × ByteArray × ByteArray × Int := (n, mtx k (n + 1), mtx k (n + 1 + 1), n + 1 + 1 + 1)
theorem laws_markMoveS_eq {k : Nat} (hk : 9223372036854775808 ≤ k) (l : List (Int × ByteArray × ByteArray × Int)) (n : Int) (h0 : 0 ≤ n) (h : n + 4 * l.length ≤ 1152921504606846976) :
    laws_markMoveS.f k l n = some (n + 4 * l.length, mkU (mMoveS k) 4 n l l.length) := by
  unfold laws_markMoveS.f
  have key := iter_upto (B := laws_markMoveS.b0 k) l.length (fun i => (mkU (mMoveS k) 4 n l i, n + 4 * i, (0 : Int), (i : Int))) (.inl (mkU (mMoveS k) 4 n l l.length, n + 4 * l.length, (0 : Int))) (fun i hi => by
    have hl := mkU_length (mMoveS k) 4 n l i
    have hg := mkU_at (mMoveS k) 4 n l hi
    rw [mkU_succ _ _ _ _ hi]
    obtain ⟨L, hL⟩ : ∃ L, mkU (mMoveS k) 4 n l i = L := ⟨_, rfl⟩
    rw [hL] at hl hg ⊢
    have hlt : i < L.length := by omega
    have e1 : decide ((i : Int) < (L.length : Int)) = true := by simp; omega
    have e2 : inb? L.length (i : Int) = some i := by rw [inb_ok (by omega) (by omega), Int.toNat_natCast]
    unfold laws_markMoveS.b0
    dsimp only
    simp (disch := omega) only [e1, cond_true, wrap_i64, mtx_eq hk, Option.bind_some, List.length_set, e2, hg, List.getElem?_set_self hlt, List.getElem?_set_self, List.set_set]
    simp [mMoveS]
    omega) (by
    have hl := mkU_length (mMoveS k) 4 n l l.length
    obtain ⟨L, hL⟩ : ∃ L, mkU (mMoveS k) 4 n l l.length = L := ⟨_, rfl⟩
    rw [hL] at hl ⊢
    have e1 : decide ((l.length : Int) < (L.length : Int)) = false := by simp; omega
    unfold laws_markMoveS.b0
    dsimp only
    rw [e1]; rfl) k (by omega)
  have e0 : ((0 : Nat) : Int) = 0 := rfl
  simp only [e0, mkU, Int.mul_zero, Int.add_zero] at key
  rw [key]
  rfl
theorem markMoveS_some {k : Nat} (hk : 9223372036854775808 ≤ k) (l : List (Int × ByteArray × ByteArray × Int)) (n : Int) (h0 : 0 ≤ n) (h1 : n ≤ 288230376151711744) (h : l.length ≤ 1099511627776) :
    ∃ n' l', laws_markMoveS.f k l n = some (n', l') ∧ 0 ≤ n' ∧ n' ≤ n + 109951162777600 :=
  ⟨_, _, laws_markMoveS_eq hk l n h0 (by omega), by omega, by omega⟩

theorem markDisk_some {k : Nat} (hk : 9223372036854775808 ≤ k) (a : Int × Int × List (Int × ByteArray × Int) × List (ByteArray × Int) × List (Int × ByteArray × ByteArray × Int)) (n : Int) (h0 : 0 ≤ n) (h1 : n ≤ 277235259873951744) (ha : a.2.2.1.length ≤ 1099511627776) (hb : a.2.2.2.1.length ≤ 1099511627776) (hc : a.2.2.2.2.length ≤ 1099511627776) :
    ∃ n' l0 l1 l2, laws_markDisk.f k a n = some (n', (a.1, a.2.1, l0, l1, l2)) ∧ 0 ≤ n' ∧ n' ≤ n + 329853488332800 := by
  obtain ⟨n0, l0, p0, b0, c0⟩ := markInodeS_some hk a.2.2.1 n h0 (by omega) ha
  obtain ⟨n1, l1, p1, b1, c1⟩ := markLinkS_some hk a.2.2.2.1 n0 b0 (by omega) hb
  obtain ⟨n2, l2, p2, b2, c2⟩ := markMoveS_some hk a.2.2.2.2 n1 b1 (by omega) hc
  refine ⟨n2, l0, l1, l2, ?_, b2, by omega⟩
  unfold laws_markDisk.f
  simp only [p0, p1, p2, Option.bind_some, Prod.eta]

theorem eqEntry_self {k : Nat} (hk : 9223372036854775808 ≤ k) (a : Int × ByteArray) : laws_eqEntry.f k a a = some true := by
  unfold laws_eqEntry.f
  simp only [decide_true, Bool.not_true, cond_false, Option.bind_some, Prod.eta]

theorem eqEntryS_self {k : Nat} (hk : 9223372036854775808 ≤ k) (l : List (Int × ByteArray)) (h : l.length ≤ 9223372036854775807) : laws_eqEntryS.f k l l = some true := by
  unfold laws_eqEntryS.f
  have key := iter_upto (B := laws_eqEntryS.b0 k) l.length (fun i => (l, l, false, (i : Int))) (.inl false) (fun i hi => by
    have e1 : decide ((i : Int) < (l.length : Int)) = true := by simp; omega
    have e2 : inb? l.length (i : Int) = some i := by rw [inb_ok (by omega) (by omega), Int.toNat_natCast]
    unfold laws_eqEntryS.b0
    dsimp only
    simp (disch := omega) only [e1, cond_true, wrap_i64, Option.bind_some, e2, List.getElem?_eq_getElem hi, Prod.eta, eqEntry_self hk, decide_true, Bool.not_true, cond_false]
    simp) (by
    have e1 : decide ((l.length : Int) < (l.length : Int)) = false := by simp
    unfold laws_eqEntryS.b0
    dsimp only
    rw [e1]; rfl) k (by omega)
  have e0 : ((0 : Nat) : Int) = 0 := rfl
  simp only [e0] at key
  simp only [decide_true, Bool.not_true, cond_false, key, Option.bind_some]
  rfl

theorem eqWal_self {k : Nat} (hk : 9223372036854775808 ≤ k) (a : Int × Int × Int × Int × List (Int × ByteArray)) (ha : a.2.2.2.2.length ≤ 9223372036854775807) : laws_eqWal.f k a a = some true := by
  unfold laws_eqWal.f
  simp only [eqEntryS_self hk a.2.2.2.2 ha, decide_true, Bool.not_true, cond_false, Option.bind_some, Prod.eta]

theorem szEntry_sz {k : Nat} (hk : 9223372036854775808 ≤ k) (a : Int × ByteArray) (wa : a.2.size ≤ 9223372036854775807) (l : Int) (h0 : 0 ≤ l) (h1 : l ≤ 1048576) : Sz (laws_szEntry.f k a l) l (a.2.size) := by
  unfold laws_szEntry.f
  exact Sz.cast (n := (a.2.size) + (0)) (Sz.sub h0 h1 wa fun v0 p0 q0 => Sz.ret p0) (by omega)

theorem szEntryS_sz {k : Nat} (hk : 9223372036854775808 ≤ k) (a : List (Int × ByteArray)) (wa : a.length ≤ 9223372036854775807) (wb : ∀ x ∈ a, x.2.size ≤ 9223372036854775807) (l : Int) (h0 : 0 ≤ l) (h1 : l ≤ 1048576) : Sz (laws_szEntryS.f k a l) l (a.length + (a.map fun x => x.2.size).sum) := by
  unfold laws_szEntryS.f
  rw [wrap_i64 (by omega) (by omega)]
  by_cases hneg : l - (a.length : Int) < 0
  · rw [decide_eq_true hneg]; exact ⟨-1, rfl, .inl rfl⟩
  rw [decide_eq_false hneg, cond_false]
  have hi := sz_iter (xs := a) (A := fun x => x.2.size) (z := 0) (B := laws_szEntryS.b0 k) (fun i hi v h0 h1 => by
    have e1 : decide ((i : Int) < (a.length : Int)) = true := by simp; omega
    have e2 : inb? a.length (i : Int) = some i := by rw [inb_ok (by omega) (by omega), Int.toNat_natCast]
    obtain ⟨v', h2, h3⟩ := szEntry_sz hk a[i] (wb _ (List.getElem_mem hi)) v h0 h1
    unfold laws_szEntryS.b0
    dsimp only
    simp (disch := omega) only [e1, cond_true, wrap_i64, Option.bind_some, e2, List.getElem?_eq_getElem hi, Prod.eta, h2]
    rcases h3 with rfl | ⟨h3, h4⟩
    · exact .inl rfl
    · have e : decide (v' < 0) = false := by simp; omega
      rw [e]
      exact .inr ⟨v', h3, h4, rfl⟩) (fun v => by
    have e1 : decide ((a.length : Int) < (a.length : Int)) = false := by simp
    unfold laws_szEntryS.b0
    dsimp only
    rw [e1]; rfl) a.length 0 k (l - (a.length : Int)) (by omega) (by omega) (by omega) (by omega)
  have e0 : ((0 : Nat) : Int) = 0 := rfl
  rw [e0] at hi
  rcases hi with hi | ⟨v', h2, h3, h4⟩
  · rw [hi]; exact ⟨-1, rfl, .inl rfl⟩
  · rw [h4]
    rw [List.drop_zero] at h3
    exact ⟨v', rfl, .inr ⟨h2, by omega⟩⟩

theorem szWal_sz {k : Nat} (hk : 9223372036854775808 ≤ k) (a : Int × Int × Int × Int × List (Int × ByteArray)) (wa : a.2.2.2.2.length ≤ 9223372036854775807) (wb : ∀ x ∈ a.2.2.2.2, x.2.size ≤ 9223372036854775807) (l : Int) (h0 : 0 ≤ l) (h1 : l ≤ 1048576) : Sz (laws_szWal.f k a l) l (a.2.2.2.2.length + (a.2.2.2.2.map fun x => x.2.size).sum) := by
  unfold laws_szWal.f
  exact Sz.cast (n := (a.2.2.2.2.length + (a.2.2.2.2.map fun x => x.2.size).sum) + (0)) (Sz.bind (szEntryS_sz hk a.2.2.2.2 wa wb _ h0 h1) fun v0 p0 q0 => Sz.ret p0) (by omega)

theorem toEntry_eq {k : Nat} (hk : 9223372036854775808 ≤ k) (a : Int × ByteArray) : laws_toEntry.f k a = some a := by
  unfold laws_toEntry.f
  simp only [Option.bind_some, Prod.eta]

theorem toEntryS_eq {k : Nat} (hk : 9223372036854775808 ≤ k) (a : List (Int × ByteArray)) (h : a.length ≤ 1048576) : laws_toEntryS.f k a = some a := by
  unfold laws_toEntryS.f
  rw [mk_ok (by omega) (by unfold limOf; omega)]
  simp only [Option.bind_some, Int.toNat_natCast]
  obtain ⟨l1, hl1⟩ : ∃ l1, List.replicate a.length ((0 : Int), (⟨#[]⟩ : ByteArray)) = l1 := ⟨_, rfl⟩
  have hlen : l1.length = a.length := by rw [← hl1]; simp
  rw [hl1]
  have key := iter_upto (B := laws_toEntryS.b0 k) a.length (fun i => (a, [], cpU a l1 i, (i : Int))) (.inl ([], cpU a l1 a.length)) (fun i hi => by
    have hl := cpU_length a l1 i
    rw [cpU_succ a l1 hi]
    obtain ⟨L, hL⟩ : ∃ L, cpU a l1 i = L := ⟨_, rfl⟩
    rw [hL] at hl ⊢
    have hlt : i < L.length := by omega
    have e1 : decide ((i : Int) < (a.length : Int)) = true := by simp; omega
    have e2 : inb? a.length (i : Int) = some i := by rw [inb_ok (by omega) (by omega), Int.toNat_natCast]
    have e3 : inb? L.length (i : Int) = some i := by rw [inb_ok (by omega) (by omega), Int.toNat_natCast]
    unfold laws_toEntryS.b0
    dsimp only
    simp (disch := omega) only [e1, cond_true, wrap_i64, Option.bind_some, e2, e3, List.getElem?_eq_getElem hi, List.getElem?_eq_getElem hlt, Prod.eta, toEntry_eq hk]
    simp) (by
    have e1 : decide ((a.length : Int) < (a.length : Int)) = false := by simp
    unfold laws_toEntryS.b0
    dsimp only
    rw [e1]; rfl) k (by omega)
  have e0 : ((0 : Nat) : Int) = 0 := rfl
  simp only [e0, cpU] at key
  rw [key]
  simp only [Option.bind_some]
  unfold laws_toEntryS.d0
  simp only [cpU_all a l1 hlen]

theorem toWal_eq {k : Nat} (hk : 9223372036854775808 ≤ k) (a : Int × Int × Int × Int × List (Int × ByteArray)) (ha : a.2.2.2.2.length ≤ 1048576) : laws_toWal.f k a = some a := by
  unfold laws_toWal.f
  simp only [toEntryS_eq hk a.2.2.2.2 ha, Option.bind_some, Prod.eta]

def mEntryS (k : Nat) (x : Int × ByteArray) (n : Int) : Int × ByteArray := (n, mtx k (n + 1))
theorem laws_markEntryS_eq {k : Nat} (hk : 9223372036854775808 ≤ k) (l : List (Int × ByteArray)) (n : Int) (h0 : 0 ≤ n) (h : n + 2 * l.length ≤ 1152921504606846976) :
    laws_markEntryS.f k l n = some (n + 2 * l.length, mkU (mEntryS k) 2 n l l.length) := by
  unfold laws_markEntryS.f
  have key := iter_upto (B := laws_markEntryS.b0 k) l.length (fun i => (mkU (mEntryS k) 2 n l i, n + 2 * i, (0 : Int), (i : Int))) (.inl (mkU (mEntryS k) 2 n l l.length, n + 2 * l.length, (0 : Int))) (fun i hi => by
    have hl := mkU_length (mEntryS k) 2 n l i
    have hg := mkU_at (mEntryS k) 2 n l hi
    rw [mkU_succ _ _ _ _ hi]
    obtain ⟨L, hL⟩ : ∃ L, mkU (mEntryS k) 2 n l i = L := ⟨_, rfl⟩
    rw [hL] at hl hg ⊢
    have hlt : i < L.length := by omega
    have e1 : decide ((i : Int) < (L.length : Int)) = true := by simp; omega
    have e2 : inb? L.length (i : Int) = some i := by rw [inb_ok (by omega) (by omega), Int.toNat_natCast]
    unfold laws_markEntryS.b0
    dsimp only
    simp (disch := omega) only [e1, cond_true, wrap_i64, mtx_eq hk, Option.bind_some, List.length_set, e2, hg, List.getElem?_set_self hlt, List.getElem?_set_self, List.set_set]
    simp [mEntryS]
    omega) (by
    have hl := mkU_length (mEntryS k) 2 n l l.length
    obtain ⟨L, hL⟩ : ∃ L, mkU (mEntryS k) 2 n l l.length = L := ⟨_, rfl⟩
    rw [hL] at hl ⊢
    have e1 : decide ((l.length : Int) < (L.length : Int)) = false := by simp; omega
    unfold laws_markEntryS.b0
    dsimp only
    rw [e1]; rfl) k (by omega)
  have e0 : ((0 : Nat) : Int) = 0 := rfl
  simp only [e0, mkU, Int.mul_zero, Int.add_zero] at key
  rw [key]
  rfl
theorem markEntryS_some {k : Nat} (hk : 9223372036854775808 ≤ k) (l : List (Int × ByteArray)) (n : Int) (h0 : 0 ≤ n) (h1 : n ≤ 288230376151711744) (h : l.length ≤ 1099511627776) :
    ∃ n' l', laws_markEntryS.f k l n = some (n', l') ∧ 0 ≤ n' ∧ n' ≤ n + 109951162777600 :=
  ⟨_, _, laws_markEntryS_eq hk l n h0 (by omega), by omega, by omega⟩

theorem markWal_some {k : Nat} (hk : 9223372036854775808 ≤ k) (a : Int × Int × Int × Int × List (Int × ByteArray)) (n : Int) (h0 : 0 ≤ n) (h1 : n ≤ 277235259873951744) (ha : a.2.2.2.2.length ≤ 1099511627776) :
    ∃ n' l0, laws_markWal.f k a n = some (n', (a.1, a.2.1, a.2.2.1, a.2.2.2.1, l0)) ∧ 0 ≤ n' ∧ n' ≤ n + 109951162777600 := by
  obtain ⟨n0, l0, p0, b0, c0⟩ := markEntryS_some hk a.2.2.2.2 n h0 (by omega) ha
  refine ⟨n0, l0, ?_, b0, by omega⟩
  unfold laws_markWal.f
  simp only [p0, Option.bind_some, Prod.eta]

theorem eqStep_self {k : Nat} (hk : 9223372036854775808 ≤ k) (a : Int × ByteArray × ByteArray × ByteArray) : laws_eqStep.f k a a = some true := by
  unfold laws_eqStep.f
  simp only [decide_true, Bool.not_true, cond_false, Option.bind_some, Prod.eta]

theorem eqStepS_self {k : Nat} (hk : 9223372036854775808 ≤ k) (l : List (Int × ByteArray × ByteArray × ByteArray)) (h : l.length ≤ 9223372036854775807) : laws_eqStepS.f k l l = some true := by
  unfold laws_eqStepS.f
  have key := iter_upto (B := laws_eqStepS.b0 k) l.length (fun i => (l, l, false, (i : Int))) (.inl false) (fun i hi => by
    have e1 : decide ((i : Int) < (l.length : Int)) = true := by simp; omega
    have e2 : inb? l.length (i : Int) = some i := by rw [inb_ok (by omega) (by omega), Int.toNat_natCast]
    unfold laws_eqStepS.b0
    dsimp only
    simp (disch := omega) only [e1, cond_true, wrap_i64, Option.bind_some, e2, List.getElem?_eq_getElem hi, Prod.eta, eqStep_self hk, decide_true, Bool.not_true, cond_false]
    simp) (by
    have e1 : decide ((l.length : Int) < (l.length : Int)) = false := by simp
    unfold laws_eqStepS.b0
    dsimp only
    rw [e1]; rfl) k (by omega)
  have e0 : ((0 : Nat) : Int) = 0 := rfl
  simp only [e0] at key
  simp only [decide_true, Bool.not_true, cond_false, key, Option.bind_some]
  rfl

def mStepS (k : Nat) (x : Int × ByteArray × ByteArray × ByteArray) (n : Int) : Int × ByteArray × ByteArray × ByteArray := (n, mtx k (n + 1), mtx k (n + 1 + 1), mtx k (n + 1 + 1 + 1))
theorem laws_markStepS_eq {k : Nat} (hk : 9223372036854775808 ≤ k) (l : List (Int × ByteArray × ByteArray × ByteArray)) (n : Int) (h0 : 0 ≤ n) (h : n + 4 * l.length ≤ 1152921504606846976) :
    laws_markStepS.f k l n = some (n + 4 * l.length, mkU (mStepS k) 4 n l l.length) := by
  unfold laws_markStepS.f
  have key := iter_upto (B := laws_markStepS.b0 k) l.length (fun i => (mkU (mStepS k) 4 n l i, n + 4 * i, (0 : Int), (i : Int))) (.inl (mkU (mStepS k) 4 n l l.length, n + 4 * l.length, (0 : Int))) (fun i hi => by
    have hl := mkU_length (mStepS k) 4 n l i
    have hg := mkU_at (mStepS k) 4 n l hi
    rw [mkU_succ _ _ _ _ hi]
    obtain ⟨L, hL⟩ : ∃ L, mkU (mStepS k) 4 n l i = L := ⟨_, rfl⟩
    rw [hL] at hl hg ⊢
    have hlt : i < L.length := by omega
    have e1 : decide ((i : Int) < (L.length : Int)) = true := by simp; omega
    have e2 : inb? L.length (i : Int) = some i := by rw [inb_ok (by omega) (by omega), Int.toNat_natCast]
    unfold laws_markStepS.b0
    dsimp only
    simp (disch := omega) only [e1, cond_true, wrap_i64, mtx_eq hk, Option.bind_some, List.length_set, e2, hg, List.getElem?_set_self hlt, List.getElem?_set_self, List.set_set]
    simp [mStepS]
    omega) (by
    have hl := mkU_length (mStepS k) 4 n l l.length
    obtain ⟨L, hL⟩ : ∃ L, mkU (mStepS k) 4 n l l.length = L := ⟨_, rfl⟩
    rw [hL] at hl ⊢
    have e1 : decide ((l.length : Int) < (L.length : Int)) = false := by simp; omega
    unfold laws_markStepS.b0
    dsimp only
    rw [e1]; rfl) k (by omega)
  have e0 : ((0 : Nat) : Int) = 0 := rfl
  simp only [e0, mkU, Int.mul_zero, Int.add_zero] at key
  rw [key]
  rfl
theorem laws_heldStepS_eq {k : Nat} (hk : 9223372036854775808 ≤ k) (l : List (Int × ByteArray × ByteArray × ByteArray)) (n : Int) (h0 : 0 ≤ n) (h : n + 4 * l.length ≤ 1152921504606846976) :
    laws_heldStepS.f k (mkU (mStepS k) 4 n l l.length) n = some (n + 4 * l.length) := by
  unfold laws_heldStepS.f
  have hl := mkU_length (mStepS k) 4 n l l.length
  have hg := fun i (hi : i < l.length) => mkU_all (mStepS k) 4 n l hi
  obtain ⟨L, hL⟩ : ∃ L, mkU (mStepS k) 4 n l l.length = L := ⟨_, rfl⟩
  rw [hL] at hl ⊢
  rw [hL] at hg
  have key := iter_upto (B := laws_heldStepS.b0 k) l.length (fun i => (L, n + 4 * i, (0 : Int), (i : Int))) (.inl (n + 4 * l.length, (0 : Int))) (fun i hi => by
    have hg := hg i hi
    have e1 : decide ((i : Int) < (L.length : Int)) = true := by simp; omega
    have e2 : inb? L.length (i : Int) = some i := by rw [inb_ok (by omega) (by omega), Int.toNat_natCast]
    unfold laws_heldStepS.b0
    dsimp only
    simp (disch := omega) only [e1, cond_true, wrap_i64, mtx_eq hk, Option.bind_some, e2, hg]
    simp [mStepS]
    omega) (by
    have e1 : decide ((l.length : Int) < (L.length : Int)) = false := by simp; omega
    unfold laws_heldStepS.b0
    dsimp only
    rw [e1]; rfl) k (by omega)
  have e0 : ((0 : Nat) : Int) = 0 := rfl
  simp only [e0, Int.mul_zero, Int.add_zero] at key
  rw [key]
  rfl
theorem markStepS_held {k : Nat} (hk : 9223372036854775808 ≤ k) (l : List (Int × ByteArray × ByteArray × ByteArray)) (n : Int) (h0 : 0 ≤ n) (h1 : n ≤ 288230376151711744) (h : l.length ≤ 1099511627776) :
    ∃ n' l', laws_markStepS.f k l n = some (n', l') ∧ laws_heldStepS.f k l' n = some n' ∧ 0 ≤ n' ∧ n' ≤ n + 109951162777600 :=
  ⟨_, _, laws_markStepS_eq hk l n h0 (by omega), laws_heldStepS_eq hk l n h0 (by omega), by omega, by omega⟩

end Go.Proofs.YtgocmmfhglppjaaGreatDoor.Rx
namespace Go.Proofs.YtgocmmfhglppjaaGreatDoor.Rx

theorem neg_f {n : Int} (h : 0 ≤ n) : decide (n < 0) = false := by simp; omega
theorem sum_mem {α : Type} {f : α → Nat} {l : List α} {x : α} (h : x ∈ l) : f x ≤ (l.map f).sum := by
  induction l with
  | nil => simp at h
  | cons y l ih =>
    rw [List.map_cons, List.sum_cons]
    rcases List.mem_cons.1 h with rfl | h
    · omega
    · have := ih h; omega

theorem sz_small {k : Nat} (hk : 9223372036854775808 ≤ k) (d : DiskT) (hw : WfT (.pair (.int .i64) (.pair (.int .i64) (.pair (.sl 104 (.pair (.int .i64) (.pair .str (.int .i64)))) (.pair (.sl 107 (.pair .str (.int .i64))) (.sl 110 (.pair (.int .i64) (.pair .str (.pair .str (.int .i64))))))))) d) (l : Int) (h0 : 0 ≤ l) (h1 : l ≤ 1048576) : ∃ v, laws_szDisk.f k d l = some v ∧ (v = -1 ∨ (0 ≤ v ∧ v ≤ l ∧ Small d)) := by
  obtain ⟨v, hv, hv2⟩ := szDisk_sz hk d hw.2.2.1.1 (fun x hx => (hw.2.2.1.2 x hx).2.1) hw.2.2.2.1.1 (fun x hx => (hw.2.2.2.1.2 x hx).1) hw.2.2.2.2.1 (fun x hx => ⟨(hw.2.2.2.2.2 x hx).2.1, (hw.2.2.2.2.2 x hx).2.2.1⟩) l h0 h1
  refine ⟨v, hv, hv2.imp id fun ⟨a, b⟩ => ⟨a, by omega, ⟨by omega, by omega, by omega, by have e : amtI d.2.2.1 = (List.map (fun x : Int × ByteArray × Int => x.2.1.size) d.2.2.1).sum := rfl; omega, fun x hx => ?_, fun x hx => ?_⟩⟩⟩
  · have := sum_mem (f := fun x : ByteArray × Int => x.1.size) hx
    omega
  · have := sum_mem (f := fun x : Int × ByteArray × ByteArray × Int => x.2.1.size + x.2.2.1.size) hx
    omega
theorem toD {k : Nat} (hk : 9223372036854775808 ≤ k) {d : DiskT} (h : Small d) : laws_toDisk.f k d = some d := toDisk_eq hk d h.ino h.dir h.mov
theorem eqD {k : Nat} (hk : 9223372036854775808 ≤ k) {d : DiskT} (h : Fits d) : laws_eqDisk.f k d d = some true := eqDisk_self hk d (by have := h.1; omega) (by have := h.2.1; omega) (by have := h.2.2; omega)
theorem markD {k : Nat} (hk : 9223372036854775808 ≤ k) {d : DiskT} (h : Fits d) (n : Int) (h0 : 0 ≤ n) (h1 : n ≤ 1152921504606846) : ∃ n' l0 l1 l2, laws_markDisk.f k d n = some (n', (d.1, d.2.1, l0, l1, l2)) ∧ 0 ≤ n' ∧ n' ≤ n + 329853488332800 :=
  markDisk_some hk d n h0 (by omega) (by have := h.1; omega) (by have := h.2.1; omega) (by have := h.2.2; omega)
theorem law_PlanSnap (d : DiskT) (s : SnapT) (l : WalT) (hw : WfT (.pair (.int .i64) (.pair (.int .i64) (.pair (.sl 104 (.pair (.int .i64) (.pair .str (.int .i64)))) (.pair (.sl 107 (.pair .str (.int .i64))) (.sl 110 (.pair (.int .i64) (.pair .str (.pair .str (.int .i64))))))))) d) (hsn : WfT (.pair (.int .i64) (.pair (.int .i64) .str)) s) (hst : WfT (.pair (.int .i64) (.pair (.int .i64) (.pair (.int .i64) (.pair (.int .i64) (.sl 112 (.pair (.int .i64) .str)))))) l) : ∃ k, laws_FnExactPlanSnap.f k d s l = some true := by
  refine ⟨9223372036854775808, ?_⟩
  have hk : 9223372036854775808 ≤ 9223372036854775808 := Nat.le_refl _
  obtain ⟨v, hv, hv2⟩ := sz_small hk d hw 1048576 (by omega) (by omega)
  unfold laws_FnExactPlanSnap.f laws_szSnap.f laws_toSnap.f
  simp only [Prod.eta, hv, Option.bind_some, cond_false]
  rcases hv2 with rfl | ⟨h0, hle, hs⟩
  · rfl
  have hz : s.2.2.size ≤ 9223372036854775807 := hsn.2.2
  rw [wrap_i64 (n := v - (s.2.2.size : Int)) (by omega) (by omega)]
  simp only [neg_f h0, cond_false]
  by_cases hv3 : v - (s.2.2.size : Int) < 0
  · rw [decide_eq_true hv3]; rfl
  rw [decide_eq_false hv3]
  simp only [cond_false, Option.bind_some]
  rw [decide_eq_false hv3]
  simp only [cond_false]
  obtain ⟨u, hu, hu2⟩ := szWal_sz hk l hst.2.2.2.2.1 (fun x hx => (hst.2.2.2.2.2 x hx).2) (v - (s.2.2.size : Int)) (by omega) (by omega)
  simp only [hu, Option.bind_some]
  rcases hu2 with rfl | ⟨i0, i1⟩
  · rfl
  have hfit : ∀ s ∈ l.2.2.2.2, s.2.size ≤ 1048576 := fun x hx => by
    have := sum_mem (f := fun x : Int × ByteArray => x.2.size) hx
    omega
  obtain ⟨r, h1, h2, hf⟩ := planSnap_eq hk hs s (by omega) l (by omega) hfit
  obtain ⟨n1, a0, a1, a2, m1, m3, m4⟩ := markD hk hs.fits 1 (by omega) (by omega)
  obtain ⟨n3, ls, f1, f2, f3⟩ := markWal_some hk l n1 m3 (by omega) (by omega)
  obtain ⟨n2, b0, g1, g2, g3, g4⟩ := markStepS_held hk r 1 (by omega) (by omega) (by omega)
  simp only [neg_f i0, cond_false, toD hk hs, toWal_eq hk l (by omega), eqWal_self hk l (by omega), eqStepS_self hk r (by omega), h1, h2, Option.bind_some, Prod.eta, eqD hk hs.fits, decide_true, Bool.not_true, m1, f1, neg_f f2, g1, g2, neg_f g3]
end Go.Proofs.YtgocmmfhglppjaaGreatDoor.Rx
