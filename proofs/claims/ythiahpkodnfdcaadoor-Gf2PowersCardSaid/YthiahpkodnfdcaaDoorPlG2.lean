/- Plain laws of chapter 6's words: two words as one number, a word's lowest bit struck, a word in a row changed. No program. No condition. -/
import Derived.Test.YthiahpkodnfdcaaDoorPlG
import Derived.Test.YthiahpkodnfdcaaDoorPl20
namespace Go.Proofs.YthiahpkodnfdcaaDoor
open Go.RowKit
theorem tb_low (i a x j : Nat) (h : x < 2 ^ i) : (2 ^ i * a + x).testBit j = if j < i then x.testBit j else a.testBit (j - i) := Nat.testBit_two_pow_mul_add a h j
theorem xor_two (i a b x y : Nat) (h : x < 2 ^ i) (h2 : y < 2 ^ i) : (2 ^ i * a + x) ^^^ (2 ^ i * b + y) = 2 ^ i * (a ^^^ b) + (x ^^^ y) := by
  apply Nat.eq_of_testBit_eq
  intro j
  rw [Nat.testBit_xor, tb_low _ _ _ _ h, tb_low _ _ _ _ h2, tb_low _ _ _ _ (Nat.xor_lt_two_pow h h2)]
  split <;> rw [Nat.testBit_xor]
/-- disjoint parts are added as they are xored -/
theorem add_xor (i a x : Nat) (h : x < 2 ^ i) : 2 ^ i * a + x = 2 ^ i * a ^^^ x := by
  have := xor_two i a 0 0 x (Nat.two_pow_pos i) h
  rw [Nat.mul_zero, Nat.zero_add, Nat.add_zero, Nat.xor_zero, Nat.zero_xor] at this
  exact this.symm
/-- two words as a number -/
def cl128 (hi lo : BitVec 64) : Nat := 2 ^ 64 * hi.toNat + lo.toNat
theorem cl128_xor (a b c d : BitVec 64) : cl128 (a ^^^ c) (b ^^^ d) = cl128 a b ^^^ cl128 c d := by
  unfold cl128
  rw [xor_two _ _ _ _ _ b.isLt d.isLt, BitVec.toNat_xor, BitVec.toNat_xor]
def hiW (n : Nat) : BitVec 64 := BitVec.ofNat 64 (n / 2 ^ 64)
def loW (n : Nat) : BitVec 64 := BitVec.ofNat 64 n
theorem cl128_of {n : Nat} (h : n < 2 ^ 128) : cl128 (hiW n) (loW n) = n := by
  unfold cl128 hiW loW
  rw [BitVec.toNat_ofNat, BitVec.toNat_ofNat, Nat.mod_eq_of_lt (by omega : n / 2 ^ 64 < 2 ^ 64)]
  omega
theorem of_cl128 {n : Nat} {a b : BitVec 64} (h : cl128 a b = n) : a = hiW n ∧ b = loW n := by
  subst h
  have ha := a.isLt
  have hb := b.isLt
  unfold cl128 hiW loW
  constructor
  · apply BitVec.eq_of_toNat_eq
    rw [BitVec.toNat_ofNat, Nat.mul_add_div (by decide), Nat.div_eq_of_lt hb, Nat.add_zero, Nat.mod_eq_of_lt ha]
  · apply BitVec.eq_of_toNat_eq
    rw [BitVec.toNat_ofNat, Nat.mul_add_mod, Nat.mod_eq_of_lt hb]
theorem cl128_lt (a b : BitVec 64) : cl128 a b < 2 ^ 128 := by
  unfold cl128
  have ha := a.isLt
  have hb := b.isLt
  omega
theorem clm_lt (a b : BitVec 64) : clm a.toNat b.toNat < 2 ^ 128 := by
  by_cases ha : a.toNat = 0
  · rw [ha, clm_zero]; decide
  · by_cases hb : b.toNat = 0
    · rw [hb, clm_r0]; decide
    · have := sz_clm ha hb
      have h1 := (@sz_le a.toNat 64).2 a.isLt
      have h2 := (@sz_le b.toNat 64).2 b.isLt
      exact sz_le.1 (by omega)
/-- a word without its lowest bit -/
theorem strike (b : BitVec 64) (h : b ≠ 0) : (b &&& (b - 1#64)).toNat < b.toNat ∧ b.toNat = (b &&& (b - 1#64)).toNat ^^^ 2 ^ tzB b := by
  obtain ⟨m, hm, hk⟩ := tz_spec b h
  have hb := b.isLt
  have hp := Nat.two_pow_pos (tzB b)
  have e0 : b.toNat = 2 ^ (tzB b + 1) * m + 2 ^ tzB b := by rw [hm, Nat.pow_succ, Nat.mul_add, Nat.mul_one, ← Nat.mul_assoc]
  have e1 : (b - 1#64).toNat = 2 ^ (tzB b + 1) * m + (2 ^ tzB b - 1) := by
    rw [BitVec.toNat_sub, show (1#64).toNat = 1 from rfl]; omega
  have l1 : 2 ^ tzB b < 2 ^ (tzB b + 1) := Nat.pow_lt_pow_right (by decide) (by omega)
  have e2 : (b &&& (b - 1#64)).toNat = 2 ^ (tzB b + 1) * m := by
    rw [BitVec.toNat_and, e0, e1]
    apply Nat.eq_of_testBit_eq
    intro j
    rw [Nat.testBit_and, tb_low _ _ _ _ l1, tb_low _ _ _ _ (by omega)]
    have := tb_low (tzB b + 1) m 0 j (Nat.two_pow_pos _)
    rw [Nat.add_zero] at this
    rw [this]
    split
    · rw [Nat.testBit_two_pow, Nat.testBit_two_pow_sub_one, Nat.zero_testBit]
      by_cases e : tzB b = j
      · simp [e]
      · simp [e]
    · rw [Bool.and_self]
  refine ⟨by rw [e2]; omega, ?_⟩
  rw [e2, ← add_xor _ _ _ l1]; exact e0
/-- a row's word changed -/
theorem nv_set (xs : List (BitVec 64)) (j : Nat) (hj : j < xs.length) (y : BitVec 64) : nv (xs.set j (xs[j] ^^^ y)) = nv xs ^^^ 2 ^ (64 * j) * y.toNat := by
  apply Nat.eq_of_testBit_eq
  intro k
  have hm : (2 ^ (64 * j) * y.toNat).testBit k = if k < 64 * j then false else y.toNat.testBit (k - 64 * j) := by
    have := tb_low (64 * j) y.toNat 0 k (Nat.two_pow_pos _)
    rw [Nat.add_zero, Nat.zero_testBit] at this
    exact this
  rw [Nat.testBit_xor, nv_bit, nv_bit, hm]
  by_cases e : k / 64 = j
  · subst e
    rw [if_neg (by omega), List.getD_eq_getElem?_getD, List.getElem?_set_self hj, List.getD_eq_getElem?_getD, List.getElem?_eq_getElem hj, Option.getD_some, Option.getD_some, BitVec.toNat_xor, Nat.testBit_xor, show k - 64 * (k / 64) = k % 64 by omega]
  · rw [List.getD_eq_getElem?_getD, List.getElem?_set_ne (fun x => e x.symm), ← List.getD_eq_getElem?_getD]
    by_cases hk : k < 64 * j
    · rw [if_pos hk, Bool.xor_false]
    · rw [if_neg hk, bit_big y.isLt (by omega), Bool.xor_false]
/-- the first words of a row and the next -/
theorem nv_take_succ (xs : List (BitVec 64)) (k : Nat) (hk : k < xs.length) : nv (xs.take (k + 1)) = nv (xs.take k) ^^^ 2 ^ (64 * k) * xs[k].toNat := by
  have key : ∀ (ys : List (BitVec 64)) (y : BitVec 64), nv (ys ++ [y]) = 2 ^ (64 * ys.length) * y.toNat + nv ys := by
    intro ys y
    induction ys with
    | nil => simp [nv]
    | cons z ys ih =>
      rw [List.cons_append, nv, nv, ih, List.length_cons, Nat.mul_add, ← Nat.mul_assoc, ← Nat.pow_add, show 64 * (ys.length + 1) = 64 + 64 * ys.length by omega]
      omega
  rw [List.take_succ_eq_append_getElem hk, key, List.length_take, Nat.min_eq_left (by omega)]
  have hl := nv_lt (xs.take k)
  rw [List.length_take, Nat.min_eq_left (by omega)] at hl
  rw [add_xor _ _ _ hl, Nat.xor_comm]
theorem nv_xor_bits {xs ys zs : List (BitVec 64)} (h : ∀ i, zs.getD i 0#64 = xs.getD i 0#64 ^^^ ys.getD i 0#64) : nv zs = nv xs ^^^ nv ys := by
  apply Nat.eq_of_testBit_eq
  intro k
  rw [Nat.testBit_xor, nv_bit, nv_bit, nv_bit, h, BitVec.toNat_xor, Nat.testBit_xor]
/-- a word's coefficient -/
theorem bit_word (x : BitVec 64) (j : Nat) : x >>> j &&& 1#64 = if x.toNat.testBit j then 1#64 else 0#64 := by
  apply BitVec.eq_of_toNat_eq
  rw [BitVec.toNat_and, BitVec.toNat_ushiftRight, show (1#64).toNat = 1 from rfl, Nat.and_one_is_mod]
  have : x.toNat.testBit j = decide (x.toNat >>> j % 2 = 1) := by rw [Nat.testBit_eq_decide_div_mod_eq, Nat.shiftRight_eq_div_pow]
  rw [this]
  by_cases h : x.toNat >>> j % 2 = 1
  · simp [h]
  · have : x.toNat >>> j % 2 = 0 := by omega
    simp [this]
/-- a shift of two words -/
theorem shl_hi (a : BitVec 64) (k : Nat) (h0 : 0 < k) (hk : k < 64) : (0#64 <<< k ||| a >>> (64 - k)) = hiW (2 ^ k * a.toNat) ∧ a <<< k = loW (2 ^ k * a.toNat) := by
  constructor
  · apply BitVec.eq_of_toNat_eq
    unfold hiW
    rw [BitVec.zero_shiftLeft, BitVec.zero_or, BitVec.toNat_ushiftRight, BitVec.toNat_ofNat, Nat.shiftRight_eq_div_pow]
    have e : 2 ^ 64 = 2 ^ k * 2 ^ (64 - k) := by rw [← Nat.pow_add]; congr 1; omega
    have e2 : 2 ^ k * a.toNat / 2 ^ 64 = a.toNat / 2 ^ (64 - k) := by
      rw [e, Nat.mul_div_mul_left _ _ (Nat.two_pow_pos k)]
    rw [e2, Nat.mod_eq_of_lt (Nat.lt_of_le_of_lt (Nat.div_le_self _ _) a.isLt)]
  · apply BitVec.eq_of_toNat_eq
    unfold loW
    rw [BitVec.toNat_shiftLeft, BitVec.toNat_ofNat, Nat.shiftLeft_eq, Nat.mul_comm]
theorem pw_lt (a : BitVec 64) (k : Nat) (hk : k < 64) : 2 ^ k * a.toNat < 2 ^ 128 := by
  have h1 := a.isLt
  have h2 : 2 ^ k ≤ 2 ^ 63 := Nat.pow_le_pow_right (by decide) (by omega)
  have h3 := Nat.mul_le_mul h2 (Nat.le_of_lt h1)
  have : (2 : Nat) ^ 63 * 2 ^ 64 < 2 ^ 128 := by decide
  omega
end Go.Proofs.YthiahpkodnfdcaaDoor
