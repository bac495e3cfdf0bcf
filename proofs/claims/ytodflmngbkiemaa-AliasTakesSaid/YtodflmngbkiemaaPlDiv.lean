/- Long division of two words by one (Knuth's D, with digits of 32 bits): natural numbers and bit vectors alone. No condition. -/
import Derived.Test.YtodflmngbkiemaaPl01
namespace Go.Proofs.Ytodflmngbkiemaa
/-- one digit: what divides it, and what is divided -/
structure Dig (Y1 Y0 U D : Nat) : Prop where
  y1 : 2147483648 ≤ Y1
  y1b : Y1 < 4294967296
  y0 : Y0 < 4294967296
  u : U < Y1 * 4294967296 + Y0
  d : D < 4294967296
def digQ (Y1 Y0 U D : Nat) : Nat := (U * 4294967296 + D) / (Y1 * 4294967296 + Y0)
def digR (Y1 Y0 U D : Nat) : Nat := (U * 4294967296 + D) % (Y1 * 4294967296 + Y0)
structure DigRel (Y1 Y0 U D q r : Nat) : Prop where
  sum : q * Y1 + r = U
  rlt : r < 4294967296
  ge : digQ Y1 Y0 U D ≤ q
  le : q ≤ 4294967297
theorem dig_lt {Y1 Y0 U D : Nat} (h : Dig Y1 Y0 U D) : digQ Y1 Y0 U D < 4294967296 := by
  obtain ⟨h1, h2, h3, h4, h5⟩ := h
  unfold digQ
  apply (Nat.div_lt_iff_lt_mul (by omega)).2
  have := Nat.mul_le_mul_right 4294967296 (show U + 1 ≤ Y1 * 4294967296 + Y0 from h4)
  rw [Nat.succ_mul] at this
  rw [Nat.mul_comm 4294967296]; omega
theorem dig_start {Y1 Y0 U D : Nat} (h : Dig Y1 Y0 U D) : DigRel Y1 Y0 U D (U / Y1) (U % Y1) := by
  have hd := Nat.div_add_mod U Y1
  have h0 := h.y1
  have hm := Nat.mod_lt U (show 0 < Y1 by omega)
  have h2 := h.y1b
  have h3 := h.y0
  have h4 := h.u
  have h5 := h.d
  refine ⟨by rw [Nat.mul_comm]; exact hd, by omega, ?_, ?_⟩
  · apply (Nat.le_div_iff_mul_le (by omega)).2
    have hq : digQ Y1 Y0 U D * (Y1 * 4294967296 + Y0) ≤ U * 4294967296 + D := Nat.div_mul_le_self _ _
    generalize digQ Y1 Y0 U D = q at *
    rw [Nat.mul_add, ← Nat.mul_assoc] at hq
    generalize q * Y1 = a at *
    omega
  · have : U / Y1 < 4294967298 := by
      apply (Nat.div_lt_iff_lt_mul (by omega)).2
      omega
    omega
theorem dig_sum {Y1 Y0 U D q r : Nat} (h : DigRel Y1 Y0 U D q r) : q * (Y1 * 4294967296 + Y0) + r * 4294967296 = U * 4294967296 + q * Y0 := by
  have := h.sum
  rw [← this, Nat.mul_add, Nat.add_mul, ← Nat.mul_assoc]; omega
theorem dig_more {Y1 Y0 U D q r : Nat} (hd : Dig Y1 Y0 U D) (h : DigRel Y1 Y0 U D q r) (c : 4294967296 ≤ q ∨ 4294967296 * r + D < q * Y0) : digQ Y1 Y0 U D < q := by
  rcases c with c | c
  · have := dig_lt hd; omega
  · unfold digQ
    have hs := dig_sum h
    have h1 := hd.y1
    apply (Nat.div_lt_iff_lt_mul (by omega)).2
    omega
theorem dig_exit {Y1 Y0 U D q r : Nat} (hd : Dig Y1 Y0 U D) (h : DigRel Y1 Y0 U D q r) (c : q * Y0 ≤ 4294967296 * r + D) : q = digQ Y1 Y0 U D := by
  apply Nat.le_antisymm _ h.ge
  have hs := dig_sum h
  have h1 := hd.y1
  unfold digQ
  apply (Nat.le_div_iff_mul_le (by omega)).2
  omega
theorem dig_next {Y1 Y0 U D q r : Nat} (h : DigRel Y1 Y0 U D q r) (c : digQ Y1 Y0 U D < q) (hr : r + Y1 < 4294967296) : DigRel Y1 Y0 U D (q - 1) (r + Y1) := by
  obtain ⟨h1, h2, h3, h4⟩ := h
  refine ⟨?_, hr, by omega, by omega⟩
  obtain ⟨p, rfl⟩ : ∃ p, q = p + 1 := ⟨q - 1, by omega⟩
  rw [Nat.succ_mul] at h1
  rw [Nat.add_sub_cancel]; omega
theorem dig_break {Y1 Y0 U D q r : Nat} (hd : Dig Y1 Y0 U D) (h : DigRel Y1 Y0 U D q r) (c : digQ Y1 Y0 U D < q) (hr : 4294967296 ≤ r + Y1) : q - 1 = digQ Y1 Y0 U D := by
  apply Nat.le_antisymm _ (by omega)
  have hs := dig_sum h
  have h1 := hd.y1
  have h0 := hd.y0
  have hle := h.le
  have hge := h.ge
  unfold digQ
  apply (Nat.le_div_iff_mul_le (by omega)).2
  obtain ⟨p, rfl⟩ : ∃ p, q = p + 1 := ⟨q - 1, by omega⟩
  rw [Nat.add_sub_cancel]
  rw [Nat.succ_mul, Nat.succ_mul] at hs
  have hp : p * Y0 ≤ 4294967296 * 4294967295 := by
    have := Nat.mul_le_mul (show p ≤ 4294967296 by omega) (show Y0 ≤ 4294967295 by omega)
    exact this
  omega
/-! words -/
theorem w_mod (x : BitVec 64) : x.toNat < 18446744073709551616 := x.isLt
theorem mul_nat {a b : BitVec 64} (h : a.toNat * b.toNat < 18446744073709551616) : (a * b).toNat = a.toNat * b.toNat := by
  rw [BitVec.toNat_mul]; exact Nat.mod_eq_of_lt h
theorem add_nat {a b : BitVec 64} (h : a.toNat + b.toNat < 18446744073709551616) : (a + b).toNat = a.toNat + b.toNat := by
  rw [BitVec.toNat_add]; exact Nat.mod_eq_of_lt h
theorem sub_nat {a b : BitVec 64} (h : b.toNat ≤ a.toNat) : (a - b).toNat = a.toNat - b.toNat := by
  rw [BitVec.toNat_sub]
  have := a.isLt
  have := b.isLt
  omega
def b32 : BitVec 64 := 4294967296#64
theorem b32_nat : (4294967296#64 : BitVec 64).toNat = 4294967296 := rfl
/-- what a digit's test compares -/
theorem test_nat {Y1 Y0 U D q r : BitVec 64} (hd : Dig Y1.toNat Y0.toNat U.toNat D.toNat) (h : DigRel Y1.toNat Y0.toNat U.toNat D.toNat q.toNat r.toNat) :
    (4294967296#64 * r + D).toNat = 4294967296 * r.toNat + D.toNat ∧ (q * Y0).toNat = q.toNat * Y0.toNat ∧ (r + Y1).toNat = r.toNat + Y1.toNat := by
  have h1 := h.rlt
  have h2 := hd.d
  have h3 := hd.y0
  have h4 := h.le
  have h5 := hd.y1b
  have e1 : (4294967296#64 * r).toNat = 4294967296 * r.toNat := by
    rw [mul_nat (by rw [b32_nat]; omega), b32_nat]
  refine ⟨by rw [add_nat (by rw [e1]; omega), e1], mul_nat ?_, add_nat (by omega)⟩
  have := Nat.mul_le_mul h4 (show Y0.toNat ≤ 4294967295 by omega)
  omega
theorem sub_mod (a D c r : Nat) (h : c + r = a + D) (hr : r < 2 ^ 64) : (2 ^ 64 - c % 2 ^ 64 + (a % 2 ^ 64 + D) % 2 ^ 64) % 2 ^ 64 = r := by omega
/-- what is left of a digit -/
theorem left_word {Y1 Y0 U D q Y : BitVec 64} (hY : Y.toNat = Y1.toNat * 4294967296 + Y0.toNat) (hd : Dig Y1.toNat Y0.toNat U.toNat D.toNat) (hq : q.toNat = digQ Y1.toNat Y0.toNat U.toNat D.toNat) :
    (U * 4294967296#64 + D - q * Y).toNat = digR Y1.toNat Y0.toNat U.toNat D.toNat := by
  have hdm := Nat.div_add_mod (U.toNat * 4294967296 + D.toNat) (Y1.toNat * 4294967296 + Y0.toNat)
  have h1 := hd.y1
  have hm := Nat.mod_lt (U.toNat * 4294967296 + D.toNat) (show 0 < Y1.toNat * 4294967296 + Y0.toNat by omega)
  have hYlt := Y.isLt
  unfold digR
  unfold digQ at hq
  rw [← hq, ← hY] at hdm
  rw [← hY] at hm ⊢
  rw [Nat.mul_comm Y.toNat q.toNat] at hdm
  rw [BitVec.toNat_sub, BitVec.toNat_add, BitVec.toNat_mul, BitVec.toNat_mul, b32_nat]
  exact sub_mod _ _ _ _ hdm (by omega)
theorem digR_lt {Y1 Y0 U D : Nat} (h : Dig Y1 Y0 U D) : digR Y1 Y0 U D < Y1 * 4294967296 + Y0 := Nat.mod_lt _ (by have := h.y1; omega)
theorem two_digitsB (B Y U D1 D0 : Nat) (hY : 0 < Y) : (U * (B * B) + (D1 * B + D0)) / Y = (U * B + D1) / Y * B + ((U * B + D1) % Y * B + D0) / Y ∧
    (U * (B * B) + (D1 * B + D0)) % Y = ((U * B + D1) % Y * B + D0) % Y := by
  have hd := Nat.div_add_mod (U * B + D1) Y
  generalize (U * B + D1) / Y = q at *
  generalize (U * B + D1) % Y = r at *
  have e : U * (B * B) + (D1 * B + D0) = (r * B + D0) + Y * (q * B) := by
    rw [← Nat.mul_assoc, ← Nat.mul_assoc]
    have e2 : U * B * B + D1 * B = (U * B + D1) * B := by rw [Nat.add_mul]
    have e3 : (U * B + D1) * B = Y * q * B + r * B := by rw [← hd, Nat.add_mul]
    omega
  rw [e]
  exact ⟨by rw [Nat.add_mul_div_left _ _ hY]; omega, by rw [Nat.add_mul_mod_self_left]⟩
end Go.Proofs.Ytodflmngbkiemaa
