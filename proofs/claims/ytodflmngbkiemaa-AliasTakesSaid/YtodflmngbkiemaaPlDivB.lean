/- Long division: normalising the divisor. Bit vectors and natural numbers alone. -/
import Derived.Test.YtodflmngbkiemaaPlDiv
import Derived.Test.YtodflmngbkiemaaU64
namespace Go.Proofs.Ytodflmngbkiemaa
def clz (y : BitVec 64) : Nat := 64 - bl y.toNat
theorem clz_spec (y : BitVec 64) (h : 0 < y.toNat) : clz y < 64 ∧ y.toNat * 2 ^ clz y < 18446744073709551616 ∧ 9223372036854775808 ≤ y.toNat * 2 ^ clz y := by
  have hle := bl_le y.toNat 64 y.isLt
  have h1 := bl_lt y.toNat
  have h0 : 0 < bl y.toNat := by
    rcases Nat.eq_zero_or_pos (bl y.toNat) with h0 | h0
    · rw [h0] at h1; omega
    · exact h0
  have h2 := bl_top y.toNat (by omega)
  unfold clz
  generalize bl y.toNat = b at *
  refine ⟨by omega, ?_, ?_⟩
  · have e : 2 ^ b * 2 ^ (64 - b) = 18446744073709551616 := by rw [← Nat.pow_add, show b + (64 - b) = 64 by omega]
    rw [← e]
    exact Nat.mul_lt_mul_of_pos_right h1 (Nat.pow_pos (by decide))
  · have e : 2 ^ (b - 1) * 2 ^ (64 - b) = 9223372036854775808 := by rw [← Nat.pow_add, show b - 1 + (64 - b) = 63 by omega]
    rw [← e]
    exact Nat.mul_le_mul_right _ h2
structure NormD (hi lo y Y Y1 Y0 U D1 D0 : BitVec 64) (s : Nat) : Prop where
  yy : Y.toNat = y.toNat * 2 ^ s
  big : 9223372036854775808 ≤ Y.toNat
  split : Y.toNat = Y1.toNat * 4294967296 + Y0.toNat
  y0 : Y0.toNat < 4294967296
  d1 : D1.toNat < 4294967296
  d0 : D0.toNat < 4294967296
  u : U.toNat < Y.toNat
  all : U.toNat * 18446744073709551616 + (D1.toNat * 4294967296 + D0.toNat) = (hi.toNat * 18446744073709551616 + lo.toNat) * 2 ^ s
theorem halves (x : BitVec 64) : x.toNat = (x >>> 32).toNat * 4294967296 + (x &&& 4294967295#64).toNat ∧ (x &&& 4294967295#64).toNat < 4294967296 ∧ (x >>> 32).toNat < 4294967296 := by
  have := x.isLt
  have e : (x &&& 4294967295#64).toNat = x.toNat % 4294967296 := by
    rw [BitVec.toNat_and]; exact Nat.and_two_pow_sub_one_eq_mod x.toNat 32
  rw [BitVec.toNat_ushiftRight, Nat.shiftRight_eq_div_pow, e]
  omega
theorem norm_words (hi lo y : BitVec 64) (hlt : hi.toNat < y.toNat) :
    NormD hi lo y (y <<< clz y) ((y <<< clz y) >>> 32) ((y <<< clz y) &&& 4294967295#64) (hi <<< clz y ||| lo >>> (64 - clz y)) ((lo <<< clz y) >>> 32) ((lo <<< clz y) &&& 4294967295#64) (clz y) := by
  obtain ⟨h1, h2, h3⟩ := clz_spec y (by omega)
  generalize clz y = s at *
  obtain ⟨a1, a2, a3⟩ := halves (y <<< s)
  obtain ⟨b1, b2, b3⟩ := halves (lo <<< s)
  have hY : (y <<< s).toNat = y.toNat * 2 ^ s := by
    rw [BitVec.toNat_shiftLeft, Nat.shiftLeft_eq]; exact Nat.mod_eq_of_lt h2
  have hpos : 0 < 2 ^ s := Nat.pow_pos (by decide)
  have hH : hi.toNat * 2 ^ s + 2 ^ s ≤ y.toNat * 2 ^ s := by
    have := Nat.mul_le_mul_right (2 ^ s) (show hi.toNat + 1 ≤ y.toNat from hlt)
    rw [Nat.succ_mul] at this; exact this
  have hhi : (hi <<< s).toNat = hi.toNat * 2 ^ s := by
    rw [BitVec.toNat_shiftLeft, Nat.shiftLeft_eq]; exact Nat.mod_eq_of_lt (by omega)
  have hp : 2 ^ s * 2 ^ (64 - s) = 18446744073709551616 := by rw [← Nat.pow_add, show s + (64 - s) = 64 by omega]
  have hlo : (lo >>> (64 - s)).toNat = lo.toNat / 2 ^ (64 - s) := by rw [BitVec.toNat_ushiftRight, Nat.shiftRight_eq_div_pow]
  have hlolt : lo.toNat / 2 ^ (64 - s) < 2 ^ s := by
    apply (Nat.div_lt_iff_lt_mul (Nat.pow_pos (by decide))).2
    rw [hp]; exact lo.isLt
  have hU : (hi <<< s ||| lo >>> (64 - s)).toNat = hi.toNat * 2 ^ s + lo.toNat / 2 ^ (64 - s) := by
    rw [BitVec.toNat_or, hhi, hlo, Nat.mul_comm hi.toNat]
    exact (Nat.two_pow_add_eq_or_of_lt hlolt hi.toNat).symm
  have hL : (lo <<< s).toNat = lo.toNat * 2 ^ s % 18446744073709551616 := by rw [BitVec.toNat_shiftLeft, Nat.shiftLeft_eq]
  have hLd : lo.toNat * 2 ^ s / 18446744073709551616 = lo.toNat / 2 ^ (64 - s) := by
    rw [← hp, Nat.mul_comm (2 ^ s) (2 ^ (64 - s))]; exact Nat.mul_div_mul_right _ _ hpos
  refine ⟨hY, by omega, a1, a2, b3, b2, by rw [hU, hY]; omega, ?_⟩
  rw [← b1, hU, hL, Nat.add_mul, Nat.add_mul, ← hLd]
  have := Nat.div_add_mod (lo.toNat * 2 ^ s) 18446744073709551616
  rw [Nat.mul_right_comm hi.toNat]
  omega
theorem NormD.dig1 {hi lo y Y Y1 Y0 U D1 D0 : BitVec 64} {s : Nat} (h : NormD hi lo y Y Y1 Y0 U D1 D0 s) : Dig Y1.toNat Y0.toNat U.toNat D1.toNat := by
  obtain ⟨h1, h2, h3, h4, h5, h6, h7, h8⟩ := h
  have := Y.isLt
  exact ⟨by omega, by omega, h4, by omega, h5⟩
theorem NormD.dig0 {hi lo y Y Y1 Y0 U D1 D0 : BitVec 64} {s : Nat} (h : NormD hi lo y Y Y1 Y0 U D1 D0 s) (r : BitVec 64) (hr : r.toNat = digR Y1.toNat Y0.toNat U.toNat D1.toNat) : Dig Y1.toNat Y0.toNat r.toNat D0.toNat := by
  have hl := digR_lt h.dig1
  have hd := h.dig1
  rw [← hr] at hl
  exact ⟨hd.y1, hd.y1b, hd.y0, hl, h.d0⟩
/-- the quotient and the rest, as words -/
def divQ (hi lo y : BitVec 64) : BitVec 64 := BitVec.ofNat 64 ((hi.toNat * 18446744073709551616 + lo.toNat) / y.toNat)
def divR (hi lo y : BitVec 64) : BitVec 64 := BitVec.ofNat 64 ((hi.toNat * 18446744073709551616 + lo.toNat) % y.toNat)
theorem NormD.fin {hi lo y Y Y1 Y0 U D1 D0 : BitVec 64} {s : Nat} (h : NormD hi lo y Y Y1 Y0 U D1 D0 s) (q1 r1 q0 r0 : BitVec 64)
    (h1 : q1.toNat = digQ Y1.toNat Y0.toNat U.toNat D1.toNat) (h2 : r1.toNat = digR Y1.toNat Y0.toNat U.toNat D1.toNat)
    (h3 : q0.toNat = digQ Y1.toNat Y0.toNat r1.toNat D0.toNat) (h4 : r0.toNat = digR Y1.toNat Y0.toNat r1.toNat D0.toNat) :
    q1 * 4294967296#64 + q0 = divQ hi lo y ∧ r0 >>> s = divR hi lo y := by
  have hb := h.big
  have hpos : 0 < 2 ^ s := Nat.pow_pos (by decide)
  have hq1 : q1.toNat < 4294967296 := by rw [h1]; exact dig_lt h.dig1
  have hq0 : q0.toNat < 4294967296 := by rw [h3]; exact dig_lt (h.dig0 r1 h2)
  have ht := two_digitsB 4294967296 Y.toNat U.toNat D1.toNat D0.toNat (by omega)
  rw [show (4294967296 : Nat) * 4294967296 = 18446744073709551616 from rfl, h.all, h.yy, Nat.mul_div_mul_right _ _ hpos, Nat.mul_mod_mul_right, ← h.yy] at ht
  unfold digQ at h1 h3
  unfold digR at h2 h4
  rw [← h.split] at h1 h2 h3 h4
  rw [← h1, ← h2, ← h3, ← h4] at ht
  unfold divQ divR
  constructor
  · apply BitVec.eq_of_toNat_eq
    rw [ht.1, BitVec.toNat_add, BitVec.toNat_mul, b32_nat, BitVec.toNat_ofNat]
    omega
  · apply BitVec.eq_of_toNat_eq
    rw [BitVec.toNat_ushiftRight, Nat.shiftRight_eq_div_pow, ← ht.2, Nat.mul_div_cancel _ hpos, BitVec.toNat_ofNat]
    refine (Nat.mod_eq_of_lt ?_).symm
    have hm := Nat.mod_lt (hi.toNat * 18446744073709551616 + lo.toNat) (show 0 < y.toNat by
      rcases Nat.eq_zero_or_pos y.toNat with h0 | h0
      · rw [h.yy, h0, Nat.zero_mul] at hb; omega
      · exact h0)
    have := y.isLt
    omega
end Go.Proofs.Ytodflmngbkiemaa
