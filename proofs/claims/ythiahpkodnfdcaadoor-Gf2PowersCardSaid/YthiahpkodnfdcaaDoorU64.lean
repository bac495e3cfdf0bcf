/- Words of 64 and 32 bits as the model's integers: the walk's wraps, bit operations and shifts are turned into operations on bit vectors. No condition. -/
import Derived.WalkKit
namespace Go.Proofs.YthiahpkodnfdcaaDoor
open Go
/-- a word of 64 bits, as the model's integer -/
def ui (x : BitVec 64) : Int := (x.toNat : Int)
/-- a word of 32 bits -/
def uw (x : BitVec 32) : Int := (x.toNat : Int)
theorem ui_def (x : BitVec 64) : ui x = (x.toNat : Int) := rfl
theorem uw_def (x : BitVec 32) : uw x = (x.toNat : Int) := rfl
theorem ui_nonneg (x : BitVec 64) : 0 ≤ ui x := by unfold ui; omega
theorem uw_nonneg (x : BitVec 32) : 0 ≤ uw x := by unfold uw; omega
theorem ui_lt (x : BitVec 64) : ui x < 18446744073709551616 := by unfold ui; have := x.isLt; omega
theorem uw_lt (x : BitVec 32) : uw x < 4294967296 := by unfold uw; have := x.isLt; omega
theorem ui_inj {x y : BitVec 64} : ui x = ui y ↔ x = y := by
  unfold ui; constructor
  · intro h; exact BitVec.eq_of_toNat_eq (by omega)
  · rintro rfl; rfl
theorem uw_inj {x y : BitVec 32} : uw x = uw y ↔ x = y := by
  unfold uw; constructor
  · intro h; exact BitVec.eq_of_toNat_eq (by omega)
  · rintro rfl; rfl
theorem ofInt_ui (x : BitVec 64) : BitVec.ofInt 64 (ui x) = x := by simp [ui]
theorem ofInt_uw (x : BitVec 32) : BitVec.ofInt 32 (uw x) = x := by simp [uw]
theorem ofInt64_uw (x : BitVec 32) : BitVec.ofInt 64 (uw x) = x.setWidth 64 := by
  unfold uw; rw [BitVec.ofInt_natCast]; apply BitVec.eq_of_toNat_eq; simp
theorem ofInt32_ui (x : BitVec 64) : BitVec.ofInt 32 (ui x) = x.setWidth 32 := by
  unfold ui; rw [BitVec.ofInt_natCast]; apply BitVec.eq_of_toNat_eq; simp
theorem ofInt_sub' (w : Nat) (a b : Int) : BitVec.ofInt w (a - b) = BitVec.ofInt w a - BitVec.ofInt w b := by
  rw [Int.sub_eq_add_neg, BitVec.ofInt_add, BitVec.ofInt_neg, BitVec.sub_eq_add_neg]
theorem wrap_ui (n : Int) : IntKind.u64.wrap n = ui (BitVec.ofInt 64 n) := by
  simp [IntKind.wrap, IntKind.bits, IntKind.signed, ui, BitVec.toNat_ofInt]; omega
theorem wrap_uw (n : Int) : IntKind.u32.wrap n = uw (BitVec.ofInt 32 n) := by
  simp [IntKind.wrap, IntKind.bits, IntKind.signed, uw, BitVec.toNat_ofInt]; omega
theorem bits_and_ui (a b : Int) : Go.bits .and .u64 a b = ui (BitVec.ofInt 64 a &&& BitVec.ofInt 64 b) := by
  show IntKind.u64.wrap _ = _
  rw [wrap_ui]; exact congrArg ui (ofInt_ui _)
theorem bits_or_ui (a b : Int) : Go.bits .or .u64 a b = ui (BitVec.ofInt 64 a ||| BitVec.ofInt 64 b) := by
  show IntKind.u64.wrap _ = _
  rw [wrap_ui]; exact congrArg ui (ofInt_ui _)
theorem bits_xor_ui (a b : Int) : Go.bits .xor .u64 a b = ui (BitVec.ofInt 64 a ^^^ BitVec.ofInt 64 b) := by
  show IntKind.u64.wrap _ = _
  rw [wrap_ui]; exact congrArg ui (ofInt_ui _)
theorem bits_and_uw (a b : Int) : Go.bits .and .u32 a b = uw (BitVec.ofInt 32 a &&& BitVec.ofInt 32 b) := by
  show IntKind.u32.wrap _ = _
  rw [wrap_uw]; exact congrArg uw (ofInt_uw _)
theorem bits_or_uw (a b : Int) : Go.bits .or .u32 a b = uw (BitVec.ofInt 32 a ||| BitVec.ofInt 32 b) := by
  show IntKind.u32.wrap _ = _
  rw [wrap_uw]; exact congrArg uw (ofInt_uw _)
theorem bits_xor_uw (a b : Int) : Go.bits .xor .u32 a b = uw (BitVec.ofInt 32 a ^^^ BitVec.ofInt 32 b) := by
  show IntKind.u32.wrap _ = _
  rw [wrap_uw]; exact congrArg uw (ofInt_uw _)
theorem shl_ui (yk : IntKind) (x : BitVec 64) (y : Int) (h : 0 ≤ y) : Op.shift .shl .u64 (ui x) yk y = pure (.int .u64 (ui (x <<< y.toNat))) := by
  rw [shift_shl_any _ _ _ _ h, wrap_ui, BitVec.ofInt_mul, ofInt_ui]
  congr 3
  obtain ⟨n, rfl⟩ := Int.eq_ofNat_of_zero_le h
  simp only [IntKind.bits, Int.toNat_natCast]
  apply BitVec.eq_of_toNat_eq
  have e : (BitVec.ofInt 64 (2 ^ min n 64)).toNat = 2 ^ min n 64 % 2 ^ 64 := by
    rw [show (2 : Int) ^ min n 64 = ((2 ^ min n 64 : Nat) : Int) by simp, BitVec.ofInt_natCast, BitVec.toNat_ofNat]
  rw [BitVec.toNat_mul, e, BitVec.toNat_shiftLeft, Nat.shiftLeft_eq]
  by_cases hn : n < 64
  · rw [Nat.min_eq_left (by omega), Nat.mul_mod_mod]
  · rw [Nat.min_eq_right (by omega)]
    have : 2 ^ n = 2 ^ 64 * 2 ^ (n - 64) := by rw [← Nat.pow_add]; congr 1; omega
    rw [this, Nat.mod_self, Nat.mul_zero, Nat.zero_mod, Nat.mul_left_comm, Nat.mul_mod_right]
theorem shr_ui (yk : IntKind) (x : BitVec 64) (y : Int) (h : 0 ≤ y) : Op.shift .shr .u64 (ui x) yk y = pure (.int .u64 (ui (x >>> y.toNat))) := by
  rw [shift_shr_any _ _ _ _ h]
  congr 3
  obtain ⟨n, rfl⟩ := Int.eq_ofNat_of_zero_le h
  simp only [IntKind.bits, Int.toNat_natCast, ui, BitVec.toNat_ushiftRight, Nat.shiftRight_eq_div_pow]
  rw [show ((2 : Int) ^ min n 64) = ((2 ^ min n 64 : Nat) : Int) by simp, ← Int.natCast_ediv]
  congr 1
  by_cases hn : n < 64
  · rw [Nat.min_eq_left (by omega)]
  · rw [Nat.min_eq_right (by omega), Nat.div_eq_of_lt x.isLt, Nat.div_eq_of_lt]
    exact Nat.lt_of_lt_of_le x.isLt (Nat.pow_le_pow_right (by decide) (by omega))
theorem shl_uw (yk : IntKind) (x : BitVec 32) (y : Int) (h : 0 ≤ y) : Op.shift .shl .u32 (uw x) yk y = pure (.int .u32 (uw (x <<< y.toNat))) := by
  rw [shift_shl_any _ _ _ _ h, wrap_uw, BitVec.ofInt_mul, ofInt_uw]
  congr 3
  obtain ⟨n, rfl⟩ := Int.eq_ofNat_of_zero_le h
  simp only [IntKind.bits, Int.toNat_natCast]
  apply BitVec.eq_of_toNat_eq
  have e : (BitVec.ofInt 32 (2 ^ min n 32)).toNat = 2 ^ min n 32 % 2 ^ 32 := by
    rw [show (2 : Int) ^ min n 32 = ((2 ^ min n 32 : Nat) : Int) by simp, BitVec.ofInt_natCast, BitVec.toNat_ofNat]
  rw [BitVec.toNat_mul, e, BitVec.toNat_shiftLeft, Nat.shiftLeft_eq]
  by_cases hn : n < 32
  · rw [Nat.min_eq_left (by omega), Nat.mul_mod_mod]
  · rw [Nat.min_eq_right (by omega)]
    have : 2 ^ n = 2 ^ 32 * 2 ^ (n - 32) := by rw [← Nat.pow_add]; congr 1; omega
    rw [this, Nat.mod_self, Nat.mul_zero, Nat.zero_mod, Nat.mul_left_comm, Nat.mul_mod_right]
theorem shr_uw (yk : IntKind) (x : BitVec 32) (y : Int) (h : 0 ≤ y) : Op.shift .shr .u32 (uw x) yk y = pure (.int .u32 (uw (x >>> y.toNat))) := by
  rw [shift_shr_any _ _ _ _ h]
  congr 3
  obtain ⟨n, rfl⟩ := Int.eq_ofNat_of_zero_le h
  simp only [IntKind.bits, Int.toNat_natCast, uw, BitVec.toNat_ushiftRight, Nat.shiftRight_eq_div_pow]
  rw [show ((2 : Int) ^ min n 32) = ((2 ^ min n 32 : Nat) : Int) by simp, ← Int.natCast_ediv]
  congr 1
  by_cases hn : n < 32
  · rw [Nat.min_eq_left (by omega)]
  · rw [Nat.min_eq_right (by omega), Nat.div_eq_of_lt x.isLt, Nat.div_eq_of_lt]
    exact Nat.lt_of_lt_of_le x.isLt (Nat.pow_le_pow_right (by decide) (by omega))
theorem ui_beq (x y : BitVec 64) : (ui x == ui y) = (x == y) := by
  rw [Bool.eq_iff_iff, beq_iff_eq, beq_iff_eq]; exact ui_inj
theorem uw_beq (x y : BitVec 32) : (uw x == uw y) = (x == y) := by
  rw [Bool.eq_iff_iff, beq_iff_eq, beq_iff_eq]; exact uw_inj
theorem ui_lit (n : Nat) (h : n < 18446744073709551616) : ui (BitVec.ofNat 64 n) = (n : Int) := by
  simp [ui]; omega
theorem ui_beq_lit (x : BitVec 64) (n : Nat) (h : n < 18446744073709551616) : (ui x == (no_index (OfNat.ofNat n) : Int)) = (x == BitVec.ofNat 64 n) := by
  rw [← ui_beq, ui_lit n h]; rfl
theorem ui_tmod_lit (x : BitVec 64) (n : Nat) (h : n < 18446744073709551616) : (ui x).tmod (no_index (OfNat.ofNat n) : Int) = ui (x % BitVec.ofNat 64 n) := by
  rw [Int.tmod_eq_emod_of_nonneg (ui_nonneg x)]
  have : (OfNat.ofNat n : Int) = ((n : Nat) : Int) := rfl
  rw [this]; unfold ui
  rw [BitVec.toNat_umod, BitVec.toNat_ofNat, Nat.mod_eq_of_lt (by omega : n < 2 ^ 64)]; simp
theorem ui_tdiv_lit (x : BitVec 64) (n : Nat) (h : n < 18446744073709551616) : IntKind.u64.wrap ((ui x).tdiv (no_index (OfNat.ofNat n) : Int)) = ui (x / BitVec.ofNat 64 n) := by
  rw [Int.tdiv_eq_ediv_of_nonneg (ui_nonneg x), wrap_ui]
  have : (OfNat.ofNat n : Int) = ((n : Nat) : Int) := rfl
  rw [this]; congr 1; unfold ui
  rw [← Int.natCast_ediv, BitVec.ofInt_natCast]; apply BitVec.eq_of_toNat_eq
  rw [BitVec.toNat_udiv, BitVec.toNat_ofNat, BitVec.toNat_ofNat, Nat.mod_eq_of_lt (by omega : n < 2 ^ 64), Nat.mod_eq_of_lt]
  exact Nat.lt_of_le_of_lt (Nat.div_le_self _ _) x.isLt


theorem ui_bne_lit (x : BitVec 64) (n : Nat) (h : n < 18446744073709551616) : (ui x != (no_index (OfNat.ofNat n) : Int)) = (x != BitVec.ofNat 64 n) := by
  show (!(ui x == _)) = !(x == _)
  rw [ui_beq_lit x n h]
theorem ui_bne (x y : BitVec 64) : (ui x != ui y) = (x != y) := by
  show (!(ui x == _)) = !(x == _)
  rw [ui_beq]
theorem uw_bne (x y : BitVec 32) : (uw x != uw y) = (x != y) := by
  show (!(uw x == _)) = !(x == _)
  rw [uw_beq]
theorem ui_tmod (x y : BitVec 64) : (ui x).tmod (ui y) = ui (x % y) := by
  rw [Int.tmod_eq_emod_of_nonneg (ui_nonneg x)]; unfold ui; rw [BitVec.toNat_umod]; simp
theorem ui_tdiv (x y : BitVec 64) : IntKind.u64.wrap ((ui x).tdiv (ui y)) = ui (x / y) := by
  rw [Int.tdiv_eq_ediv_of_nonneg (ui_nonneg x), wrap_ui]
  congr 1; unfold ui
  rw [← Int.natCast_ediv, BitVec.ofInt_natCast]; apply BitVec.eq_of_toNat_eq
  rw [BitVec.toNat_udiv, BitVec.toNat_ofNat, Nat.mod_eq_of_lt]
  exact Nat.lt_of_le_of_lt (Nat.div_le_self _ _) x.isLt
theorem uw_lit (n : Nat) (h : n < 4294967296) : uw (BitVec.ofNat 32 n) = (n : Int) := by
  simp [uw]; omega
theorem uw_beq_lit (x : BitVec 32) (n : Nat) (h : n < 4294967296) : (uw x == (no_index (OfNat.ofNat n) : Int)) = (x == BitVec.ofNat 32 n) := by
  rw [← uw_beq, uw_lit n h]; rfl
theorem uw_tdiv_lit (x : BitVec 32) (n : Nat) (h : n < 4294967296) : IntKind.u32.wrap ((uw x).tdiv (no_index (OfNat.ofNat n) : Int)) = uw (x / BitVec.ofNat 32 n) := by
  rw [Int.tdiv_eq_ediv_of_nonneg (uw_nonneg x), wrap_uw]
  have : (OfNat.ofNat n : Int) = ((n : Nat) : Int) := rfl
  rw [this]; congr 1; unfold uw
  rw [← Int.natCast_ediv, BitVec.ofInt_natCast]; apply BitVec.eq_of_toNat_eq
  rw [BitVec.toNat_udiv, BitVec.toNat_ofNat, BitVec.toNat_ofNat, Nat.mod_eq_of_lt (by omega : n < 2 ^ 32), Nat.mod_eq_of_lt]
  exact Nat.lt_of_le_of_lt (Nat.div_le_self _ _) x.isLt
theorem uw_tmod_lit (x : BitVec 32) (n : Nat) (h : n < 4294967296) : (uw x).tmod (no_index (OfNat.ofNat n) : Int) = uw (x % BitVec.ofNat 32 n) := by
  rw [Int.tmod_eq_emod_of_nonneg (uw_nonneg x)]
  have : (OfNat.ofNat n : Int) = ((n : Nat) : Int) := rfl
  rw [this]; unfold uw
  rw [BitVec.toNat_umod, BitVec.toNat_ofNat, Nat.mod_eq_of_lt (by omega : n < 2 ^ 32)]; simp
attribute [go_sem] wrap_ui wrap_uw bits_and_ui bits_or_ui bits_xor_ui bits_and_uw bits_or_uw bits_xor_uw BitVec.ofInt_add BitVec.ofInt_mul ofInt_sub' ofInt_ui ofInt_uw ofInt64_uw ofInt32_ui
attribute [go_sem] ui_beq uw_beq ui_bne uw_bne ui_beq_lit ui_bne_lit uw_beq_lit ui_tmod_lit ui_tmod uw_tmod_lit ui_nonneg uw_nonneg
attribute [go_sem ↓] shl_ui shr_ui shl_uw shr_uw ui_tdiv_lit ui_tdiv uw_tdiv_lit
end Go.Proofs.YthiahpkodnfdcaaDoor
