/- Small bridges between the forms that the walks leave and the plain functions: remainders, rotations. No condition. -/
import Derived.Test.YthiahpkodnfdcaaDoorU64
import Derived.Test.YthiahpkodnfdcaaDoorPlain
namespace Go.Proofs.YthiahpkodnfdcaaDoor
open Go Go.RowKit
theorem tmod_emod (n m : Int) (h : 0 < m) : (n.tmod m) % m = n % m ∧ -m < n.tmod m ∧ n.tmod m < m := by
  have h1 := Int.mul_tdiv_add_tmod n m
  refine ⟨?_, ?_, Int.tmod_lt_of_pos n h⟩
  · conv => rhs; rw [← h1]
    rw [Int.mul_add_emod_self_left]
  · have := Int.tmod_lt_of_pos (-n) h
    rw [Int.neg_tmod] at this; omega
theorem left_neg (n m : Int) (h : 0 < m) (hm : m ≤ 64) (hn : n.tmod m < 0) : wrap64 (n.tmod m + m) = n % m := by
  obtain ⟨h1, h2, h3⟩ := tmod_emod n m h
  rw [IntWalk.wrap64_in _ (by omega), ← h1, ← Int.add_emod_right, Int.emod_eq_of_lt (by omega) (by omega)]
theorem left_pos (n m : Int) (h : 0 < m) (hn : 0 ≤ n.tmod m) : n.tmod m = n % m := by
  obtain ⟨h1, h2, h3⟩ := tmod_emod n m h
  rw [← h1, Int.emod_eq_of_lt hn h3]
theorem and31 (n : Int) : (BitVec.ofInt 64 n &&& 31#64).toNat = (n % 32).toNat := by
  rw [BitVec.toNat_and, show (31#64).toNat = 2 ^ 5 - 1 from rfl, Nat.and_two_pow_sub_one_eq_mod, BitVec.toNat_ofInt]
  omega
theorem and63 (n : Int) : (BitVec.ofInt 64 n &&& 63#64).toNat = (n % 64).toNat := by
  rw [BitVec.toNat_and, show (63#64).toNat = 2 ^ 6 - 1 from rfl, Nat.and_two_pow_sub_one_eq_mod, BitVec.toNat_ofInt]
  omega
theorem rot32_glue (x : BitVec 32) (n : Int) : (x <<< (ui (BitVec.ofInt 64 n &&& 31#64)).toNat ||| x >>> (ui (32#64 - (BitVec.ofInt 64 n &&& 31#64))).toNat) = x.rotateLeft (n % 32).toNat := by
  have h := and31 n
  have h2 : (ui (BitVec.ofInt 64 n &&& 31#64)).toNat = (n % 32).toNat := by unfold ui; rw [h, Int.toNat_natCast]
  have h3 : (ui (32#64 - (BitVec.ofInt 64 n &&& 31#64))).toNat = 32 - (n % 32).toNat := by
    unfold ui; rw [BitVec.toNat_sub, h, show (32#64).toNat = 32 from rfl]; omega
  rw [h2, h3, BitVec.rotateLeft_def, Nat.mod_eq_of_lt (show (n % 32).toNat < 32 by omega)]
theorem rot64_glue (x : BitVec 64) (n : Int) : (x <<< (ui (BitVec.ofInt 64 n &&& 63#64)).toNat ||| x >>> (ui (64#64 - (BitVec.ofInt 64 n &&& 63#64))).toNat) = x.rotateLeft (n % 64).toNat := by
  have h := and63 n
  have h2 : (ui (BitVec.ofInt 64 n &&& 63#64)).toNat = (n % 64).toNat := by unfold ui; rw [h, Int.toNat_natCast]
  have h3 : (ui (64#64 - (BitVec.ofInt 64 n &&& 63#64))).toNat = 64 - (n % 64).toNat := by
    unfold ui; rw [BitVec.toNat_sub, h, show (64#64).toNat = 64 from rfl]; omega
  rw [h2, h3, BitVec.rotateLeft_def, Nat.mod_eq_of_lt (show (n % 64).toNat < 64 by omega)]
theorem ret_u64 {a b : BitVec 64} (h : a = b) : Ending.returned (.int .u64 (ui a)) = .returned (.int .u64 (ui b)) := by rw [h]
theorem ret_u32 {a b : BitVec 32} (h : a = b) : Ending.returned (.int .u32 (uw a)) = .returned (.int .u32 (uw b)) := by rw [h]
theorem ret_i64 {a b : Int} (h : a = b) : Ending.returned (.int .i64 a) = .returned (.int .i64 b) := by rw [h]
theorem bcell {W w1 : World} (hb : Below W.heap.size W w1) : (∀ b o, b < W.heap.size → w1.cell? ⟨b, o, none⟩ = W.cell? ⟨b, o, none⟩) ∧ (∀ b o, b < W.heap.size → w1.frozen? ⟨b, o, none⟩ = W.frozen? ⟨b, o, none⟩) :=
  ⟨fun b o h => hb.cell (p := ⟨b, o, none⟩) h, fun b o h => hb.frozen (p := ⟨b, o, none⟩) h⟩
/-- of rounds of Rot32 -/
theorem rot32_round (x : BitVec 32) (k : Nat) (h : k + 1 < 32) : (x.rotateLeft k) * 2#32 + (x.rotateLeft k) / 2147483648#32 = x.rotateLeft (k + 1) := by
  rw [rot1_32, rot_succ x k h]
theorem rot64_round (x : BitVec 64) (k : Nat) (h : k + 1 < 64) : (x.rotateLeft k) * 2#64 + (x.rotateLeft k) / 9223372036854775808#64 = x.rotateLeft (k + 1) := by
  rw [rot1_64, rot_succ x k h]
theorem rotl_zero {w : Nat} (x : BitVec w) : x.rotateLeft 0 = x := by
  rw [BitVec.rotateLeft_def, Nat.zero_mod, Nat.sub_zero, BitVec.shiftLeft_zero, BitVec.ushiftRight_eq_zero (Nat.le_refl _), BitVec.or_zero]
theorem lit_times : (6364136223846793005 : Int) = ui timesC := by decide +kernel
theorem lit_gamma : (11400714819323198485 : Int) = ui gamma := by decide +kernel
theorem lit_s1 : (13787848793156543929 : Int) = ui splitC1 := by decide +kernel
theorem lit_s2 : (10723151780598845931 : Int) = ui splitC2 := by decide +kernel
theorem lit_f1 : (18397679294719823053 : Int) = ui fmixC1 := by decide +kernel
theorem lit_f2 : (14181476777654086739 : Int) = ui fmixC2 := by decide +kernel
theorem shr59 (s : BitVec 64) : ui (s >>> 59) = ((s >>> 59).toNat : Int) ∧ (s >>> 59).toNat ≤ 31 := by
  refine ⟨rfl, ?_⟩
  rw [BitVec.toNat_ushiftRight, Nat.shiftRight_eq_div_pow]
  have := s.isLt; omega
theorem div59 (s : BitVec 64) : s / 576460752303423488#64 = s >>> 59 := by
  apply BitVec.eq_of_toNat_eq; simp [Nat.shiftRight_eq_div_pow]
theorem out_prog (s : BitVec 64) : (BitVec.setWidth 32 ((s >>> 18 ^^^ s) >>> 27)).rotateLeft (wrap64 (-wrap64 (ui (s >>> 59))) % 32).toNat = outB s := by
  obtain ⟨h1, h2⟩ := shr59 s
  rw [h1, IntWalk.wrap64_in ((s >>> 59).toNat : Int) (by omega), IntWalk.wrap64_in _ (by omega)]
  unfold outB
  congr 1; omega
theorem out_words (s : BitVec 64) : BitVec.setWidth 32 ((s / 262144#64 ^^^ s) / 134217728#64 % 4294967296#64) = BitVec.setWidth 32 ((s >>> 18 ^^^ s) >>> 27) := by
  have e1 : s / 262144#64 = s >>> 18 := by apply BitVec.eq_of_toNat_eq; simp [Nat.shiftRight_eq_div_pow]
  rw [e1]
  generalize s >>> 18 ^^^ s = x
  apply BitVec.eq_of_toNat_eq; simp [Nat.shiftRight_eq_div_pow]
theorem out_ref (s : BitVec 64) : (BitVec.setWidth 32 ((s / 262144#64 ^^^ s) / 134217728#64 % 4294967296#64)).rotateLeft (wrap64 (32 - wrap64 (ui (s / 576460752303423488#64))) % 32).toNat = outB s := by
  obtain ⟨h1, h2⟩ := shr59 s
  rw [div59, h1, IntWalk.wrap64_in ((s >>> 59).toNat : Int) (by omega), IntWalk.wrap64_in _ (by omega), out_words]
  unfold outB
  congr 1; omega
theorem ui_nat (k : Nat) (h : k < 18446744073709551616) : (ui (BitVec.ofNat 64 k)).toNat = k := by
  unfold ui; rw [BitVec.toNat_ofNat, Int.toNat_natCast]; exact Nat.mod_eq_of_lt (by omega)
theorem ui_nat_add (k m : Nat) (h : k + m < 18446744073709551616) : (ui (BitVec.ofNat 64 k + BitVec.ofNat 64 m)).toNat = k + m := by
  rw [← BitVec.ofNat_add]; exact ui_nat _ h
theorem ofInt_nat (n : Int) (h : 0 ≤ n) : BitVec.ofInt 64 n = BitVec.ofNat 64 n.toNat := by
  obtain ⟨k, rfl⟩ := Int.eq_ofNat_of_zero_le h
  rw [BitVec.ofInt_natCast, Int.toNat_natCast]
end Go.Proofs.YthiahpkodnfdcaaDoor
