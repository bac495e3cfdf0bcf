/- Numbers by their bits, as the reference of chapter 1 keeps them (a list of ints 0 and 1, the lowest first). Natural numbers alone. No condition. -/
import Derived.Test.YthiahpkodnfdcaaDoorSl
namespace Go.Proofs.YthiahpkodnfdcaaDoor
open Go.RowKit
/-- a number's bit -/
def bi (v i : Nat) : Int := ((v / 2 ^ i % 2 : Nat) : Int)
theorem bi_01 (v i : Nat) : 0 ≤ bi v i ∧ bi v i ≤ 1 := by unfold bi; omega
/-- the lowest bits of a number -/
def bvs (v n : Nat) : List Value := (List.range n).map fun i => .int .i64 (bi v i)
theorem bvs_length (v n : Nat) : (bvs v n).length = n := by simp [bvs]
theorem bvs_get (v n i : Nat) (h : i < n) : (bvs v n)[i]? = some (.int .i64 (bi v i)) := by simp [bvs, h]
theorem bvs_snoc (v n : Nat) : bvs v (n + 1) = bvs v n ++ [.int .i64 (bi v n)] := by simp [bvs, List.range_succ]
theorem bvs_zero (v : Nat) : bvs v 0 = [] := rfl
theorem bi_congr {u v n i : Nat} (h : u % 2 ^ n = v % 2 ^ n) (hi : i < n) : bi u i = bi v i := by
  unfold bi
  obtain ⟨d, rfl⟩ : ∃ d, n = i + (d + 1) := ⟨n - i - 1, by omega⟩
  have e : ∀ x : Nat, x / 2 ^ i % 2 = x % 2 ^ (i + (d + 1)) / 2 ^ i % 2 := by
    intro x
    rw [Nat.pow_add, Nat.mod_mul_right_div_self, Nat.pow_succ, Nat.mul_comm, Nat.mod_mul_right_mod]
  rw [e u, e v, h]
theorem bvs_congr {u v n : Nat} (h : u % 2 ^ n = v % 2 ^ n) : bvs u n = bvs v n := by
  unfold bvs
  apply List.map_congr_left
  intro i hi
  rw [bi_congr h (List.mem_range.1 hi)]
theorem bi_big {v m i : Nat} (h : v < 2 ^ m) (hi : m ≤ i) : bi v i = 0 := by
  unfold bi
  rw [Nat.div_eq_of_lt (Nat.lt_of_lt_of_le h (Nat.pow_le_pow_right (by decide) hi))]
  rfl
theorem bi_mod (v n i : Nat) (hi : i < n) : bi (v % 2 ^ n) i = bi v i := bi_congr (by rw [Nat.mod_mod]) hi
theorem bi_div (v k i : Nat) : bi (v / 2 ^ k) i = bi v (k + i) := by
  unfold bi; rw [Nat.div_div_eq_div_mul, ← Nat.pow_add]
/-- a bit at any place -/
def atZ (v : Nat) (i : Int) : Int := if i < 0 then 0 else bi v i.toNat
theorem atZ_01 (v : Nat) (i : Int) : 0 ≤ atZ v i ∧ atZ v i ≤ 1 := by
  unfold atZ; split
  · omega
  · exact bi_01 _ _
theorem atZ_nat (v i : Nat) : atZ v (i : Int) = bi v i := by
  unfold atZ; rw [if_neg (by omega), Int.toNat_natCast]
theorem atZ_shl (v by_ i : Nat) : atZ v ((i : Int) - by_) = bi (v * 2 ^ by_) i := by
  unfold atZ
  by_cases h : i < by_
  · rw [if_pos (by omega)]
    unfold bi
    obtain ⟨d, rfl⟩ : ∃ d, by_ = i + (d + 1) := ⟨by_ - i - 1, by omega⟩
    rw [Nat.pow_add, Nat.mul_left_comm, Nat.mul_div_cancel_left _ (Nat.two_pow_pos i), Nat.pow_succ, ← Nat.mul_assoc, Nat.mul_mod_left]
    rfl
  · rw [if_neg (by omega), show ((i : Int) - by_).toNat = i - by_ by omega]
    unfold bi
    obtain ⟨d, rfl⟩ : ∃ d, i = by_ + d := ⟨i - by_, by omega⟩
    rw [Nat.add_sub_cancel_left, Nat.pow_add, ← Nat.div_div_eq_div_mul, Nat.mul_div_cancel _ (Nat.two_pow_pos by_)]
/-- how many bits a number has -/
def bl (v : Nat) : Nat := if v = 0 then 0 else v.log2 + 1
theorem bl_zero : bl 0 = 0 := rfl
theorem bl_lt (v : Nat) : v < 2 ^ bl v := by
  unfold bl; split
  · rename_i h; subst h; decide
  · exact Nat.lt_log2_self
theorem bl_le (v m : Nat) (h : v < 2 ^ m) : bl v ≤ m := by
  unfold bl; split
  · omega
  · rename_i h0
    have := (Nat.log2_lt h0).2 h
    omega
theorem bl_top (v : Nat) (h : v ≠ 0) : 2 ^ (bl v - 1) ≤ v := by
  unfold bl; rw [if_neg h, Nat.add_sub_cancel]; exact Nat.log2_self_le h
theorem bl_next (v k : Nat) : bl (v % 2 ^ (k + 1)) = if bi v k = 1 then k + 1 else bl (v % 2 ^ k) := by
  have e : v % 2 ^ (k + 1) = v % 2 ^ k + 2 ^ k * (v / 2 ^ k % 2) := by rw [Nat.pow_succ, Nat.mod_mul]
  have hl := Nat.mod_lt v (Nat.two_pow_pos k)
  unfold bi
  rcases Nat.mod_two_eq_zero_or_one (v / 2 ^ k) with h | h
  · rw [h] at e ⊢
    rw [if_neg (by decide), e, Nat.mul_zero, Nat.add_zero]
  · rw [h] at e ⊢
    rw [if_pos (by rfl), e, Nat.mul_one]
    have h1 : v % 2 ^ k + 2 ^ k ≠ 0 := by omega
    have h2 : (v % 2 ^ k + 2 ^ k).log2 = k := by
      apply Nat.le_antisymm
      · have := (Nat.log2_lt (k := k + 1) h1).2 (by rw [Nat.pow_succ]; omega)
        omega
      · exact (Nat.le_log2 h1).2 (by omega)
    unfold bl
    rw [if_neg h1, h2]
/-- a word out of bits, from the highest on -/
theorem word_next (v p t : Nat) : v / 2 ^ p % 2 ^ (t + 1) = 2 * (v / 2 ^ (p + 1) % 2 ^ t) + v / 2 ^ p % 2 := by
  rw [Nat.pow_succ 2 p, ← Nat.div_div_eq_div_mul, Nat.pow_succ, Nat.mul_comm (2 ^ t) 2, Nat.mod_mul]
  omega
theorem word_step (v p t : Nat) : BitVec.ofNat 64 (v / 2 ^ (p + 1) % 2 ^ t) * 2#64 + BitVec.ofInt 64 (bi v p) = BitVec.ofNat 64 (v / 2 ^ p % 2 ^ (t + 1)) := by
  rw [word_next]
  unfold bi
  rw [BitVec.ofInt_natCast, show (2#64 : BitVec 64) = BitVec.ofNat 64 2 from rfl, ← BitVec.ofNat_mul, ← BitVec.ofNat_add, Nat.mul_comm]
theorem word_skip (v p t m : Nat) (h : v < 2 ^ m) (hp : m ≤ p) : BitVec.ofNat 64 (v / 2 ^ (p + 1) % 2 ^ t) * 2#64 = BitVec.ofNat 64 (v / 2 ^ p % 2 ^ (t + 1)) := by
  rw [← word_step v p t, bi_big h hp]
  exact (BitVec.add_zero _).symm
theorem of_bit (x : BitVec 64) (k : Nat) : ui (x >>> k % 2#64) = bi x.toNat k := by
  unfold ui bi
  rw [BitVec.toNat_umod, BitVec.toNat_ushiftRight, Nat.shiftRight_eq_div_pow]
  rfl
/-- slices of such lists -/
theorem bvs_take (v m k : Nat) (h : k ≤ m) : (bvs v m).take k = bvs v k := by
  unfold bvs
  rw [← List.map_take, List.take_range, Nat.min_eq_left h]
theorem SlV.bits_take {w : World} {b o len cap m v k : Nat} (hc : ∀ i u, (bvs v m)[i]? = some u → w.cell? ⟨b, o + i, none⟩ = some u) (hk : k ≤ m) (_hl : len = m) : SlV w (.slice (some ⟨b, o, none⟩) k cap) (bvs v k) := by
  refine .inr ⟨b, o, cap, by rw [bvs_length], fun i u hu => ?_⟩
  have hi : i < k := by have := (List.getElem?_eq_some_iff.1 hu).1; rwa [bvs_length] at this
  apply hc i u
  rw [bvs_get v m i (by omega)]
  rwa [bvs_get v k i hi] at hu
theorem SlV.bits_drop {w : World} {b o len cap m v k : Nat} (hc : ∀ i u, (bvs v m)[i]? = some u → w.cell? ⟨b, o + i, none⟩ = some u) (hk : k ≤ m) (_hl : len = m) : SlV w (.slice (some ⟨b, o + k, none⟩) (m - k) cap) (bvs (v / 2 ^ k) (m - k)) := by
  refine .inr ⟨b, o + k, cap, by rw [bvs_length], fun i u hu => ?_⟩
  have hi : i < m - k := by have := (List.getElem?_eq_some_iff.1 hu).1; rwa [bvs_length] at this
  rw [show o + k + i = o + (k + i) by omega]
  apply hc (k + i) u
  rw [bvs_get v m (k + i) (by omega)]
  rw [bvs_get _ _ i hi, bi_div] at hu
  exact hu
end Go.Proofs.YthiahpkodnfdcaaDoor
