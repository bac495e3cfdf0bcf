/- The walks of chapter 8's statements SplitJumps and SplitAll: each returns true. No condition. -/
import Derived.Test.YtaldnlmkjoaaoaaW5
namespace Go.Proofs.Ytaldnlmkjoaaoaa
open Go.RowKit

theorem sum_jump (s n m : BitVec 64) : s + n * gamma + m * gamma = s + (n + m) * gamma := by grind
theorem one_jump (s : BitVec 64) : s + 1#64 * gamma = s + 11400714819323198485#64 := by
  show s + 1#64 * gamma = s + gamma; grind
theorem zero_jump (s : BitVec 64) : s + 0#64 * gamma = s := by grind
theorem to_jump (s t : BitVec 64) : s + (t - s) * oddInv gamma * gamma = t := by
  have := inv_g; generalize oddInv gamma = i at *; grind
theorem of_jump (s n : BitVec 64) : (s + n * gamma - s) * oddInv gamma = n := by
  have := inv_g; generalize oddInv gamma = i at *; grind
theorem jumps_walk (s t n m : BitVec 64) (w : World) :
    Calls Try.prog 8 #[.int .u64 (ui s), .int .u64 (ui t), .int .u64 (ui n), .int .u64 (ui m)] w fun e w' => e = .returned (.bool true) ∧ Below w.heap.size w w' := by
  have h1 := Lib.hid (sum_jump s n m)
  have h2 := Lib.hid (one_jump s)
  have h3 := Lib.hid (zero_jump s)
  have h4 := Lib.hid (to_jump s t)
  have h5 := Lib.hid (of_jump s n)
  go_enter Try.func8, Try.ntmps8
  go_wp2_with fail
  refine (awake08_any _).mono ?_
  rintro e w1 ⟨rfl, b1⟩
  have B1 := b1
  go_wp2_with fail
  refine (jump_any _ _ _).mono ?_
  rintro e w' ⟨rfl, rfl⟩
  go_wp2_with fail
  refine (jump_any _ _ _).mono ?_
  rintro e w' ⟨rfl, rfl⟩
  rw [h1.out]
  go_wp2_with fail
  refine (jump_any _ _ _).mono ?_
  rintro e w' ⟨rfl, rfl⟩
  go_wp2_with fail
  refine (jump_lit 1 _ 1#64 rfl _).mono ?_
  rintro e w' ⟨rfl, rfl⟩
  rw [h2.out]
  go_wp2_with fail
  refine (jump_lit 0 _ 0#64 rfl _).mono ?_
  rintro e w' ⟨rfl, rfl⟩
  rw [h3.out]
  go_wp2_with fail
  refine (ssteps_any _ _ _).mono ?_
  rintro e w' ⟨rfl, rfl⟩
  go_wp2_with fail
  refine (jump_any _ _ _).mono ?_
  rintro e w' ⟨rfl, rfl⟩
  rw [h4.out]
  go_wp2_with fail
  refine (jump_any _ _ _).mono ?_
  rintro e w' ⟨rfl, rfl⟩
  go_wp2_with fail
  refine (ssteps_any _ _ _).mono ?_
  rintro e w' ⟨rfl, rfl⟩
  rw [h5.out]
  go_wp2
  go_ret
  exact ⟨rfl, B1⟩

theorem all_next (x : BitVec 64) : splitB (unsplitB x - gamma + gamma) = x := by
  rw [BitVec.sub_add_cancel, split_unsplit]
theorem all_at (s x : BitVec 64) : splitB (s + ((unsplitB x - gamma - s) * oddInv gamma + 1#64) * gamma) = x := by
  have : s + ((unsplitB x - gamma - s) * oddInv gamma + 1#64) * gamma = unsplitB x := by
    have := inv_g; generalize oddInv gamma = i at *; generalize unsplitB x = u; grind
  rw [this, split_unsplit]
theorem all_one (s x n : BitVec 64) : (splitB (s + (n + 1#64) * gamma) == x) = (n == (unsplitB x - gamma - s) * oddInv gamma) := by
  rw [Bool.eq_iff_iff, beq_iff_eq, beq_iff_eq]
  constructor
  · intro h
    have h2 : s + (n + 1#64) * gamma = unsplitB x := by rw [← h, unsplit_split]
    rw [← h2]
    have := inv_g; generalize oddInv gamma = i at *; grind
  · intro h; rw [h]; exact all_at s x
theorem all_walk (s x n : BitVec 64) (w : World) :
    Calls Try.prog 11 #[.int .u64 (ui s), .int .u64 (ui x), .int .u64 (ui n)] w fun e w' => e = .returned (.bool true) ∧ Below w.heap.size w w' := by
  have h1 := Lib.hid (all_next x)
  have h2 := Lib.hid (all_at s x)
  have h3 := all_one s x n
  go_enter Try.func11, Try.ntmps11
  go_wp2_with fail
  refine (awake08_any _).mono ?_
  rintro e w1 ⟨rfl, b1⟩
  have B1 := b1
  go_wp2_with fail
  refine (before_any _ _).mono ?_
  rintro e w2 ⟨rfl, b2⟩
  have B2 := B1.trans (b2.mono B1.size)
  go_wp2_with fail
  refine (snext_any _ _).mono ?_
  rintro e w3 ⟨rfl, b3⟩
  have B3 := B2.trans (b3.mono B2.size)
  rw [h1.out]
  go_wp2_with fail
  refine (ssteps_any _ _ _).mono ?_
  rintro e w' ⟨rfl, rfl⟩
  go_wp2_with fail
  refine (sout_any _ _ _).mono ?_
  rintro e w' ⟨rfl, rfl⟩
  rw [h2.out]
  go_wp2_with fail
  refine (sout_any _ _ _).mono ?_
  rintro e w' ⟨rfl, rfl⟩
  go_wp2
  go_ret
  exact ⟨rfl, B3⟩
end Go.Proofs.Ytaldnlmkjoaaoaa
