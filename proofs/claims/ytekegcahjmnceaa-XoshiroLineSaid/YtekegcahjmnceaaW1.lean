/- The walks of the plain functions of chapters 7, 8 and 13: each returns what the bit-vector function says. No condition. -/
import Derived.Test.YtekegcahjmnceaaRows
import Derived.Test.YtekegcahjmnceaaU64
import Derived.Test.YtekegcahjmnceaaPlain
import Derived.Test.YtekegcahjmnceaaGlue
import Derived.WalkKit
import Derived.WalkSpells
import Derived.WalkLawsBesides
import Derived.Outline
import Derived.Lib.Hide
namespace Go.Proofs.Ytekegcahjmnceaa
open Go.RowKit

theorem fold_any (z : BitVec 64) (n : Int) (w : World) :
    Calls Try.prog 38 #[.int .u64 (ui z), .int .i64 n] w fun e w' => e = .returned (.int .u64 (ui (foldB z (min (max n 1) 63).toNat))) ∧ w = w' := by
  by_cases h1 : n < 1
  · go_enter Try.func38, Try.ntmps38
    go_wp2
    go_ret
    exact ⟨ret_u64 (by rw [show (min (max n 1) 63).toNat = 1 by omega]; rfl), rfl⟩
  · by_cases h2 : 63 < n
    · have h3 : 1 ≤ n := by omega
      go_enter Try.func38, Try.ntmps38
      go_wp2
      go_ret
      exact ⟨ret_u64 (by rw [show (min (max n 1) 63).toNat = 63 by omega]; rfl), rfl⟩
    · have h3 : 1 ≤ n := by omega
      have h4 : n ≤ 63 := by omega
      have h5 : 0 ≤ n := by omega
      go_enter Try.func38, Try.ntmps38
      go_wp2
      go_ret
      exact ⟨ret_u64 (by rw [show (min (max n 1) 63).toNat = n.toNat by omega]; rfl), rfl⟩

theorem left_any (n m : Int) (h0 : 1 ≤ m) (h1 : m ≤ 64) (w : World) :
    Calls Try.prog 27 #[.int .i64 n, .int .i64 m] w fun e w' => e = .returned (.int .i64 (n % m)) ∧ w = w' := by
  go_enter Try.func27, Try.ntmps27
  go_wp2
  all_goals go_ret
  · rename_i h; exact ⟨ret_i64 (left_neg n m (by omega) h1 h), rfl⟩
  · rename_i h; exact ⟨ret_i64 (left_pos n m (by omega) h), rfl⟩
theorem rotl64_any (x : BitVec 64) (n : Int) (w : World) :
    Calls Try.prog 28 #[.int .u64 (ui x), .int .i64 n] w fun e w' => e = .returned (.int .u64 (ui (x.rotateLeft (n % 64).toNat))) ∧ w = w' := by
  go_enter Try.func28, Try.ntmps28
  go_wp2
  go_ret
  exact ⟨ret_u64 (rot64_glue x n), rfl⟩
theorem rot64_any (x : BitVec 64) (n : Int) (w : World) :
    Calls Try.prog 24 #[.int .u64 (ui x), .int .i64 n] w fun e w' => e = .returned (.int .u64 (ui (x.rotateLeft (n % 64).toNat))) ∧ w = w' := by
  go_enter Try.func24, Try.ntmps24
  go_wp2_with (go_at_call 28; refine (rotl64_any _ _ _).mono ?_; rintro e w' ⟨rfl, rfl⟩)
  go_ret
  exact ⟨ret_u64 (by rw [(tmod_emod n 64 (by decide)).1]), rfl⟩
theorem refrot64_any (x : BitVec 64) (n : Int) (w : World) :
    Calls Try.prog 21 #[.int .u64 (ui x), .int .i64 n] w fun e w' => e = .returned (.int .u64 (ui (x.rotateLeft (n % 64).toNat))) ∧ w = w' := by
  go_enter Try.func21, Try.ntmps21
  go_wp2_with fail
  go_loop [0, 5] (fun y i => ∃ k : Nat, (k : Int) ≤ n % 64 ∧ i = .int .i64 k ∧ y = .int .u64 (ui (x.rotateLeft k))) (fun _ i => 64 - (intOf i).toNat)
  case atStart => exact ⟨0, by omega, rfl, by rw [rotl_zero]⟩
  case round =>
    obtain ⟨k, hk, rfl, rfl⟩ := hrel
    go_wp2_with (go_at_call 27; refine (left_any _ _ (by omega) (by omega) _).mono ?_; rintro e w' ⟨rfl, rfl⟩)
    · go_round
      case rel => exact ⟨k + 1, by omega, by go_num, by rw [← rot64_round x k (by omega)]⟩
      case measure => simp [intOf]; omega
    · go_ret
      exact ⟨ret_u64 (by rw [show k = (n % 64).toNat by omega]), rfl⟩
end Go.Proofs.Ytekegcahjmnceaa
