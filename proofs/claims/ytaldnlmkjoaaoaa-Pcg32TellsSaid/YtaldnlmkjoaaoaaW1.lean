/- The walks of the plain functions of chapters 7, 8 and 13: each returns what the bit-vector function says. No condition. -/
import Derived.Test.YtaldnlmkjoaaoaaRows
import Derived.Test.YtaldnlmkjoaaoaaU64
import Derived.Test.YtaldnlmkjoaaoaaPlain
import Derived.Test.YtaldnlmkjoaaoaaGlue
import Derived.WalkKit
import Derived.WalkSpells
import Derived.WalkLawsBesides
import Derived.Outline
import Derived.Lib.Hide
namespace Go.Proofs.Ytaldnlmkjoaaoaa
open Go.RowKit

theorem step_any (s inc : BitVec 64) (w : World) :
    Calls Try.prog 37 #[.int .u64 (ui s), .int .u64 (ui inc)] w fun e w' => e = .returned (.int .u64 (ui (stepB s inc))) ∧ w = w' := by
  go_enter Try.func37, Try.ntmps37
  go_wp2
  go_ret
  exact ⟨rfl, rfl⟩

theorem step_int (n : Int) (s inc : BitVec 64) (hn : n = ui s) (w : World) :
    Calls Try.prog 37 #[.int .u64 n, .int .u64 (ui inc)] w fun e w' => e = .returned (.int .u64 (ui (stepB s inc))) ∧ w = w' := by
  subst hn; exact step_any s inc w

theorem refstep_any (s inc : BitVec 64) (w : World) :
    Calls Try.prog 15 #[.int .u64 (ui s), .int .u64 (ui inc)] w fun e w' => e = .returned (.int .u64 (ui (stepB s inc))) ∧ w = w' := by
  go_enter Try.func15, Try.ntmps15
  go_wp2
  all_goals go_ret
  · rename_i h
    exact ⟨ret_u64 (by rw [refstep_odd _ h]; rfl), rfl⟩
  · rename_i h
    refine ⟨ret_u64 ?_, rfl⟩
    conv => lhs; rw [refstep_same _ h]
    rfl

theorem fold_any (z : BitVec 64) (n : Int) (w : World) :
    Calls Try.prog 19 #[.int .u64 (ui z), .int .i64 n] w fun e w' => e = .returned (.int .u64 (ui (foldB z (min (max n 1) 63).toNat))) ∧ w = w' := by
  by_cases h1 : n < 1
  · go_enter Try.func19, Try.ntmps19
    go_wp2
    go_ret
    exact ⟨ret_u64 (by rw [show (min (max n 1) 63).toNat = 1 by omega]; rfl), rfl⟩
  · by_cases h2 : 63 < n
    · have h3 : 1 ≤ n := by omega
      go_enter Try.func19, Try.ntmps19
      go_wp2
      go_ret
      exact ⟨ret_u64 (by rw [show (min (max n 1) 63).toNat = 63 by omega]; rfl), rfl⟩
    · have h3 : 1 ≤ n := by omega
      have h4 : n ≤ 63 := by omega
      have h5 : 0 ≤ n := by omega
      go_enter Try.func19, Try.ntmps19
      go_wp2
      go_ret
      exact ⟨ret_u64 (by rw [show (min (max n 1) 63).toNat = n.toNat by omega]; rfl), rfl⟩

theorem odd_any (a : BitVec 64) (h : (a % 2#64 == 0#64) = false) (w : World) :
    Calls Try.prog 54 #[.int .u64 (ui a)] w fun e w' => e = .returned (.tuple #[.int .u64 (ui (oddInv a)), .bool true]) ∧ w = w' := by
  go_enter Try.func54, Try.ntmps54
  go_wp2
  go_loop [4, 9] (fun x i => ∃ k : Nat, k ≤ 5 ∧ i = .int .i64 k ∧ x = .int .u64 (ui (itr (oddStep a) k a))) (fun _ i => 5 - (intOf i).toNat)
  case atStart => exact ⟨0, by omega, rfl, rfl⟩
  case round =>
    obtain ⟨k, hk, rfl, rfl⟩ := hrel
    go_wp2
    · go_round
      case rel => exact ⟨k + 1, by omega, by go_num, rfl⟩
      case measure => simp [intOf]; omega
    · have : k = 5 := by omega
      subst this
      go_ret2
      exact ⟨rfl, rfl⟩

theorem odd_int (n : Int) (a : BitVec 64) (hn : n = ui a) (h : (a % 2#64 == 0#64) = false) (w : World) :
    Calls Try.prog 54 #[.int .u64 n] w fun e w' => e = .returned (.tuple #[.int .u64 (ui (oddInv a)), .bool true]) ∧ w = w' := by
  subst hn; exact odd_any a h w
theorem of_any (t p s : BitVec 64) (w : World) :
    Calls Try.prog 48 #[.agg #[.int .u64 (ui t), .int .u64 (ui p)], .int .u64 (ui s)] w fun e w' => e = .returned (.int .u64 (ui (s * t + p))) ∧ w.alloc (.cells #[.int .u64 (ui t), .int .u64 (ui p)] 49) = w' := by
  go_enter Try.func48, Try.ntmps48
  go_wp2
  go_ret
  exact ⟨rfl, rfl⟩
theorem twice_any (t p : BitVec 64) (w : World) :
    Calls Try.prog 49 #[.agg #[.int .u64 (ui t), .int .u64 (ui p)]] w fun e w' => e = .returned (.agg #[.int .u64 (ui (t * t)), .int .u64 (ui (p * (t + 1#64)))]) ∧ Below w.heap.size w w' := by
  go_enter Try.func49, Try.ntmps49
  go_wp2
  exact bodyPost_ret (v := .agg #[.int .u64 (ui (t * t)), .int .u64 (ui (p * (t + 1#64)))]) (by simp [results, Try.results49, go_sem]) rfl ⟨rfl, ((Below.refl _ _).alloc (Nat.le_refl _) _).alloc (by simp) _⟩
theorem left_any (n m : Int) (h0 : 1 ≤ m) (h1 : m ≤ 64) (w : World) :
    Calls Try.prog 65 #[.int .i64 n, .int .i64 m] w fun e w' => e = .returned (.int .i64 (n % m)) ∧ w = w' := by
  go_enter Try.func65, Try.ntmps65
  go_wp2
  all_goals go_ret
  · rename_i h; exact ⟨ret_i64 (left_neg n m (by omega) h1 h), rfl⟩
  · rename_i h; exact ⟨ret_i64 (left_pos n m (by omega) h), rfl⟩
theorem rotl32_any (x : BitVec 32) (n : Int) (w : World) :
    Calls Try.prog 64 #[.int .u32 (uw x), .int .i64 n] w fun e w' => e = .returned (.int .u32 (uw (x.rotateLeft (n % 32).toNat))) ∧ w = w' := by
  go_enter Try.func64, Try.ntmps64
  go_wp2
  go_ret
  exact ⟨ret_u32 (rot32_glue x n), rfl⟩
theorem rot32_any (x : BitVec 32) (n : Int) (w : World) :
    Calls Try.prog 56 #[.int .u32 (uw x), .int .i64 n] w fun e w' => e = .returned (.int .u32 (uw (x.rotateLeft (n % 32).toNat))) ∧ w = w' := by
  go_enter Try.func56, Try.ntmps56
  go_wp2_with (go_at_call 64; refine (rotl32_any _ _ _).mono ?_; rintro e w' ⟨rfl, rfl⟩)
  go_ret
  exact ⟨ret_u32 (by rw [(tmod_emod n 32 (by decide)).1]), rfl⟩
theorem refrot32_any (x : BitVec 32) (n : Int) (w : World) :
    Calls Try.prog 57 #[.int .u32 (uw x), .int .i64 n] w fun e w' => e = .returned (.int .u32 (uw (x.rotateLeft (n % 32).toNat))) ∧ w = w' := by
  go_enter Try.func57, Try.ntmps57
  go_wp2_with fail
  go_loop [0, 5] (fun y i => ∃ k : Nat, (k : Int) ≤ n % 32 ∧ i = .int .i64 k ∧ y = .int .u32 (uw (x.rotateLeft k))) (fun _ i => 32 - (intOf i).toNat)
  case atStart => exact ⟨0, by omega, rfl, by rw [rotl_zero]⟩
  case round =>
    obtain ⟨k, hk, rfl, rfl⟩ := hrel
    go_wp2_with (go_at_call 65; refine (left_any _ _ (by omega) (by omega) _).mono ?_; rintro e w' ⟨rfl, rfl⟩)
    · go_round
      case rel => exact ⟨k + 1, by omega, by go_num, by rw [← rot32_round x k (by omega)]⟩
      case measure => simp [intOf]; omega
    · go_ret
      exact ⟨ret_u32 (by rw [show k = (n % 32).toNat by omega]), rfl⟩
end Go.Proofs.Ytaldnlmkjoaaoaa
