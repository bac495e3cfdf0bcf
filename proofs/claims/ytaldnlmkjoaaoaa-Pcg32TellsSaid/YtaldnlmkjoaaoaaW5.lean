/- The walks of chapter 8's functions (SplitMix64), but for the lists. No condition. -/
import Derived.Test.YtaldnlmkjoaaoaaW4
namespace Go.Proofs.Ytaldnlmkjoaaoaa
open Go.RowKit

theorem jump_any (s n : BitVec 64) (w : World) :
    Calls Try.prog 34 #[.int .u64 (ui s), .int .u64 (ui n)] w fun e w' => e = .returned (.int .u64 (ui (s + n * gamma))) ∧ w = w' := by
  go_enter Try.func34, Try.ntmps34
  go_wp2
  go_ret
  exact ⟨rfl, rfl⟩
theorem jump_lit (m : Int) (s n : BitVec 64) (hn : m = ui n) (w : World) :
    Calls Try.prog 34 #[.int .u64 (ui s), .int .u64 m] w fun e w' => e = .returned (.int .u64 (ui (s + n * gamma))) ∧ w = w' := by
  subst hn; exact jump_any s n w
theorem sback_any (s : BitVec 64) (w : World) :
    Calls Try.prog 30 #[.int .u64 (ui s)] w fun e w' => e = .returned (.int .u64 (ui (s - gamma))) ∧ w = w' := by
  go_enter Try.func30, Try.ntmps30
  go_wp2
  go_ret
  exact ⟨rfl, rfl⟩
theorem snext_any (s : BitVec 64) (w : World) :
    Calls Try.prog 28 #[.int .u64 (ui s)] w fun e w' => e = .returned (.tuple #[.int .u64 (ui (splitB (s + gamma))), .int .u64 (ui (s + gamma))]) ∧ Below w.heap.size w w' := by
  go_enter Try.func28, Try.ntmps28
  go_wp2_with fail
  refine (mixSplit_any _ _).mono ?_
  rintro e w1 ⟨rfl, b1⟩
  go_wp2
  go_ret2
  exact ⟨rfl, b1⟩
theorem snext_lit (n : Int) (s : BitVec 64) (hn : n = ui s) (w : World) :
    Calls Try.prog 28 #[.int .u64 n] w fun e w' => e = .returned (.tuple #[.int .u64 (ui (splitB (s + gamma))), .int .u64 (ui (s + gamma))]) ∧ Below w.heap.size w w' := by
  subst hn; exact snext_any s w
theorem before_any (x : BitVec 64) (w : World) :
    Calls Try.prog 43 #[.int .u64 (ui x)] w fun e w' => e = .returned (.int .u64 (ui (unsplitB x - gamma))) ∧ Below w.heap.size w w' := by
  go_enter Try.func43, Try.ntmps43
  go_wp2_with fail
  refine (unsplit_any _ _).mono ?_
  rintro e w1 ⟨rfl, b1⟩
  go_wp2_with fail
  refine (sback_any _ _).mono ?_
  rintro e w' ⟨rfl, rfl⟩
  go_wp2
  go_ret
  exact ⟨rfl, b1⟩
theorem ssteps_any (s t : BitVec 64) (w : World) :
    Calls Try.prog 35 #[.int .u64 (ui s), .int .u64 (ui t)] w fun e w' => e = .returned (.int .u64 (ui ((t - s) * oddInv gamma))) ∧ w = w' := by
  go_enter Try.func35, Try.ntmps35
  go_wp2_with fail
  refine (odd_int _ gamma lit_gamma (by decide +kernel) _).mono ?_
  rintro e w' ⟨rfl, rfl⟩
  go_wp2
  go_ret
  exact ⟨rfl, rfl⟩
theorem sout_any (s n : BitVec 64) (w : World) :
    Calls Try.prog 29 #[.int .u64 (ui s), .int .u64 (ui n)] w fun e w' => e = .returned (.int .u64 (ui (splitB (s + n * gamma)))) ∧ w = w' := by
  go_enter Try.func29, Try.ntmps29
  go_wp2_with fail
  refine (refsplit_any _ _).mono ?_
  rintro e w' ⟨rfl, rfl⟩
  go_wp2
  go_ret
  exact ⟨rfl, rfl⟩
theorem sout_lit (s : BitVec 64) (m : Int) (n : BitVec 64) (hn : m = ui n) (w : World) :
    Calls Try.prog 29 #[.int .u64 (ui s), .int .u64 m] w fun e w' => e = .returned (.int .u64 (ui (splitB (s + n * gamma)))) ∧ w = w' := by
  subst hn; exact sout_any s n w
theorem awake08_any (w : World) :
    Calls Try.prog 27 #[] w fun e w' => e = .returned (.bool true) ∧ Below w.heap.size w w' := by
  have h1 : (splitB (0#64 + gamma) == 16294208416658607535#64) = true := by decide +kernel
  have h2 : (0#64 + gamma == 11400714819323198485#64) = true := by decide +kernel
  go_enter Try.func27, Try.ntmps27
  go_wp2_with fail
  refine (snext_lit _ 0#64 rfl _).mono ?_
  rintro e w1 ⟨rfl, b1⟩
  rw [show (0#64 : BitVec 64) + gamma = gamma from BitVec.zero_add _] at *
  go_wp2
  go_ret
  exact ⟨rfl, b1⟩
end Go.Proofs.Ytaldnlmkjoaaoaa
