/- The walks of chapter 8's functions (SplitMix64), but for the lists. No condition. -/
import Derived.Test.YtekegcahjmnceaaW4
namespace Go.Proofs.Ytekegcahjmnceaa
open Go.RowKit

theorem snext_any (s : BitVec 64) (w : World) :
    Calls Try.prog 30 #[.int .u64 (ui s)] w fun e w' => e = .returned (.tuple #[.int .u64 (ui (splitB (s + gamma))), .int .u64 (ui (s + gamma))]) ∧ Below w.heap.size w w' := by
  go_enter Try.func30, Try.ntmps30
  go_wp2_with fail
  refine (mixSplit_any _ _).mono ?_
  rintro e w1 ⟨rfl, b1⟩
  go_wp2
  go_ret2
  exact ⟨rfl, b1⟩
theorem snext_lit (n : Int) (s : BitVec 64) (hn : n = ui s) (w : World) :
    Calls Try.prog 30 #[.int .u64 n] w fun e w' => e = .returned (.tuple #[.int .u64 (ui (splitB (s + gamma))), .int .u64 (ui (s + gamma))]) ∧ Below w.heap.size w w' := by
  subst hn; exact snext_any s w
theorem sout_any (s n : BitVec 64) (w : World) :
    Calls Try.prog 31 #[.int .u64 (ui s), .int .u64 (ui n)] w fun e w' => e = .returned (.int .u64 (ui (splitB (s + n * gamma)))) ∧ w = w' := by
  go_enter Try.func31, Try.ntmps31
  go_wp2_with fail
  refine (refsplit_any _ _).mono ?_
  rintro e w' ⟨rfl, rfl⟩
  go_wp2
  go_ret
  exact ⟨rfl, rfl⟩
theorem sout_lit (s : BitVec 64) (m : Int) (n : BitVec 64) (hn : m = ui n) (w : World) :
    Calls Try.prog 31 #[.int .u64 (ui s), .int .u64 m] w fun e w' => e = .returned (.int .u64 (ui (splitB (s + n * gamma)))) ∧ w = w' := by
  subst hn; exact sout_any s n w
end Go.Proofs.Ytekegcahjmnceaa
