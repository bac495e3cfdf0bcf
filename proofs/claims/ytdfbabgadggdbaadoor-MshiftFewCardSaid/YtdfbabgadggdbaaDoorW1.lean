/- The walks of the plain functions of chapters 7, 8 and 13: each returns what the bit-vector function says. No condition. -/
import Derived.Test.YtdfbabgadggdbaaDoorRows
import Derived.Test.YtdfbabgadggdbaaDoorU64
import Derived.Test.YtdfbabgadggdbaaDoorPlain
import Derived.Test.YtdfbabgadggdbaaDoorGlue
import Derived.WalkKit
import Derived.WalkSpells
import Derived.WalkLawsBesides
import Derived.Outline
import Derived.Lib.Hide
namespace Go.Proofs.YtdfbabgadggdbaaDoor
open Go.RowKit

theorem odd_any (a : BitVec 64) (h : (a % 2#64 == 0#64) = false) (w : World) :
    Calls Tryd.prog 26 #[.int .u64 (ui a)] w fun e w' => e = .returned (.tuple #[.int .u64 (ui (oddInv a)), .bool true]) ∧ w = w' := by
  go_enter Tryd.func26, Tryd.ntmps26
  go_wp2
  go_loop [4, 9] (fun x i => ∃ k : Nat, k ≤ 5 ∧ i = .int .i64 k ∧ x = .int .u64 (ui (itr (oddStep a) k a))) (fun _ i => 5 - (intOf i).toNat)
  case atStart => exact ⟨0, by omega, rfl, rfl⟩
  case round =>
    obtain ⟨k, hk, rfl, rfl⟩ := hrel
    go_wp2
    · go_round
      case rel => exact ⟨k + 1, by omega, by go_num, rfl⟩
      case measure => simp [intOf]; omega
    · have : k = 5 := by omega
      subst this
      go_ret2
      exact ⟨rfl, rfl⟩

theorem odd_int (n : Int) (a : BitVec 64) (hn : n = ui a) (h : (a % 2#64 == 0#64) = false) (w : World) :
    Calls Tryd.prog 26 #[.int .u64 n] w fun e w' => e = .returned (.tuple #[.int .u64 (ui (oddInv a)), .bool true]) ∧ w = w' := by
  subst hn; exact odd_any a h w
end Go.Proofs.YtdfbabgadggdbaaDoor
