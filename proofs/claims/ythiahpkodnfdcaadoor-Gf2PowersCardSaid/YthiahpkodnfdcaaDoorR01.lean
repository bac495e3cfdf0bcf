/- The walks of chapter 1's reference: bits, words, shifts, lengths. No condition but on lengths. -/
import Derived.Test.YthiahpkodnfdcaaDoorRows
import Derived.Test.YthiahpkodnfdcaaDoorPl01
import Derived.WalkKit
import Derived.WalkSpells
import Derived.WalkLawsBesides
import Derived.LoopTactic
import Derived.Deep.QuietTactic
import Derived.BigQuiet
import Derived.Outline
import Derived.Lib.Hide
namespace Go.Proofs.YthiahpkodnfdcaaDoor
open Go.RowKit
theorem ret_t2 {a b c d : Value} (h : a = b) (h2 : c = d) : Ending.returned (.tuple #[a, c]) = .returned (.tuple #[b, d]) := by rw [h, h2]
theorem v_u64 {a b : BitVec 64} (h : a = b) : Value.int .u64 (ui a) = .int .u64 (ui b) := by rw [h]
theorem v_i64 {a b : Int} (h : a = b) : Value.int .i64 a = .int .i64 b := by rw [h]
theorem v_bool {a b : Bool} (h : a = b) : Value.bool a = .bool b := by rw [h]
theorem ret_b {a b : Bool} (h : a = b) : Ending.returned (.bool a) = .returned (.bool b) := by rw [h]
theorem info_int : (Tryd.prog.info? 3).map (fun i => (i.zero, i.size, i.bytes)) = some (some (.int .i64 0), 1, 8) := by kernel_rfl
end Go.Proofs.YthiahpkodnfdcaaDoor
