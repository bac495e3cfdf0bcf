/- The table of trailing zeros, and the walk of the count of them. No condition but the table. -/
import Derived.Test.YthiahpkodnfdcaaDoorR01
import Derived.Test.YthiahpkodnfdcaaDoorPl20
import Derived.LoopTactic
import Derived.Deep.QuietTactic
import Derived.BigQuiet
namespace Go.Proofs.YthiahpkodnfdcaaDoor
open Go.RowKit
/-- the table of trailing zeros, in its variable -/
def Tab (w : World) : Prop := 0 < w.heap.size ∧ ∀ j, j < 64 → w.cell? ⟨0, j, none⟩ = some (.int .u8 (Lib.deBruijn64tab.getD j 0))
theorem Tab.below {w w' : World} (h : Tab w) (b : Below w.heap.size w w') : Tab w' :=
  ⟨Nat.lt_of_lt_of_le h.1 b.size, fun j hj => by rw [b.cell (p := ⟨0, j, none⟩) h.1]; exact h.2 j hj⟩
theorem Tab.belowN {w w' : World} {N : Nat} (h : Tab w) (b : Below N w w') (hN : 0 < N) : Tab w' :=
  ⟨Nat.lt_of_lt_of_le h.1 b.size, fun j hj => by rw [b.cell (p := ⟨0, j, none⟩) hN]; exact h.2 j hj⟩
theorem Tab.alloc {w : World} (h : Tab w) (o : Obj) : Tab (w.alloc o) := h.below ((Below.refl _ _).alloc (Nat.le_refl _) _)
theorem tz_idx (z : BitVec 64) (h : z ≠ 0) : (ui (((z &&& -z) * 285870213051353865#64) >>> 58)).toNat < 64 ∧ Lib.deBruijn64tab.getD (ui (((z &&& -z) * 285870213051353865#64) >>> 58)).toNat 0 = tzB z := by
  have h0 : z.toNat ≠ 0 := fun e => h (BitVec.eq_of_toNat_eq e)
  obtain ⟨hlow, hk⟩ := Lib.lowest_bit 64 z.toNat h0 z.isLt
  obtain ⟨hi, htab⟩ := Lib.deBruijn64_at _ hk
  have e : (ui (((z &&& -z) * 285870213051353865#64) >>> 58)).toNat = 2 ^ Lib.ctz 64 z.toNat * 285870213051353865 % 18446744073709551616 / 288230376151711744 := by
    unfold ui
    rw [Int.toNat_natCast, BitVec.toNat_ushiftRight, Nat.shiftRight_eq_div_pow, BitVec.toNat_mul, BitVec.toNat_and, BitVec.toNat_neg]
    have e2 : (2 ^ 64 - z.toNat) % 2 ^ 64 = 2 ^ 64 - z.toNat := by
      have := z.isLt
      omega
    rw [e2, hlow]
    rfl
  rw [e]
  exact ⟨hi, htab⟩
@[go_sem] theorem ofInt_neg_ui (z : BitVec 64) : BitVec.ofInt 64 (-ui z) = -z := by rw [BitVec.ofInt_neg, ofInt_ui]
theorem tz_any (z : BitVec 64) (w : World) (hT : Tab w) :
    Calls Tryd.prog 36 #[.int .u64 (ui z)] w fun e w' => e = .returned (.int .i64 (tzB z)) ∧ w = w' := by
  by_cases h : z = 0
  · subst h
    have hz : (ui 0#64 == 0) = true := rfl
    go_enter Tryd.func36, Tryd.ntmps36
    go_wp2_with fail
    go_ret
    exact ⟨rfl, rfl⟩
  · obtain ⟨hi, ht⟩ := tz_idx z h
    have hc := hT.2 _ hi
    rw [ht] at hc
    have hz : (z == 0#64) = false := by simpa using h
    have hi2 : ui (((z &&& -z) * 285870213051353865#64) >>> 58) < 64 := by
      have := ui_nonneg (((z &&& -z) * 285870213051353865#64) >>> 58); omega
    clear ht
    have h64 := (tz_spec z h)
    have htz : tzB z < 64 := by obtain ⟨_, _, h⟩ := h64; exact h
    clear h64
    go_enter Tryd.func36, Tryd.ntmps36
    go_wp2_with fail
    go_ret
    exact ⟨rfl, rfl⟩
end Go.Proofs.YthiahpkodnfdcaaDoor
