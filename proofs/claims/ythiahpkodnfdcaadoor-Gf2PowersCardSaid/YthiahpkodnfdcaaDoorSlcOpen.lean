/- Slices of words as a row's argument, with their room: opened. No condition. -/
import Derived.Test.YthiahpkodnfdcaaDoorSlOpen
namespace Go.Proofs.YthiahpkodnfdcaaDoor
open Go.ChangeShapes Go.WideShapes Go.ChangeAt Go.RowKit
/-- a slice's room is no less than its length -/
def CapOk (v : Value) : Prop := ∃ ao n cap, v = .slice ao n cap ∧ n ≤ cap
section
variable {H : Type} {enc : TypeId × Value → H} {P : Program} {w : World}
theorem open_slc {r : Reach} {b0 : Nat} {t e : TypeId} {v : Value} {d : DataW H} {ps : List MemPlace} (ht : P.underlying t = some (.slice e)) (he : P.underlying e = some (.int .u64)) (hc : P.cellsOf e = 1)
    (hv : Value.okWide P w r b0 t v) (h : DataW.Trod enc P w 0 (fun _ => true) true t v d ps) :
    ∃ xs : List (BitVec 64), SlV w v (vals xs) ∧ xs.length ≤ 9223372036854775807 ∧ CapOk v := by
  obtain ⟨xs, h1, h2⟩ := open_slu ht he hc hv h
  refine ⟨xs, h1, h2, ?_⟩
  obtain ⟨a0, len, cap, rfl⟩ := okWide_slice ht hv
  obtain ⟨fuel, hf⟩ := h
  rcases open_ints ht he hc hf with ⟨hcs, _⟩ | ⟨a, len', cap', zs, hcs, _, hl, hm, hz, _, hcell, hwz⟩
  · simp [Value.cells] at hcs
    obtain ⟨rfl, rfl, rfl⟩ := hcs
    exact ⟨none, 0, 0, rfl, Nat.le_refl _⟩
  · simp [Value.cells] at hcs
    obtain ⟨rfl, rfl, rfl⟩ := hcs
    exact ⟨_, _, _, rfl, hl⟩
end
end Go.Proofs.YthiahpkodnfdcaaDoor
