/- Slices of words as a row's argument: opened. No condition. -/
import Derived.Test.YthiahpkodnfdcaaDoorSl
import Derived.ProofKit
import Derived.OpenShut
import Derived.ChangeOld
import Derived.Carry
namespace Go.Proofs.YthiahpkodnfdcaaDoor
open Go.ChangeShapes Go.WideShapes Go.ChangeAt Go.RowKit
section
variable {H : Type} {enc : TypeId × Value → H} {P : Program} {w : World}
theorem open_slu {r : Reach} {b0 : Nat} {t e : TypeId} {v : Value} {d : DataW H} {ps : List MemPlace} (ht : P.underlying t = some (.slice e)) (he : P.underlying e = some (.int .u64)) (hc : P.cellsOf e = 1)
    (hv : Value.okWide P w r b0 t v) (h : DataW.Trod enc P w 0 (fun _ => true) true t v d ps) :
    ∃ xs : List (BitVec 64), SlV w v (vals xs) ∧ xs.length ≤ 9223372036854775807 := by
  obtain ⟨a0, len, cap, rfl⟩ := okWide_slice ht hv
  obtain ⟨fuel, hf⟩ := h
  rcases open_ints ht he hc hf with ⟨hcs, _⟩ | ⟨a, len', cap', zs, hcs, _, hl, hm, hz, _, hcell, hwz⟩
  · simp [Value.cells] at hcs
    obtain ⟨rfl, rfl, rfl⟩ := hcs
    exact ⟨[], SlV.nil w, by simp⟩
  · simp [Value.cells] at hcs
    obtain ⟨rfl, rfl, rfl⟩ := hcs
    simp only [if_true] at hz
    have e1 : ∀ z ∈ zs.take len, ui (BitVec.ofInt 64 z) = z := by
      intro z hz
      obtain ⟨b, rfl⟩ := u64_of_wf (hwz z (List.mem_of_mem_take hz))
      rw [ofInt_ui]
    have hlen : ((zs.take len).map fun z => BitVec.ofInt 64 z).length = len := by
      rw [List.length_map, List.length_take, hz, Nat.min_eq_left hl]
    refine ⟨(zs.take len).map fun z => BitVec.ofInt 64 z, ?_, by rw [hlen]; unfold maxLen at hm; omega⟩
    rcases Nat.eq_zero_or_pos len with h0 | h0
    · subst h0
      exact .inl ⟨rfl, _, _, rfl⟩
    · have hs : a.spot = none := by
        have h1 := hcell 0 (by omega)
        have h2 := World.cell?_spot h1
        simpa [Addr.add] using h2
      obtain ⟨b, o, s⟩ := a
      simp only at hs
      subst hs
      refine .inr ⟨b, o, cap, by rw [vals_length, hlen], fun i u hu => ?_⟩
      have hi : i < len := by
        have := (List.getElem?_eq_some_iff.1 hu).1
        rwa [vals_length, hlen] at this
      have h1 := hcell i (by omega)
      rw [Addr.add_lit] at h1
      rw [h1]
      unfold vals at hu
      rw [List.map_map, List.getElem?_map] at hu
      have h2 : (zs.take len)[i]? = some (zs.getD i 0) := by
        rw [List.getElem?_take, if_pos hi]
        have hiz : i < zs.length := by omega
        simp [List.getD, hiz]
      rw [h2] at hu
      simp only [Option.map_some, Function.comp] at hu
      rw [← hu, e1 _ (List.mem_of_getElem? h2)]
end
end Go.Proofs.YthiahpkodnfdcaaDoor
