/- A table (a number and two slices) as a row's argument: opened. No condition. -/
import Derived.Test.YtodflmngbkiemaaSlOpen
import Derived.Test.YtodflmngbkiemaaPlAl
import Derived.Lib.SmallJoins
namespace Go.Proofs.Ytodflmngbkiemaa
open Go.ChangeShapes Go.WideShapes Go.ChangeAt Go.RowKit Go.Joins Go.Deep
section
variable {H : Type} {enc : TypeId × Value → H} {P : Program} {w : World}
theorem slz_of_trod {k : IntKind} {t e : TypeId} {v : Value} {n : Nat} {y : DataW H × List MemPlace} (ht : P.underlying t = some (.slice e)) (he : P.underlying e = some (.int k)) (hc : P.cellsOf e = 1)
    (h : DataW.trod enc P w 0 (fun _ => true) true n t [v] = some y) :
    ∃ zs : List Int, SlV w v (zs.map fun z => .int k z) ∧ zs.length ≤ 9223372036854775807 ∧ ∀ z ∈ zs, (Lit.int k z).wf = true := by
  rcases open_ints ht he hc h with ⟨hcs, _⟩ | ⟨a, len', cap', zs, hcs, _, hl, hm, hz, _, hcell, hwz⟩
  · simp only [List.cons.injEq, and_true] at hcs
    subst hcs
    exact ⟨[], SlV.nil w, by simp, by simp⟩
  · simp only [List.cons.injEq, and_true] at hcs
    subst hcs
    simp only [if_true] at hz
    have hlen : (zs.take len').length = len' := by rw [List.length_take, hz, Nat.min_eq_left hl]
    refine ⟨zs.take len', ?_, by rw [hlen]; unfold maxLen at hm; omega, fun z hz => hwz z (List.mem_of_mem_take hz)⟩
    rcases Nat.eq_zero_or_pos len' with h0 | h0
    · subst h0
      exact .inl ⟨rfl, _, _, rfl⟩
    · have hs : a.spot = none := by
        have h1 := hcell 0 (by omega)
        have h2 := World.cell?_spot h1
        simpa [Addr.add] using h2
      obtain ⟨b, o, s⟩ := a
      simp only at hs
      subst hs
      refine .inr ⟨b, o, cap', by rw [List.length_map, hlen], fun i u hu => ?_⟩
      have hi : i < len' := by
        have := (List.getElem?_eq_some_iff.1 hu).1
        rwa [List.length_map, hlen] at this
      have h1 := hcell i (by omega)
      rw [Addr.add_lit] at h1
      rw [h1]
      rw [List.getElem?_map] at hu
      have hiz : i < zs.length := by omega
      have h2 : (zs.take len')[i]? = some (zs.getD i 0) := by
        rw [List.getElem?_take, if_pos hi]
        simp [List.getD, hiz]
      rw [h2] at hu
      simpa using hu
theorem open_tab {r : Reach} {b0 : Nat} {t e g : TypeId} {f0 f1 f2 : Field} {v : Value} {d : DataW H} {p : List MemPlace} (hs : P.underlying t = some (.struct #[f0, f1, f2])) (hone : oneCellFields P #[f0, f1, f2] = true) (hC : P.cellsOf t = 3)
    (e0 : P.underlying f0.type = some (.int .u64)) (e1 : P.underlying f1.type = some (.slice e)) (he : P.underlying e = some (.int .u64)) (hce : P.cellsOf e = 1) (e2 : P.underlying f2.type = some (.slice g)) (hg : P.underlying g = some (.int .i64)) (hcg : P.cellsOf g = 1)
    (hv : Value.okWide P w r b0 t v) (h : DataW.Trod enc P w 0 (fun _ => true) true t v d p) :
    ∃ (T : BitVec 64) (bs : List (BitVec 64)) (ls : List Int) (vb va : Value), v = .agg #[.int .u64 (ui T), vb, va] ∧ SlV w vb (vals bs) ∧ SlV w va (ints ls) ∧ bs.length ≤ 9223372036854775807 := by
  obtain ⟨c0, c1, c2, y0, y1, y2, n, rfl, _, _, h0, h1, h2⟩ := open_agg3 hs hone hC hv h
  obtain ⟨x0, e0', _, w0⟩ := DataW.trod_int e0 h0
  simp only [List.cons.injEq, and_true] at e0'
  subst e0'
  obtain ⟨T, rfl⟩ := u64_of_wf w0
  obtain ⟨zs, s1, l1, z1⟩ := slz_of_trod e1 he hce h1
  obtain ⟨ls, s2, _, _⟩ := slz_of_trod e2 hg hcg h2
  refine ⟨T, zs.map (fun z => BitVec.ofInt 64 z), ls, c1, c2, rfl, ?_, s2, by rw [List.length_map]; exact l1⟩
  have e : vals (zs.map fun z => BitVec.ofInt 64 z) = zs.map fun z => .int .u64 z := by
    unfold vals
    rw [List.map_map]
    apply List.map_congr_left
    intro z hz
    obtain ⟨b, rfl⟩ := u64_of_wf (z1 z hz)
    simp only [Function.comp]
    rw [ofInt_ui]
  rw [e]; exact s1
end
end Go.Proofs.Ytodflmngbkiemaa
