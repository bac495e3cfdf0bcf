/- Arrays of four words as a row's argument: opened and shut. No condition. -/
import Derived.Test.YthiahpkodnfdcaaDoorS4
import Derived.Test.YthiahpkodnfdcaaDoorMem
import Derived.ProofKit
import Derived.OpenShut
import Derived.ChangeOld
import Derived.Laws.IdiomArrays
import Derived.Lib.SmallJoins
namespace Go.Proofs.YthiahpkodnfdcaaDoor
open Go.ChangeShapes Go.WideShapes Go.ChangeAt Go.RowKit Go.Joins
section
variable {H : Type} {enc : TypeId × Value → H} {P : Program} {w : World} {base : Nat} {spare : Nat → Bool} {held : Bool}
theorem wf_ui (x : BitVec 64) : (Lit.int .u64 (ui x)).wf = true := by
  have := x.isLt
  simp [Lit.wf, IntKind.min, IntKind.max, IntKind.signed, IntKind.bits, ui]
  omega
theorem open_arr4 {r : Reach} {b0 : Nat} {t e : TypeId} {v : Value} {d : DataW H} {ps : List MemPlace} (ht : P.underlying t = some (.array 4 e)) (he : P.underlying e = some (.int .u64)) (hce : P.cellsOf e = 1) (hc : P.cellsOf t = 4)
    (hv : Value.okWide P w r b0 t v) (h : DataW.Trod enc P w base spare held t v d ps) :
    ∃ s : S4, v = .agg #[.int .u64 (ui s.a), .int .u64 (ui s.b), .int .u64 (ui s.c), .int .u64 (ui s.d)] ∧ d = .agg [.lit (.int .u64 (ui s.a)), .lit (.int .u64 (ui s.b)), .lit (.int .u64 (ui s.c)), .lit (.int .u64 (ui s.d))] ∧ ps = [] := by
  obtain ⟨cs, rfl, hsz, _⟩ : ∃ cs, v = .agg cs ∧ cs.size = P.cellsOf t ∧ Row.okWide P w r b0 t cs := by
    simpa [Value.okWide, ht] using hv
  obtain ⟨c0, c1, c2, c3, rfl⟩ := array4 (hsz.trans hc)
  obtain ⟨fuel, hf⟩ := h
  obtain ⟨y0, y1, y2, y3, m, hx, hy0, hy1, hy2, hy3⟩ := trod_array4 ht hce hf
  obtain ⟨x0, e0, rfl, w0⟩ := DataW.trod_int he hy0
  obtain ⟨x1, e1, rfl, w1⟩ := DataW.trod_int he hy1
  obtain ⟨x2, e2, rfl, w2⟩ := DataW.trod_int he hy2
  obtain ⟨x3, e3, rfl, w3⟩ := DataW.trod_int he hy3
  simp at e0 e1 e2 e3
  subst e0 e1 e2 e3
  simp only [Prod.mk.injEq] at hx
  obtain ⟨rfl, rfl⟩ := hx
  obtain ⟨a, rfl⟩ := u64_of_wf w0
  obtain ⟨b, rfl⟩ := u64_of_wf w1
  obtain ⟨c, rfl⟩ := u64_of_wf w2
  obtain ⟨d, rfl⟩ := u64_of_wf w3
  exact ⟨⟨a, b, c, d⟩, rfl, rfl, rfl⟩
theorem shut_arr4 {t e : TypeId} (ht : P.underlying t = some (.array 4 e)) (he : P.underlying e = some (.int .u64)) (hce : P.cellsOf e = 1) (hc : P.cellsOf t = 4) (s : S4) :
    DataW.Trod enc P w base spare held t (.agg #[.int .u64 (ui s.a), .int .u64 (ui s.b), .int .u64 (ui s.c), .int .u64 (ui s.d)]) (.agg [.lit (.int .u64 (ui s.a)), .lit (.int .u64 (ui s.b)), .lit (.int .u64 (ui s.c)), .lit (.int .u64 (ui s.d))]) [] :=
  ⟨2, by simp [DataW.trod, Value.cells, ht, he, hc, hce, wf_ui, show List.range 4 = [0, 1, 2, 3] from rfl]⟩
end
end Go.Proofs.YthiahpkodnfdcaaDoor
