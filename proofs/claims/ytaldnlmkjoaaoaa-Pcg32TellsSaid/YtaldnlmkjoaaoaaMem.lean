/- Memory of a call's own: variables of one or two cells, carried over what a walk does to a world. No condition. -/
import Derived.Test.YtaldnlmkjoaaoaaU64
import Derived.Test.YtaldnlmkjoaaoaaGlue
namespace Go.Proofs.Ytaldnlmkjoaaoaa
open Go.RowKit
/-- a variable of one cell -/
structure One (w : World) (B : Nat) (a : Value) : Prop where
  c0 : w.cell? ⟨B, 0, none⟩ = some a
  f0 : w.frozen? ⟨B, 0, none⟩ = false
  lt : B < w.heap.size
/-- a variable of two cells -/
structure Two (w : World) (B : Nat) (a b : Value) : Prop where
  c0 : w.cell? ⟨B, 0, none⟩ = some a
  c1 : w.cell? ⟨B, 1, none⟩ = some b
  f0 : w.frozen? ⟨B, 0, none⟩ = false
  f1 : w.frozen? ⟨B, 1, none⟩ = false
  lt : B < w.heap.size
theorem size_setCell (w : World) (a : Addr) (v : Value) : (w.setCell a v).heap.size = w.heap.size := by simp [World.setCell]
theorem One.new (w : World) (a : Value) (t : TypeId) : One (w.alloc (.cells #[a] t)) w.heap.size a :=
  ⟨by simp, by simp, by simp⟩
theorem One.newAt (w : World) (a : Value) (t : TypeId) (n : Nat) (hn : n = w.heap.size) : One (w.alloc (.cells #[a] t)) n a := by
  subst hn; exact One.new w a t
theorem Two.newAt' (w : World) (a b : Value) (t : TypeId) (n : Nat) (hn : n = w.heap.size) : One (w.alloc (.cells #[a, b] t)) n a := by
  subst hn; exact ⟨by simp, by simp, by simp⟩
theorem One.set {w : World} {B : Nat} {a : Value} (h : One w B a) (b : Value) : One (w.setCell ⟨B, 0, none⟩ b) B b :=
  ⟨World.cell?_setCell_same _ _ _ h.c0, by rw [World.frozen?_setCell]; exact h.f0, by rw [size_setCell]; exact h.lt⟩
theorem One.other {w : World} {B : Nat} {a : Value} (h : One w B a) {p : Addr} (hp : p.block ≠ B) (v : Value) : One (w.setCell p v) B a :=
  ⟨by rw [World.cell?_setCell_other _ _ _ _ (fun e => hp (by rw [e]))]; exact h.c0, by rw [World.frozen?_setCell]; exact h.f0, by rw [size_setCell]; exact h.lt⟩
theorem One.below {w w' : World} {B N : Nat} {a : Value} (h : One w B a) (hb : Below N w w') (hN : B < N) : One w' B a :=
  ⟨by rw [hb.cell (p := ⟨B, 0, none⟩) hN]; exact h.c0, by rw [hb.frozen (p := ⟨B, 0, none⟩) hN]; exact h.f0, Nat.lt_of_lt_of_le h.lt hb.size⟩
theorem One.alloc {w : World} {B : Nat} {a : Value} (h : One w B a) (o : Obj) : One (w.alloc o) B a :=
  h.below (N := w.heap.size) ((Below.refl _ _).alloc (Nat.le_refl _) _) h.lt
theorem One.grown {w w' : World} {B : Nat} {a : Value} {row : Option Nat} (h : One w B a) (hg : w.grownBy w' row) (hr : ∀ k, row = some k → k ≠ B) : One w' B a := by
  have hb : w'.heap[B]? = w.heap[B]? := hg.block B h.lt (fun e => hr B e.symm rfl)
  exact ⟨by rw [World.cell?_of_block (w := w) (a := ⟨B, 0, none⟩) hb]; exact h.c0, by rw [World.frozen?_of_block (w := w) (a := ⟨B, 0, none⟩) hb]; exact h.f0, Nat.lt_of_lt_of_le h.lt hg.size⟩
theorem Two.new (w : World) (a b : Value) (t : TypeId) : Two (w.alloc (.cells #[a, b] t)) w.heap.size a b :=
  ⟨by simp, by simp, by simp, by simp, by simp⟩
theorem Two.set {w : World} {B : Nat} {a b : Value} (h : Two w B a b) (a' b' : Value) : Two ((w.setCell ⟨B, 0, none⟩ a').setCell ⟨B, 1, none⟩ b') B a' b' := by
  refine ⟨?_, ?_, by rw [World.frozen?_setCell, World.frozen?_setCell]; exact h.f0, by rw [World.frozen?_setCell, World.frozen?_setCell]; exact h.f1, by rw [size_setCell, size_setCell]; exact h.lt⟩
  · rw [World.cell?_setCell_other _ _ _ _ (by simp)]; exact World.cell?_setCell_same _ _ _ h.c0
  · exact World.cell?_setCell_same _ _ _ ((World.cell?_setCell_other _ _ _ _ (by simp)).trans h.c1)
theorem Two.below {w w' : World} {B N : Nat} {a b : Value} (h : Two w B a b) (hb : Below N w w') (hN : B < N) : Two w' B a b :=
  ⟨by rw [hb.cell (p := ⟨B, 0, none⟩) hN]; exact h.c0, by rw [hb.cell (p := ⟨B, 1, none⟩) hN]; exact h.c1, by rw [hb.frozen (p := ⟨B, 0, none⟩) hN]; exact h.f0, by rw [hb.frozen (p := ⟨B, 1, none⟩) hN]; exact h.f1, Nat.lt_of_lt_of_le h.lt hb.size⟩
theorem Two.alloc {w : World} {B : Nat} {a b : Value} (h : Two w B a b) (o : Obj) : Two (w.alloc o) B a b :=
  h.below (N := w.heap.size) ((Below.refl _ _).alloc (Nat.le_refl _) _) h.lt
theorem below_set2 {B : Nat} {a w : World} (h : Below B a w) {p q : Addr} (hp : B ≤ p.block) (hq : B ≤ q.block) (u v : Value) : Below B a ((w.setCell p u).setCell q v) :=
  (h.setCell hp u).setCell hq v
/-- an argument that fits its kind is a word -/
theorem u64_of_wf {x : Int} (h : (Lit.int .u64 x).wf = true) : ∃ b : BitVec 64, x = ui b := by
  simp [Lit.wf, IntKind.min, IntKind.max, IntKind.signed, IntKind.bits] at h
  refine ⟨BitVec.ofInt 64 x, ?_⟩
  unfold ui; rw [BitVec.toNat_ofInt]; omega
theorem u32_of_wf {x : Int} (h : (Lit.int .u32 x).wf = true) : ∃ b : BitVec 32, x = uw b := by
  simp [Lit.wf, IntKind.min, IntKind.max, IntKind.signed, IntKind.bits] at h
  refine ⟨BitVec.ofInt 32 x, ?_⟩
  unfold uw; rw [BitVec.toNat_ofInt]; omega
theorem i64_of_wf {x : Int} (h : (Lit.int .i64 x).wf = true) : -9223372036854775808 ≤ x ∧ x ≤ 9223372036854775807 := by
  simp [Lit.wf, IntKind.min, IntKind.max, IntKind.signed, IntKind.bits] at h
  omega
end Go.Proofs.Ytaldnlmkjoaaoaa
