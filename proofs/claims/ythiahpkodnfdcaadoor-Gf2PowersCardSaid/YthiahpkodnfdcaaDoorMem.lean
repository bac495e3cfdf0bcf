/- Memory of a call's own: variables of one or two cells, carried over what a walk does to a world. No condition. -/
import Derived.Test.YthiahpkodnfdcaaDoorU64
import Derived.Test.YthiahpkodnfdcaaDoorGlue
namespace Go.Proofs.YthiahpkodnfdcaaDoor
open Go.RowKit
/-- a variable of one cell -/
structure One (w : World) (B : Nat) (a : Value) : Prop where
  c0 : w.cell? ⟨B, 0, none⟩ = some a
  f0 : w.frozen? ⟨B, 0, none⟩ = false
  lt : B < w.heap.size
/-- a variable of two cells -/
structure Two (w : World) (B : Nat) (a b : Value) : Prop where
  c0 : w.cell? ⟨B, 0, none⟩ = some a
  c1 : w.cell? ⟨B, 1, none⟩ = some b
  f0 : w.frozen? ⟨B, 0, none⟩ = false
  f1 : w.frozen? ⟨B, 1, none⟩ = false
  lt : B < w.heap.size
theorem size_setCell (w : World) (a : Addr) (v : Value) : (w.setCell a v).heap.size = w.heap.size := by simp [World.setCell]
theorem One.new (w : World) (a : Value) (t : TypeId) : One (w.alloc (.cells #[a] t)) w.heap.size a :=
  ⟨by simp, by simp, by simp⟩
theorem One.newAt (w : World) (a : Value) (t : TypeId) (n : Nat) (hn : n = w.heap.size) : One (w.alloc (.cells #[a] t)) n a := by
  subst hn; exact One.new w a t
theorem Two.newAt' (w : World) (a b : Value) (t : TypeId) (n : Nat) (hn : n = w.heap.size) : One (w.alloc (.cells #[a, b] t)) n a := by
  subst hn; exact ⟨by simp, by simp, by simp⟩
theorem One.set {w : World} {B : Nat} {a : Value} (h : One w B a) (b : Value) : One (w.setCell ⟨B, 0, none⟩ b) B b :=
  ⟨World.cell?_setCell_same _ _ _ h.c0, by rw [World.frozen?_setCell]; exact h.f0, by rw [size_setCell]; exact h.lt⟩
theorem One.other {w : World} {B : Nat} {a : Value} (h : One w B a) {p : Addr} (hp : p.block ≠ B) (v : Value) : One (w.setCell p v) B a :=
  ⟨by rw [World.cell?_setCell_other _ _ _ _ (fun e => hp (by rw [e]))]; exact h.c0, by rw [World.frozen?_setCell]; exact h.f0, by rw [size_setCell]; exact h.lt⟩
theorem One.below {w w' : World} {B N : Nat} {a : Value} (h : One w B a) (hb : Below N w w') (hN : B < N) : One w' B a :=
  ⟨by rw [hb.cell (p := ⟨B, 0, none⟩) hN]; exact h.c0, by rw [hb.frozen (p := ⟨B, 0, none⟩) hN]; exact h.f0, Nat.lt_of_lt_of_le h.lt hb.size⟩
theorem One.alloc {w : World} {B : Nat} {a : Value} (h : One w B a) (o : Obj) : One (w.alloc o) B a :=
  h.below (N := w.heap.size) ((Below.refl _ _).alloc (Nat.le_refl _) _) h.lt
theorem One.grown {w w' : World} {B : Nat} {a : Value} {row : Option Nat} (h : One w B a) (hg : w.grownBy w' row) (hr : ∀ k, row = some k → k ≠ B) : One w' B a := by
  have hb : w'.heap[B]? = w.heap[B]? := hg.block B h.lt (fun e => hr B e.symm rfl)
  exact ⟨by rw [World.cell?_of_block (w := w) (a := ⟨B, 0, none⟩) hb]; exact h.c0, by rw [World.frozen?_of_block (w := w) (a := ⟨B, 0, none⟩) hb]; exact h.f0, Nat.lt_of_lt_of_le h.lt hg.size⟩
theorem Two.new (w : World) (a b : Value) (t : TypeId) : Two (w.alloc (.cells #[a, b] t)) w.heap.size a b :=
  ⟨by simp, by simp, by simp, by simp, by simp⟩
theorem Two.set {w : World} {B : Nat} {a b : Value} (h : Two w B a b) (a' b' : Value) : Two ((w.setCell ⟨B, 0, none⟩ a').setCell ⟨B, 1, none⟩ b') B a' b' := by
  refine ⟨?_, ?_, by rw [World.frozen?_setCell, World.frozen?_setCell]; exact h.f0, by rw [World.frozen?_setCell, World.frozen?_setCell]; exact h.f1, by rw [size_setCell, size_setCell]; exact h.lt⟩
  · rw [World.cell?_setCell_other _ _ _ _ (by simp)]; exact World.cell?_setCell_same _ _ _ h.c0
  · exact World.cell?_setCell_same _ _ _ ((World.cell?_setCell_other _ _ _ _ (by simp)).trans h.c1)
theorem Two.below {w w' : World} {B N : Nat} {a b : Value} (h : Two w B a b) (hb : Below N w w') (hN : B < N) : Two w' B a b :=
  ⟨by rw [hb.cell (p := ⟨B, 0, none⟩) hN]; exact h.c0, by rw [hb.cell (p := ⟨B, 1, none⟩) hN]; exact h.c1, by rw [hb.frozen (p := ⟨B, 0, none⟩) hN]; exact h.f0, by rw [hb.frozen (p := ⟨B, 1, none⟩) hN]; exact h.f1, Nat.lt_of_lt_of_le h.lt hb.size⟩
theorem Two.alloc {w : World} {B : Nat} {a b : Value} (h : Two w B a b) (o : Obj) : Two (w.alloc o) B a b :=
  h.below (N := w.heap.size) ((Below.refl _ _).alloc (Nat.le_refl _) _) h.lt
theorem below_set2 {B : Nat} {a w : World} (h : Below B a w) {p q : Addr} (hp : B ≤ p.block) (hq : B ≤ q.block) (u v : Value) : Below B a ((w.setCell p u).setCell q v) :=
  (h.setCell hp u).setCell hq v
/-- an argument that fits its kind is a word -/
theorem u64_of_wf {x : Int} (h : (Lit.int .u64 x).wf = true) : ∃ b : BitVec 64, x = ui b := by
  simp [Lit.wf, IntKind.min, IntKind.max, IntKind.signed, IntKind.bits] at h
  refine ⟨BitVec.ofInt 64 x, ?_⟩
  unfold ui; rw [BitVec.toNat_ofInt]; omega
theorem u32_of_wf {x : Int} (h : (Lit.int .u32 x).wf = true) : ∃ b : BitVec 32, x = uw b := by
  simp [Lit.wf, IntKind.min, IntKind.max, IntKind.signed, IntKind.bits] at h
  refine ⟨BitVec.ofInt 32 x, ?_⟩
  unfold uw; rw [BitVec.toNat_ofInt]; omega
theorem i64_of_wf {x : Int} (h : (Lit.int .i64 x).wf = true) : -9223372036854775808 ≤ x ∧ x ≤ 9223372036854775807 := by
  simp [Lit.wf, IntKind.min, IntKind.max, IntKind.signed, IntKind.bits] at h
  omega
/-- a variable of four words -/
structure Four (w : World) (B : Nat) (a b c d : Int) : Prop where
  c0 : w.cell? ⟨B, 0, none⟩ = some (.int .u64 a)
  c1 : w.cell? ⟨B, 1, none⟩ = some (.int .u64 b)
  c2 : w.cell? ⟨B, 2, none⟩ = some (.int .u64 c)
  c3 : w.cell? ⟨B, 3, none⟩ = some (.int .u64 d)
  f0 : w.frozen? ⟨B, 0, none⟩ = false
  f1 : w.frozen? ⟨B, 1, none⟩ = false
  f2 : w.frozen? ⟨B, 2, none⟩ = false
  f3 : w.frozen? ⟨B, 3, none⟩ = false
  lt : B < w.heap.size
theorem Four.newAt (w : World) (a b c d : Int) (t : TypeId) (n : Nat) (hn : n = w.heap.size) : Four (w.alloc (.cells #[.int .u64 a, .int .u64 b, .int .u64 c, .int .u64 d] t)) n a b c d := by
  subst hn; exact ⟨by simp, by simp, by simp, by simp, by simp, by simp, by simp, by simp, by simp⟩
theorem Four.below {w w' : World} {B N : Nat} {a b c d : Int} (h : Four w B a b c d) (hb : Below N w w') (hN : B < N) : Four w' B a b c d := by
  have e : ∀ o, w'.cell? ⟨B, o, none⟩ = w.cell? ⟨B, o, none⟩ := fun o => hb.cell (p := ⟨B, o, none⟩) hN
  have g : ∀ o, w'.frozen? ⟨B, o, none⟩ = w.frozen? ⟨B, o, none⟩ := fun o => hb.frozen (p := ⟨B, o, none⟩) hN
  exact ⟨(e 0).trans h.c0, (e 1).trans h.c1, (e 2).trans h.c2, (e 3).trans h.c3, (g 0).trans h.f0, (g 1).trans h.f1, (g 2).trans h.f2, (g 3).trans h.f3, Nat.lt_of_lt_of_le h.lt hb.size⟩
theorem Four.alloc {w : World} {B : Nat} {a b c d : Int} (h : Four w B a b c d) (o : Obj) : Four (w.alloc o) B a b c d :=
  h.below (N := w.heap.size) ((Below.refl _ _).alloc (Nat.le_refl _) _) h.lt
theorem Four.drew {w : World} {B : Nat} {a b c d : Int} (h : Four w B a b c d) : Four w.drew B a b c d := ⟨h.c0, h.c1, h.c2, h.c3, h.f0, h.f1, h.f2, h.f3, h.lt⟩
theorem Four.other {w : World} {B : Nat} {a b c d : Int} (h : Four w B a b c d) {p : Addr} (hp : p.block ≠ B) (v : Value) : Four (w.setCell p v) B a b c d := by
  have e : ∀ o, (w.setCell p v).cell? ⟨B, o, none⟩ = w.cell? ⟨B, o, none⟩ := fun o => World.cell?_setCell_other _ _ _ _ (fun e => hp (by rw [e]))
  have g : ∀ o, (w.setCell p v).frozen? ⟨B, o, none⟩ = w.frozen? ⟨B, o, none⟩ := fun o => World.frozen?_setCell _ _ _ _
  exact ⟨(e 0).trans h.c0, (e 1).trans h.c1, (e 2).trans h.c2, (e 3).trans h.c3, (g 0).trans h.f0, (g 1).trans h.f1, (g 2).trans h.f2, (g 3).trans h.f3, by rw [size_setCell]; exact h.lt⟩
theorem Four.set0 {w : World} {B : Nat} {a b c d : Int} (h : Four w B a b c d) (x : Int) : Four (w.setCell ⟨B, 0, none⟩ (.int .u64 x)) B x b c d := by
  have g : ∀ o, (w.setCell ⟨B, 0, none⟩ (.int .u64 x)).frozen? ⟨B, o, none⟩ = w.frozen? ⟨B, o, none⟩ := fun o => World.frozen?_setCell _ _ _ _
  exact ⟨World.cell?_setCell_same _ _ _ h.c0, (World.cell?_setCell_other _ _ _ _ (by simp)).trans h.c1, (World.cell?_setCell_other _ _ _ _ (by simp)).trans h.c2, (World.cell?_setCell_other _ _ _ _ (by simp)).trans h.c3, (g 0).trans h.f0, (g 1).trans h.f1, (g 2).trans h.f2, (g 3).trans h.f3, by rw [size_setCell]; exact h.lt⟩
theorem below_set4 {B : Nat} {a w : World} (h : Below B a w) {n : Nat} (hp : B ≤ n) (u v x y : Value) : Below B a ((((w.setCell ⟨n, 0, none⟩ u).setCell ⟨n, 1, none⟩ v).setCell ⟨n, 2, none⟩ x).setCell ⟨n, 3, none⟩ y) :=
  (((h.setCell hp u).setCell hp v).setCell hp x).setCell hp y
theorem Four.set1 {w : World} {B : Nat} {a b c d : Int} (h : Four w B a b c d) (x : Int) : Four (w.setCell ⟨B, 1, none⟩ (.int .u64 x)) B a x c d := by
  have g : ∀ o, (w.setCell ⟨B, 1, none⟩ (.int .u64 x)).frozen? ⟨B, o, none⟩ = w.frozen? ⟨B, o, none⟩ := fun o => World.frozen?_setCell _ _ _ _
  exact ⟨(World.cell?_setCell_other _ _ _ _ (by simp)).trans h.c0, World.cell?_setCell_same _ _ _ h.c1, (World.cell?_setCell_other _ _ _ _ (by simp)).trans h.c2, (World.cell?_setCell_other _ _ _ _ (by simp)).trans h.c3, (g 0).trans h.f0, (g 1).trans h.f1, (g 2).trans h.f2, (g 3).trans h.f3, by rw [size_setCell]; exact h.lt⟩
theorem Four.set2 {w : World} {B : Nat} {a b c d : Int} (h : Four w B a b c d) (x : Int) : Four (w.setCell ⟨B, 2, none⟩ (.int .u64 x)) B a b x d := by
  have g : ∀ o, (w.setCell ⟨B, 2, none⟩ (.int .u64 x)).frozen? ⟨B, o, none⟩ = w.frozen? ⟨B, o, none⟩ := fun o => World.frozen?_setCell _ _ _ _
  exact ⟨(World.cell?_setCell_other _ _ _ _ (by simp)).trans h.c0, (World.cell?_setCell_other _ _ _ _ (by simp)).trans h.c1, World.cell?_setCell_same _ _ _ h.c2, (World.cell?_setCell_other _ _ _ _ (by simp)).trans h.c3, (g 0).trans h.f0, (g 1).trans h.f1, (g 2).trans h.f2, (g 3).trans h.f3, by rw [size_setCell]; exact h.lt⟩
theorem Four.set3 {w : World} {B : Nat} {a b c d : Int} (h : Four w B a b c d) (x : Int) : Four (w.setCell ⟨B, 3, none⟩ (.int .u64 x)) B a b c x := by
  have g : ∀ o, (w.setCell ⟨B, 3, none⟩ (.int .u64 x)).frozen? ⟨B, o, none⟩ = w.frozen? ⟨B, o, none⟩ := fun o => World.frozen?_setCell _ _ _ _
  exact ⟨(World.cell?_setCell_other _ _ _ _ (by simp)).trans h.c0, (World.cell?_setCell_other _ _ _ _ (by simp)).trans h.c1, (World.cell?_setCell_other _ _ _ _ (by simp)).trans h.c2, World.cell?_setCell_same _ _ _ h.c3, (g 0).trans h.f0, (g 1).trans h.f1, (g 2).trans h.f2, (g 3).trans h.f3, by rw [size_setCell]; exact h.lt⟩
theorem Four.set4 {w : World} {B : Nat} {a b c d : Int} (h : Four w B a b c d) (x y z u : Int) : Four ((((w.setCell ⟨B, 0, none⟩ (.int .u64 x)).setCell ⟨B, 1, none⟩ (.int .u64 y)).setCell ⟨B, 2, none⟩ (.int .u64 z)).setCell ⟨B, 3, none⟩ (.int .u64 u)) B x y z u :=
  (((h.set0 x).set1 y).set2 z).set3 u
theorem Four.other4 {w : World} {B : Nat} {a b c d : Int} (h : Four w B a b c d) {n : Nat} (hn : n ≠ B) (x y z u : Value) : Four ((((w.setCell ⟨n, 0, none⟩ x).setCell ⟨n, 1, none⟩ y).setCell ⟨n, 2, none⟩ z).setCell ⟨n, 3, none⟩ u) B a b c d :=
  (((h.other hn x).other hn y).other hn z).other hn u
end Go.Proofs.YthiahpkodnfdcaaDoor
