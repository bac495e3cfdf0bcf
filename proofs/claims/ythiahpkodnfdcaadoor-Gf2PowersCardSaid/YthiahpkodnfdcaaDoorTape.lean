/- The walks of the tape (chapter 37): made, asked for its next word, asked how many came. No condition but on lengths. -/
import Derived.Test.YthiahpkodnfdcaaDoorShelf
import Derived.Test.YthiahpkodnfdcaaDoorR01
import Derived.Deep.Draws
import Derived.Laws.OwnMore
import Derived.Laws.Rows
namespace Go.Proofs.YthiahpkodnfdcaaDoor
open Go.RowKit
/-- a block that is known whole -/
def Blk (w : World) (g : Nat) (t : TypeId) (cs : Array Value) : Prop := w.heap[g]? = some (.cells cs t (0, 0))
section
variable {w w' : World} {g : Nat} {t : TypeId} {cs : Array Value}
theorem Blk.lt (h : Blk w g t cs) : g < w.heap.size := by
  rcases Nat.lt_or_ge g w.heap.size with hlt | hge
  · exact hlt
  · unfold Blk at h; rw [Array.getElem?_eq_none hge] at h; cases h
theorem Blk.cell (h : Blk w g t cs) (i : Nat) : w.cell? ⟨g, i, none⟩ = cs[i]? := cell_of_row w g i cs t (0, 0) h
theorem Blk.frozen (h : Blk w g t cs) (i : Nat) : w.frozen? ⟨g, i, none⟩ = false := by
  unfold Blk at h
  simp [World.frozen?, h]
theorem Blk.new (w : World) (t : TypeId) (cs : Array Value) : Blk (w.alloc (.cells cs t)) w.heap.size t cs := heap_alloc_new w _
theorem Blk.drew (h : Blk w g t cs) : Blk w.drew g t cs := h
theorem Blk.drewN (h : Blk w g t cs) (n : Nat) : Blk (w.drewN n) g t cs := h
theorem Blk.alloc (h : Blk w g t cs) (o : Obj) : Blk (w.alloc o) g t cs := (Below.heap_alloc w o g h.lt).trans h
theorem Blk.set_ (h : Blk w g t cs) (i : Nat) (u : Value) : Blk (w.setCell ⟨g, i, none⟩ u) g t (cs.setIfInBounds i u) := by
  unfold Blk at h ⊢
  simp [World.setCell, Array.getElem?_modify, h]
theorem Blk.far (h : Blk w g t cs) {p : Addr} (hp : g ≠ p.block) (u : Value) : Blk (w.setCell p u) g t cs := (Below.heap_setCell w p u g hp).trans h
theorem Blk.below {B : Nat} (h : Blk w g t cs) (hb : Below B w w') (hg : g < B) : Blk w' g t cs := (hb.block g hg).trans h
theorem Blk.grown {row : Option Nat} (h : Blk w g t cs) (hb : w.grownBy w' row) (hg : some g ≠ row) : Blk w' g t cs := (hb.block g h.lt hg).trans h
theorem Blk.ne_ {g' : Nat} {t' : TypeId} {cs' : Array Value} (h : Blk w g t cs) (h' : Blk w g' t' cs') (hne : t ≠ t') : g ≠ g' := by
  rintro rfl
  unfold Blk at h h'
  rw [h] at h'
  injection h' with h'
  injection h' with _ ht
  exact hne ht
theorem own_blk_ne {base : Nat} {e : TypeId} {size n : Nat} {v : Value} {xs : List Value} (h : w.ownsRow base e size v n xs) (hg : Blk w g t cs) (hne : e ≠ t) : v.ownBlock ≠ some g := by
  rcases h.2 with ⟨rfl, _⟩ | ⟨g', cap, cur, rfl, _, hh, _⟩
  · simp [Value.ownBlock]
  · intro he
    have : g' = g := by simpa [Value.ownBlock] using he
    subst this
    exact Blk.ne_ (t := e) hh hg hne rfl
end
/-- a slice that reads as a list, below block B -/
def SlB (w : World) (B : Nat) (v : Value) (us : List Value) : Prop :=
  (us = [] ∧ ∃ ao cap, v = .slice ao 0 cap) ∨ ∃ b o cap, v = .slice (some ⟨b, o, none⟩) us.length cap ∧ b < B ∧ 0 < us.length ∧ ∀ i u, us[i]? = some u → w.cell? ⟨b, o + i, none⟩ = some u
theorem SlB.of {w : World} {v : Value} {us : List Value} (h : SlV w v us) : SlB w w.heap.size v us := by
  rcases h.cases with h | ⟨b, o, cap, rfl, hp, hc⟩
  · exact .inl h
  · obtain ⟨u, hu⟩ : ∃ u, us[0]? = some u := ⟨us[0], List.getElem?_eq_getElem hp⟩
    exact .inr ⟨b, o, cap, rfl, World.block_lt_of_cell? w _ (hc 0 u hu), hp, hc⟩
theorem SlB.to {w : World} {B : Nat} {v : Value} {us : List Value} (h : SlB w B v us) : SlV w v us := by
  rcases h with h | ⟨b, o, cap, rfl, _, _, hc⟩
  · exact .inl h
  · exact .inr ⟨b, o, cap, rfl, hc⟩
theorem SlB.below {w w' : World} {B : Nat} {v : Value} {us : List Value} (h : SlB w B v us) (hb : Below B w w') : SlB w' B v us := by
  rcases h with h | ⟨b, o, cap, rfl, h1, hp, hc⟩
  · exact .inl h
  · exact .inr ⟨b, o, cap, rfl, h1, hp, fun i u hu => by rw [hb.cell (p := ⟨b, o + i, none⟩) h1]; exact hc i u hu⟩
theorem SlB.mono {w : World} {B B' : Nat} {v : Value} {us : List Value} (h : SlB w B v us) (hb : B ≤ B') : SlB w B' v us := by
  rcases h with h | ⟨b, o, cap, rfl, h1, hp, hc⟩
  · exact .inl h
  · exact .inr ⟨b, o, cap, rfl, by omega, hp, hc⟩
theorem slV_len {w : World} {v : Value} {us : List Value} (h : SlV w v us) : ∃ ao cap, v = .slice ao us.length cap := by
  rcases h with ⟨rfl, ao, cap, rfl⟩ | ⟨b, o, cap, rfl, _⟩
  · exact ⟨ao, cap, rfl⟩
  · exact ⟨_, cap, rfl⟩
/-- what the tape's next word leaves alone -/
def Kept (B : Nat) (w w' : World) : Prop := ∀ b t cs, Blk w b t cs → t ≠ 37 → b ≠ B → Blk w' b t cs
end Go.Proofs.YthiahpkodnfdcaaDoor
