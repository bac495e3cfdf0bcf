/- Slices of one-cell elements: what a walk is told of a slice that it reads, kept over what a walk does to memory. No condition. -/
import Derived.Test.YthiahpkodnfdcaaDoorMem
import Derived.OwnWalk
namespace Go.Proofs.YthiahpkodnfdcaaDoor
open Go.RowKit
/-- the slice value v reads as the list us -/
def SlV (w : World) (v : Value) (us : List Value) : Prop :=
  (us = [] ∧ ∃ ao cap, v = .slice ao 0 cap) ∨ ∃ b o cap, v = .slice (some ⟨b, o, none⟩) us.length cap ∧ ∀ i u, us[i]? = some u → w.cell? ⟨b, o + i, none⟩ = some u
/-- words as values -/
def vals (xs : List (BitVec 64)) : List Value := xs.map (fun x => .int .u64 (ui x))
theorem vals_length (xs : List (BitVec 64)) : (vals xs).length = xs.length := by simp [vals]
theorem vals_get (xs : List (BitVec 64)) (i : Nat) (h : i < xs.length) : (vals xs)[i]? = some (.int .u64 (ui xs[i])) := by simp [vals, h]
theorem vals_snoc (xs : List (BitVec 64)) (x : BitVec 64) : vals (xs ++ [x]) = vals xs ++ [.int .u64 (ui x)] := by simp [vals]
theorem SlV.nil (w : World) : SlV w (.slice none 0 0) [] := .inl ⟨rfl, none, 0, rfl⟩
theorem SlV.below {w w' : World} {v : Value} {us : List Value} (h : SlV w v us) (hb : Below w.heap.size w w') : SlV w' v us := by
  rcases h with h | ⟨b, o, cap, rfl, hc⟩
  · exact .inl h
  · refine .inr ⟨b, o, cap, rfl, fun i u hu => ?_⟩
    have h1 := hc i u hu
    rw [hb.cell (p := ⟨b, o + i, none⟩) (World.block_lt_of_cell? w _ h1)]
    exact h1
theorem SlV.belowN {w w' : World} {v : Value} {us : List Value} {N : Nat} (h : SlV w v us) (hb : Below N w w') (hN : w.heap.size ≤ N) : SlV w' v us := h.below (hb.mono hN)
theorem SlV.of_owns {w : World} {base : Nat} {e : TypeId} {v : Value} {n : Nat} {us : List Value} (h : w.ownsRow base e 1 v n us) : SlV w v us := by
  have hl : us.length = n := by rw [h.1, Nat.mul_one]
  rcases h.2 with ⟨rfl, rfl⟩ | ⟨g, cap, cur, rfl, _, _⟩
  · exact .inl ⟨List.eq_nil_of_length_eq_zero hl, none, 0, rfl⟩
  · refine .inr ⟨g, 0, cap, by rw [hl], fun i u hu => ?_⟩
    have := h.cells (g := g) rfl i u hu
    rw [Addr.add_lit, Nat.zero_add] at this
    rw [Nat.zero_add]; exact this
/-- as a walk wants it: nothing, or at least one -/
theorem SlV.cases {w : World} {v : Value} {us : List Value} (h : SlV w v us) :
    (us = [] ∧ ∃ ao cap, v = .slice ao 0 cap) ∨ ∃ b o cap, v = .slice (some ⟨b, o, none⟩) us.length cap ∧ 0 < us.length ∧ ∀ i u, us[i]? = some u → w.cell? ⟨b, o + i, none⟩ = some u := by
  rcases h with h | ⟨b, o, cap, rfl, hc⟩
  · exact .inl h
  · rcases Nat.eq_zero_or_pos us.length with h0 | h0
    · have : us = [] := List.eq_nil_of_length_eq_zero h0
      subst this
      exact .inl ⟨rfl, _, _, rfl⟩
    · exact .inr ⟨b, o, cap, rfl, h0, hc⟩
theorem owns_below {w w' : World} {base : Nat} {e : TypeId} {sz : Nat} {v : Value} {n : Nat} {us : List Value} (h : w.ownsRow base e sz v n us) (hb : Below w.heap.size w w') : w'.ownsRow base e sz v n us := by
  refine ⟨h.1, ?_⟩
  rcases h.2 with h2 | ⟨g, cap, cur, hv, hg, hh, r⟩
  · exact .inl h2
  · exact .inr ⟨g, cap, cur, hv, hg, by rw [hb.block g (Array.getElem?_eq_some_iff.1 hh).1]; exact hh, r⟩
theorem owns_mono {w : World} {base base' : Nat} {e : TypeId} {sz : Nat} {v : Value} {n : Nat} {us : List Value} (h : w.ownsRow base e sz v n us) (hb : base' ≤ base) : w.ownsRow base' e sz v n us := by
  refine ⟨h.1, ?_⟩
  rcases h.2 with h2 | ⟨g, cap, cur, hv, hg, hh, r⟩
  · exact .inl h2
  · exact .inr ⟨g, cap, cur, hv, by omega, hh, r⟩
/-- a call that hands back a new slice -/
def RetSl (e : TypeId) (us : List Value) (w : World) (en : Ending) (w' : World) : Prop :=
  ∃ v, en = .returned v ∧ w'.ownsRow w.heap.size e 1 v us.length us ∧ Below w.heap.size w w'
end Go.Proofs.YthiahpkodnfdcaaDoor
