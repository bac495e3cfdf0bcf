/- Plain laws of chapter 43's tables: an item's parts of columns, their sums, ranks and pairs. No program. No condition. -/
import Derived.Test.YtodflmngbkiemaaL38d
import Derived.Test.YtodflmngbkiemaaSlOpen
namespace Go.Proofs.Ytodflmngbkiemaa
open Go.RowKit
/-- ints as values -/
def ints (ls : List Int) : List Value := ls.map fun a => .int .i64 a
theorem ints_length (ls : List Int) : (ints ls).length = ls.length := by simp [ints]
theorem ints_get (ls : List Int) (i : Nat) (h : i < ls.length) : (ints ls)[i]? = some (.int .i64 ls[i]) := by simp [ints, h]
def bools (ds : List Bool) : List Value := ds.map fun d => .bool d
theorem bools_length (ds : List Bool) : (bools ds).length = ds.length := by simp [bools]
theorem bools_get (ds : List Bool) (i : Nat) (h : i < ds.length) : (bools ds)[i]? = some (.bool ds[i]) := by simp [bools, h]
theorem slV_pos {w : World} {v : Value} {us : List Value} (h : SlV w v us) (hp : 0 < us.length) : ∃ b o cap, v = .slice (some ⟨b, o, none⟩) us.length cap ∧ ∀ i u, us[i]? = some u → w.cell? ⟨b, o + i, none⟩ = some u := by
  rcases h with ⟨rfl, _⟩ | h
  · simp at hp
  · exact h
theorem first_orI (f : Int → Bool) (xs : List Int) : (∀ i, (hi : i < xs.length) → f xs[i] = false) ∨ ∃ j, ∃ hj : j < xs.length, f xs[j] = true ∧ ∀ i, (hi : i < j) → f (xs[i]'(by omega)) = false := by
  induction xs with
  | nil => exact .inl fun i hi => absurd hi (by simp)
  | cons x xs ih =>
    by_cases h : f x = true
    · exact .inr ⟨0, by simp, h, fun i hi => absurd hi (by omega)⟩
    · rcases ih with ih | ⟨j, hj, h1, h2⟩
      · refine .inl fun i hi => ?_
        rcases i with _ | i
        · simpa using h
        · simpa using ih i (by simpa using hi)
      · refine .inr ⟨j + 1, by simpa using hj, by simpa using h1, fun i hi => ?_⟩
        rcases i with _ | i
        · simpa using h
        · simpa using h2 i (by omega)
/-- the number of what is wrong with a table -/
def errT (T : BitVec 64) (bs : List (BitVec 64)) (ls : List Int) : Int :=
  if bs.length < 1 ∨ 256 < bs.length ∨ bs.length ≠ ls.length then 5
  else if T = 0#64 then 8
  else if 1099511627776 < T.toNat then 9
  else if ∃ i, ∃ h : i < bs.length, T.toNat < bs[i].toNat then 9
  else if ∃ i, ∃ h : i < ls.length, ls[i] < 0 ∨ (bs.length : Int) ≤ ls[i] then 2
  else 0
/-- a table that may be -/
structure OkT (T : BitVec 64) (bs : List (BitVec 64)) (ls : List Int) : Prop where
  n1 : 1 ≤ bs.length
  n2 : bs.length ≤ 256
  na : ls.length = bs.length
  t0 : T ≠ 0#64
  t1 : T.toNat ≤ 1099511627776
  hb : ∀ i, (h : i < bs.length) → bs[i].toNat ≤ T.toNat
  ha : ∀ i, (h : i < ls.length) → 0 ≤ ls[i] ∧ ls[i] < (bs.length : Int)
theorem errT_form {T : BitVec 64} {bs : List (BitVec 64)} {ls : List Int} (h : bs.length < 1 ∨ 256 < bs.length ∨ bs.length ≠ ls.length) : errT T bs ls = 5 := by
  unfold errT; rw [if_pos h]
theorem errT_zero {T : BitVec 64} {bs : List (BitVec 64)} {ls : List Int} (h : ¬ (bs.length < 1 ∨ 256 < bs.length ∨ bs.length ≠ ls.length)) (h0 : T = 0#64) : errT T bs ls = 8 := by
  unfold errT; rw [if_neg h, if_pos h0]
theorem errT_over {T : BitVec 64} {bs : List (BitVec 64)} {ls : List Int} (h : ¬ (bs.length < 1 ∨ 256 < bs.length ∨ bs.length ≠ ls.length)) (h0 : T ≠ 0#64) (h1 : 1099511627776 < T.toNat) : errT T bs ls = 9 := by
  unfold errT; rw [if_neg h, if_neg h0, if_pos h1]
theorem errT_below {T : BitVec 64} {bs : List (BitVec 64)} {ls : List Int} (h : ¬ (bs.length < 1 ∨ 256 < bs.length ∨ bs.length ≠ ls.length)) (h0 : T ≠ 0#64) (h1 : ¬ 1099511627776 < T.toNat) (j : Nat) (hj : j < bs.length) (h2 : T.toNat < bs[j].toNat) : errT T bs ls = 9 := by
  unfold errT; rw [if_neg h, if_neg h0, if_neg h1, if_pos ⟨j, hj, h2⟩]
theorem errT_alias {T : BitVec 64} {bs : List (BitVec 64)} {ls : List Int} (h : ¬ (bs.length < 1 ∨ 256 < bs.length ∨ bs.length ≠ ls.length)) (h0 : T ≠ 0#64) (h1 : ¬ 1099511627776 < T.toNat) (h2 : ∀ i, (hi : i < bs.length) → ¬ T.toNat < bs[i].toNat) (j : Nat) (hj : j < ls.length) (h3 : ls[j] < 0 ∨ (bs.length : Int) ≤ ls[j]) : errT T bs ls = 2 := by
  unfold errT; rw [if_neg h, if_neg h0, if_neg h1, if_neg (by rintro ⟨i, hi, x⟩; exact h2 i hi x), if_pos ⟨j, hj, h3⟩]
theorem errT_fine {T : BitVec 64} {bs : List (BitVec 64)} {ls : List Int} (h : ¬ (bs.length < 1 ∨ 256 < bs.length ∨ bs.length ≠ ls.length)) (h0 : T ≠ 0#64) (h1 : ¬ 1099511627776 < T.toNat) (h2 : ∀ i, (hi : i < bs.length) → ¬ T.toNat < bs[i].toNat) (h3 : ∀ i, (hi : i < ls.length) → ¬ (ls[i] < 0 ∨ (bs.length : Int) ≤ ls[i])) : errT T bs ls = 0 ∧ OkT T bs ls := by
  refine ⟨?_, by omega, by omega, by omega, h0, by omega, fun i hi => by have := h2 i hi; omega, fun i hi => by have := h3 i hi; omega⟩
  unfold errT; rw [if_neg h, if_neg h0, if_neg h1, if_neg (by rintro ⟨i, hi, x⟩; exact h2 i hi x), if_neg (by rintro ⟨i, hi, x⟩; exact h3 i hi x)]
theorem OkT.err {T : BitVec 64} {bs : List (BitVec 64)} {ls : List Int} (h : OkT T bs ls) : errT T bs ls = 0 := by
  have := h.n1; have := h.n2; have := h.na; have := h.t1
  refine (errT_fine (by omega) h.t0 (by omega) (fun i hi => ?_) (fun i hi => ?_)).1
  · have := h.hb i hi; omega
  · have := h.ha i hi; omega
theorem okT_of {T : BitVec 64} {bs : List (BitVec 64)} {ls : List Int} (h : errT T bs ls = 0) : OkT T bs ls := by
  unfold errT at h
  split at h
  · exact absurd h (by decide)
  · split at h
    · exact absurd h (by decide)
    · split at h
      · exact absurd h (by decide)
      · split at h
        · exact absurd h (by decide)
        · split at h
          · exact absurd h (by decide)
          · rename_i h1 h2 h3 h4 h5
            exact (errT_fine h1 h2 h3 (fun i hi x => h4 ⟨i, hi, x⟩) (fun i hi x => h5 ⟨i, hi, x⟩)).2
theorem errT_cases (T : BitVec 64) (bs : List (BitVec 64)) (ls : List Int) : errT T bs ls = 0 ∨ errT T bs ls = 2 ∨ errT T bs ls = 5 ∨ errT T bs ls = 8 ∨ errT T bs ls = 9 := by
  unfold errT
  repeat' split
  all_goals simp
end Go.Proofs.Ytodflmngbkiemaa
