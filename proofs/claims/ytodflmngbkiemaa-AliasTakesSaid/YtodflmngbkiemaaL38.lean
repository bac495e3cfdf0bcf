/- Chapter 38's laws: what wakes them, and the first. No condition but its own. -/
import Derived.Test.YtodflmngbkiemaaW38e
namespace Go.Proofs.Ytodflmngbkiemaa
open Go.RowKit
theorem ui_lt_iff (x y : BitVec 64) : ui x < ui y ↔ x.toNat < y.toNat := by unfold ui; omega
theorem first_or (f : BitVec 64 → Bool) (xs : List (BitVec 64)) : (∀ i, (hi : i < xs.length) → f xs[i] = false) ∨ ∃ j, ∃ hj : j < xs.length, f xs[j] = true ∧ ∀ i, (hi : i < j) → f (xs[i]'(by omega)) = false := by
  induction xs with
  | nil => exact .inl fun i hi => absurd hi (by simp)
  | cons x xs ih =>
    by_cases h : f x = true
    · exact .inr ⟨0, by simp, h, fun i hi => absurd hi (by omega)⟩
    · rcases ih with ih | ⟨j, hj, h1, h2⟩
      · refine .inl fun i hi => ?_
        rcases i with _ | i
        · simpa using h
        · simpa using ih i (by simpa using hi)
      · refine .inr ⟨j + 1, by simpa using hj, by simpa using h1, fun i hi => ?_⟩
        rcases i with _ | i
        · simpa using h
        · simpa using h2 i (by omega)
theorem two_words (w : World) (a b : BitVec 64) : SlV (w.alloc (.cells #[.int .u64 (ui a), .int .u64 (ui b)] 24)) (.slice (some ⟨w.heap.size, 0, none⟩) 2 2) (vals [a, b]) := by
  refine .inr ⟨_, _, _, rfl, ?_⟩
  intro i u hu
  rcases i with _ | _ | i
  · simp [vals] at hu; subst hu; simp
  · simp [vals] at hu; subst hu; simp
  · simp [vals] at hu
theorem loss_10 (w : World) : Calls Try.prog 29 #[.int .u64 10] w fun e w' => e = .returned (.int .u64 6) ∧ w = w' := by
  have h := loss_any 10#64 w
  rw [show lossW 10#64 = 6#64 from by decide +kernel] at h
  exact h
theorem awake38_any (w : World) : Calls Try.prog 28 #[] w fun e w' => e = .returned (.bool true) ∧ Below w.heap.size w w' := by
  have hx : SlV (w.alloc (.cells #[.int .u64 9223372036854775808, .int .u64 9223372036854775809] 24)) (.slice (some ⟨w.heap.size, 0, none⟩) 2 2) (vals [9223372036854775808#64, 9223372036854775809#64]) := two_words w 9223372036854775808#64 9223372036854775809#64
  have HX := Lib.hid hx
  clear hx
  go_enter Try.func28, Try.ntmps28
  go_wp2_with fail
  refine (new_any _ [9223372036854775808#64, 9223372036854775809#64] (by decide) _ HX.out).mono ?_
  rintro e w1 ⟨B, wv, rfl, hT, hBw, hb⟩
  have hb1 : Below w.heap.size w w1 := ((Below.refl _ _).alloc (Nat.le_refl _) _).trans (hb.mono (by simp))
  have hBw1 : w.heap.size ≤ B := by simp at hBw; omega
  have ht := take_found B [9223372036854775808#64, 9223372036854775809#64] 0 1 wv _ 10#64 (by decide) w1 hT (by omega) (by decide) (by decide +kernel) (by
    intro i _ hi
    obtain rfl : i = 0 := by omega
    exact show takesL 9223372036854775808#64 10#64 = false from by decide +kernel)
  have e1 : mulHi ([9223372036854775808#64, 9223372036854775809#64][1]'(by decide)) 10#64 = 5#64 := by decide +kernel
  rw [e1] at ht
  generalize rankL ([9223372036854775808#64, 9223372036854775809#64][1]'(by decide)) 10#64 = rk at *
  have HT := Lib.hid ht
  clear ht e1 hT hb hBw
  go_wp2_with fail
  refine HT.out.mono ?_
  rintro e w2 ⟨tv', rfl, hT2, b2⟩
  have hb2 := hb1.trans (b2.mono hBw1)
  have q4 : (ui 5#64 == 5) = true := rfl
  clear hT2 b2 hb1
  go_wp2_with fail
  refine (loss_10 _).mono ?_
  rintro e w' ⟨rfl, rfl⟩
  go_wp2_with fail
  go_ret
  exact ⟨rfl, hb2.alloc hb2.size _⟩
theorem half_walk (n : BitVec 64) (w : World) : Calls Try.prog 7 #[.int .u64 (ui n)] w fun e w' => e = .returned (.bool true) ∧ Below w.heap.size w w' := by
  by_cases h0 : n = 0#64
  · subst h0
    have h00 : (ui 0#64 == 0) = true := rfl
    go_enter Try.func7, Try.ntmps7
    go_wp2_with fail
    refine (awake38_any _).mono ?_
    rintro e w1 ⟨rfl, b1⟩
    go_wp2_with fail
    go_ret
    exact ⟨rfl, b1⟩
  · have hz : (n == 0#64) = false := by simpa using h0
    have hp := pos_of_ne hz
    have hh := loss_half n.toNat hp n.isLt
    rw [← M64, ← loss_nat n hp] at hh
    have h1 : ui (lossW n) < ui n := by rw [ui_lt_iff]; exact hh.1
    have h2 : ui (lossW n) < 9223372036854775808 := by rw [ui_def]; have := hh.2; omega
    clear hh
    go_enter Try.func7, Try.ntmps7
    go_wp2_with fail
    refine (awake38_any _).mono ?_
    rintro e w1 ⟨rfl, b1⟩
    go_wp2_with fail
    refine (loss_any _ _).mono ?_
    rintro e w' ⟨rfl, rfl⟩
    go_wp2_with fail
    refine (loss_any _ _).mono ?_
    rintro e w' ⟨rfl, rfl⟩
    go_wp2_with fail
    go_ret
    exact ⟨rfl, b1⟩
end Go.Proofs.Ytodflmngbkiemaa
