/- The walks of chapter 13's statements Pcg32Seeds, Pcg32Advances, Pcg32Period: each returns true. No condition. -/
import Derived.Test.YtaldnlmkjoaaoaaW2
namespace Go.Proofs.Ytaldnlmkjoaaoaa
open Go.RowKit

theorem awake13_out : (outB (stepB (stepB 0#64 109#64 + 42#64) 109#64) == 2707161783#32) = true := by decide +kernel
theorem pseed_int (a b : Int) (s t : BitVec 64) (ha : a = ui s) (hb : b = ui t) (w : World) :
    Calls Try.prog 14 #[.int .u64 a, .int .u64 b] w fun e w' => e = .returned (.tuple #[.int .u64 (ui (stepB (stepB 0#64 (2#64 * t + 1#64) + s) (2#64 * t + 1#64))), .int .u64 (ui (2#64 * t + 1#64))]) ∧ w = w' := by
  subst ha; subst hb; exact pseed_any s t w
theorem awake13_any (w : World) :
    Calls Try.prog 13 #[] w fun e w' => e = .returned (.bool true) ∧ w = w' := by
  have h := awake13_out
  go_enter Try.func13, Try.ntmps13
  go_wp2_with fail
  refine (pseed_int _ _ 42#64 54#64 (by decide +kernel) (by decide +kernel) _).mono ?_
  rintro e w' ⟨rfl, rfl⟩
  go_wp2_with fail
  refine (pout_any _ _).mono ?_
  rintro e w' ⟨rfl, rfl⟩
  go_wp2
  go_ret
  exact ⟨rfl, rfl⟩
theorem seeds_eq (s t : BitVec 64) : stepB (stepB 0#64 (2#64 * t + 1#64) + s) (2#64 * t + 1#64) = stepB (2#64 * t + 1#64 + s) (2#64 * t + 1#64) := by
  have h : stepB 0#64 (2#64 * t + 1#64) = 2#64 * t + 1#64 := by
    unfold stepB
    have : (0#64) * timesC = 0#64 := BitVec.zero_mul
    rw [this, BitVec.zero_add]
    refine (refstep_same _ ?_).symm
    have : (2#64 * t + 1#64) % 2#64 ≠ 0#64 := by
      intro h0
      have := congrArg BitVec.toNat h0
      simp at this
    simpa using this
  rw [h]
theorem seeds_walk (s t : BitVec 64) (w : World) :
    Calls Try.prog 3 #[.int .u64 (ui s), .int .u64 (ui t)] w fun e w' => e = .returned (.bool true) ∧ Below w.heap.size w w' := by
  have h := seeds_eq s t
  go_enter Try.func3, Try.ntmps3
  go_wp2_with fail
  refine (awake13_any _).mono ?_
  rintro e w' ⟨rfl, rfl⟩
  go_wp2_with fail
  refine (pseed_any _ _ _).mono ?_
  rintro e w' ⟨rfl, rfl⟩
  go_wp2_with fail
  refine (refstep_any _ _ _).mono ?_
  rintro e w' ⟨rfl, rfl⟩
  go_wp2
  go_ret
  exact ⟨rfl, Below.refl _ _⟩
theorem padvance_one (s inc : BitVec 64) (w : World) :
    Calls Try.prog 16 #[.int .u64 (ui s), .int .u64 (ui inc), .int .u64 1] w fun e w' => e = .returned (.int .u64 (ui (stepB s inc))) ∧ Below w.heap.size w w' := by
  have h := padvance_any s inc 1#64 w
  rw [show ui 1#64 = 1 from rfl, show advB s inc 1#64 = stepB s inc from rfl] at h
  exact h
theorem itr_ui (s inc n : BitVec 64) : itr (stepB · inc) (ui n).toNat s = advB s inc n := by
  rw [show (ui n).toNat = n.toNat from Int.toNat_natCast _]; rfl
theorem advances_walk (s inc n m : BitVec 64) (w : World) :
    Calls Try.prog 4 #[.int .u64 (ui s), .int .u64 (ui inc), .int .u64 (ui n), .int .u64 (ui m)] w fun e w' => e = .returned (.bool true) ∧ Below w.heap.size w w' := by
  have h1 := Lib.hid (advB_add s inc n m)
  go_enter Try.func4, Try.ntmps4
  go_wp2_with fail
  refine (awake13_any _).mono ?_
  rintro e w' ⟨rfl, rfl⟩
  go_wp2_with fail
  refine (padvance_any _ _ _ _).mono ?_
  rintro e w1 ⟨rfl, b1⟩
  go_wp2_with fail
  refine (padvance_any _ _ _ _).mono ?_
  rintro e w2 ⟨rfl, b2⟩
  rw [h1.out]
  go_wp2_with fail
  refine (padvance_any _ _ _ _).mono ?_
  rintro e w3 ⟨rfl, b3⟩
  go_wp2_with fail
  refine (padvance_one _ _ _).mono ?_
  rintro e w4 ⟨rfl, b4⟩
  go_wp2_with fail
  refine (refstep_any _ _ _).mono ?_
  rintro e w5 ⟨rfl, rfl⟩
  have hb : Below w.heap.size w w4 := ((b1.trans (b2.mono b1.size)).trans (b3.mono (Nat.le_trans b1.size b2.size))).trans (b4.mono (Nat.le_trans (Nat.le_trans b1.size b2.size) b3.size))
  by_cases hn : 500 < ui n
  · go_wp2
    go_ret
    exact ⟨rfl, hb⟩
  · have hn' : ui n ≤ 500 := by omega
    have hbn := ui_nonneg n
    go_wp2_with fail
    refine (padvance_any _ _ _ _).mono ?_
    rintro e w6 ⟨rfl, b6⟩
    go_wp2_with fail
    refine (refsteps_any _ _ _ (by omega) _).mono ?_
    rintro e w7 ⟨rfl, rfl⟩
    rw [itr_ui]
    go_wp2
    go_ret
    exact ⟨rfl, hb.trans (b6.mono hb.size)⟩
/-- of Steps' answer nothing is used but that it leads there; there is just one such number -/
theorem someN_eq (s inc n m : BitVec 64) (h : advB s inc m = advB s inc n) : m = n := advB_inj s inc m n h
theorem period_zero (s inc n : BitVec 64) : (advB s inc n == s) = (n == 0#64) := by
  rw [Bool.eq_iff_iff, beq_iff_eq, beq_iff_eq]
  constructor
  · intro h; exact advB_inj s inc n 0#64 (h.trans (advB_zero s inc).symm)
  · rintro rfl; exact advB_zero s inc
theorem period_walk (s t inc n : BitVec 64) (w : World) :
    Calls Try.prog 10 #[.int .u64 (ui s), .int .u64 (ui t), .int .u64 (ui inc), .int .u64 (ui n)] w fun e w' => e = .returned (.bool true) ∧ Below w.heap.size w w' := by
  go_enter Try.func10, Try.ntmps10
  go_wp2_with fail
  refine (awake13_any _).mono ?_
  rintro e w' ⟨rfl, rfl⟩
  go_wp2_with fail
  refine (psteps_any _ _ _ _).mono ?_
  rintro e w1 ⟨k, rfl, hk, b1⟩
  have HK := Lib.hid hk
  clear hk
  go_wp2_with fail
  refine (padvance_any _ _ _ _).mono ?_
  rintro e w2 ⟨rfl, b2⟩
  rw [HK.out]
  go_wp2_with fail
  refine (padvance_any _ _ _ _).mono ?_
  rintro e w3 ⟨rfl, b3⟩
  go_wp2_with fail
  refine (psteps_any _ _ _ _).mono ?_
  rintro e w4 ⟨k2, rfl, hk2, b4⟩
  obtain rfl := someN_eq _ _ _ _ hk2
  clear hk2
  go_wp2_with fail
  refine (padvance_any _ _ _ _).mono ?_
  rintro e w5 ⟨rfl, b5⟩
  have hz := period_zero s inc k2
  have hb : Below w.heap.size w w5 := (((b1.trans (b2.mono b1.size)).trans (b3.mono (Nat.le_trans b1.size b2.size))).trans (b4.mono (Nat.le_trans (Nat.le_trans b1.size b2.size) b3.size))).trans (b5.mono (Nat.le_trans (Nat.le_trans (Nat.le_trans b1.size b2.size) b3.size) b4.size))
  go_wp2
  go_ret
  exact ⟨rfl, hb⟩
end Go.Proofs.Ytaldnlmkjoaaoaa
