/- The walks of chapter 7's statements MixMakes, MixApart, MixBack: each returns true. No condition. -/
import Derived.Test.YtaldnlmkjoaaoaaW4
namespace Go.Proofs.Ytaldnlmkjoaaoaa
open Go.RowKit

theorem fold_int (n : Int) (z : BitVec 64) (hn : n = ui z) (k : Int) (w : World) :
    Calls Try.prog 19 #[.int .u64 n, .int .i64 k] w fun e w' => e = .returned (.int .u64 (ui (foldB z (min (max k 1) 63).toNat))) ∧ w = w' := by
  subst hn; exact fold_any z k w
theorem fmix32_int (n : Int) (h : BitVec 32) (hn : n = uw h) (w : World) :
    Calls Try.prog 25 #[.int .u32 n] w fun e w' => e = .returned (.int .u32 (uw (fmix32 h))) ∧ w = w' := by
  subst hn; exact fmix32_any h w
theorem mixSplit_int (n : Int) (z : BitVec 64) (hn : n = ui z) (w : World) :
    Calls Try.prog 21 #[.int .u64 n] w fun e w' => e = .returned (.int .u64 (ui (splitB z))) ∧ Below w.heap.size w w' := by
  subst hn; exact mixSplit_any z w
theorem awake07_any (w : World) :
    Calls Try.prog 18 #[] w fun e w' => e = .returned (.bool true) ∧ Below w.heap.size w w' := by
  have h1 : (fmix32 1#32 == 1364076727#32) = true := by decide +kernel
  have h2 : (foldB 2#64 1 == 3#64) = true := by decide +kernel
  have h3 : (splitB 0#64 == 0#64) = true := by decide +kernel
  go_enter Try.func18, Try.ntmps18
  go_wp2_with fail
  refine (fmix32_int _ 1#32 rfl _).mono ?_
  rintro e w' ⟨rfl, rfl⟩
  go_wp2_with fail
  refine (fold_int _ 2#64 rfl _ _).mono ?_
  rintro e w' ⟨rfl, rfl⟩
  go_wp2_with fail
  refine (mixSplit_int _ 0#64 rfl _).mono ?_
  rintro e w1 ⟨rfl, b1⟩
  go_wp2
  go_ret
  exact ⟨rfl, b1⟩
theorem makes_walk (z : BitVec 64) (h : BitVec 32) (n : Int) (_h1 : -9223372036854775808 ≤ n) (_h2 : n ≤ 9223372036854775807) (w : World) :
    Calls Try.prog 5 #[.int .u64 (ui z), .int .u32 (uw h), .int .i64 n] w fun e w' => e = .returned (.bool true) ∧ Below w.heap.size w w' := by
  clear _h1 _h2
  go_enter Try.func5, Try.ntmps5
  go_wp2_with fail
  refine (awake07_any _).mono ?_
  rintro e w1 ⟨rfl, b1⟩
  go_wp2_with fail
  refine (fold_any _ _ _).mono ?_
  rintro e w' ⟨rfl, rfl⟩
  go_wp2_with fail
  refine (reffold_any _ _ _).mono ?_
  rintro e w' ⟨rfl, rfl⟩
  rw [show (min (max n 1) 63).toNat = cut63 n from rfl]
  go_wp2_with fail
  refine (mixSplit_any _ _).mono ?_
  rintro e w2 ⟨rfl, b2⟩
  go_wp2_with fail
  refine (refsplit_any _ _).mono ?_
  rintro e w' ⟨rfl, rfl⟩
  go_wp2_with fail
  refine (mixFmix_any _ _).mono ?_
  rintro e w3 ⟨rfl, b3⟩
  go_wp2_with fail
  refine (reffmix_any _ _).mono ?_
  rintro e w' ⟨rfl, rfl⟩
  go_wp2_with fail
  refine (fmix32_any _ _).mono ?_
  rintro e w' ⟨rfl, rfl⟩
  go_wp2_with fail
  refine (reffmix32_any _ _).mono ?_
  rintro e w' ⟨rfl, rfl⟩
  go_wp2
  go_ret
  exact ⟨rfl, (b1.trans (b2.mono b1.size)).trans (b3.mono (Nat.le_trans b1.size b2.size))⟩
theorem split_beq (x y : BitVec 64) : (splitB x == splitB y) = (x == y) := by
  rw [Bool.eq_iff_iff, beq_iff_eq, beq_iff_eq]; exact split_inj
theorem fmix_beq (x y : BitVec 64) : (fmixB x == fmixB y) = (x == y) := by
  rw [Bool.eq_iff_iff, beq_iff_eq, beq_iff_eq]; exact fmix_inj
theorem fmix32_beq (x y : BitVec 32) : (fmix32 x == fmix32 y) = (x == y) := by
  rw [Bool.eq_iff_iff, beq_iff_eq, beq_iff_eq]; exact fmix32_inj
theorem apart_walk (z y : BitVec 64) (h g : BitVec 32) (w : World) :
    Calls Try.prog 6 #[.int .u64 (ui z), .int .u64 (ui y), .int .u32 (uw h), .int .u32 (uw g)] w fun e w' => e = .returned (.bool true) ∧ Below w.heap.size w w' := by
  have e1 := split_beq z y
  have e2 := fmix_beq z y
  have e3 := fmix32_beq h g
  go_enter Try.func6, Try.ntmps6
  go_wp2_with fail
  refine (awake07_any _).mono ?_
  rintro e w1 ⟨rfl, b1⟩
  go_wp2_with fail
  refine (mixSplit_any _ _).mono ?_
  rintro e w2 ⟨rfl, b2⟩
  go_wp2_with fail
  refine (mixSplit_any _ _).mono ?_
  rintro e w3 ⟨rfl, b3⟩
  go_wp2_with fail
  refine (mixFmix_any _ _).mono ?_
  rintro e w4 ⟨rfl, b4⟩
  go_wp2_with fail
  refine (mixFmix_any _ _).mono ?_
  rintro e w5 ⟨rfl, b5⟩
  go_wp2_with fail
  refine (fmix32_any _ _).mono ?_
  rintro e w' ⟨rfl, rfl⟩
  go_wp2_with fail
  refine (fmix32_any _ _).mono ?_
  rintro e w' ⟨rfl, rfl⟩
  go_wp2
  go_ret
  exact ⟨rfl, (((b1.trans (b2.mono b1.size)).trans (b3.mono (Nat.le_trans b1.size b2.size))).trans (b4.mono (Nat.le_trans (Nat.le_trans b1.size b2.size) b3.size))).trans (b5.mono (Nat.le_trans (Nat.le_trans (Nat.le_trans b1.size b2.size) b3.size) b4.size))⟩
theorem back_walk (z : BitVec 64) (h : BitVec 32) (n : Int) (_h1 : -9223372036854775808 ≤ n) (_h2 : n ≤ 9223372036854775807) (w : World) :
    Calls Try.prog 12 #[.int .u64 (ui z), .int .u32 (uw h), .int .i64 n] w fun e w' => e = .returned (.bool true) ∧ Below w.heap.size w w' := by
  clear _h1 _h2
  have u1 := Lib.hid (unfoldB_foldB z (cut63 n) (cut63_pos n))
  have u2 := Lib.hid (foldB_unfoldB z (cut63 n) (cut63_pos n))
  unfold cut63 at u1
  have e0 : (min (max n 1) 63).toNat = cut63 n := rfl
  rw [show cut63 n = (min (max n 1) 63).toNat from rfl] at u2
  clear e0
  go_enter Try.func12, Try.ntmps12
  go_wp2_with fail
  refine (awake07_any _).mono ?_
  rintro e w1 ⟨rfl, b1⟩
  have B1 := b1
  go_wp2_with fail
  refine (fold_any _ _ _).mono ?_
  rintro e w' ⟨rfl, rfl⟩
  go_wp2_with fail
  refine (unfold_any _ _ _).mono ?_
  rintro e w' ⟨rfl, rfl⟩
  rw [u1.out]
  go_wp2_with fail
  refine (mixSplit_any _ _).mono ?_
  rintro e w2 ⟨rfl, b2⟩
  have B2 := B1.trans (b2.mono B1.size)
  go_wp2_with fail
  refine (unsplit_any _ _).mono ?_
  rintro e w3 ⟨rfl, b3⟩
  have B3 := B2.trans (b3.mono B2.size)
  rw [unsplit_split]
  go_wp2_with fail
  refine (mixFmix_any _ _).mono ?_
  rintro e w4 ⟨rfl, b4⟩
  have B4 := B3.trans (b4.mono B3.size)
  go_wp2_with fail
  refine (unfmix_any _ _).mono ?_
  rintro e w5 ⟨rfl, b5⟩
  have B5 := B4.trans (b5.mono B4.size)
  rw [unfmix_fmix]
  go_wp2_with fail
  refine (fmix32_any _ _).mono ?_
  rintro e w' ⟨rfl, rfl⟩
  go_wp2_with fail
  refine (unfmix32_any _ _).mono ?_
  rintro e w' ⟨rfl, rfl⟩
  rw [unfmix32_fmix32]
  go_wp2_with fail
  refine (unfold_any _ _ _).mono ?_
  rintro e w' ⟨rfl, rfl⟩
  go_wp2_with fail
  refine (reffold_any _ _ _).mono ?_
  rintro e w' ⟨rfl, rfl⟩
  rw [show cut63 n = (min (max n 1) 63).toNat from rfl, u2.out]
  go_wp2_with fail
  refine (unsplit_any _ _).mono ?_
  rintro e w6 ⟨rfl, b6⟩
  have B6 := B5.trans (b6.mono B5.size)
  go_wp2_with fail
  refine (refsplit_any _ _).mono ?_
  rintro e w' ⟨rfl, rfl⟩
  rw [split_unsplit]
  go_wp2_with fail
  refine (unfmix_any _ _).mono ?_
  rintro e w7 ⟨rfl, b7⟩
  have B7 := B6.trans (b7.mono B6.size)
  go_wp2_with fail
  refine (reffmix_any _ _).mono ?_
  rintro e w' ⟨rfl, rfl⟩
  rw [fmix_unfmix]
  go_wp2_with fail
  refine (unfmix32_any _ _).mono ?_
  rintro e w' ⟨rfl, rfl⟩
  go_wp2_with fail
  refine (reffmix32_any _ _).mono ?_
  rintro e w' ⟨rfl, rfl⟩
  rw [fmix32_unfmix32]
  go_wp2
  go_ret
  exact ⟨rfl, B7⟩
end Go.Proofs.Ytaldnlmkjoaaoaa
