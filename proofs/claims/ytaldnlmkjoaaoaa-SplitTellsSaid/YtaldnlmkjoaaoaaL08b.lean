/- The walk of chapter 8's statement SplitTells: it returns true. No condition. -/
import Derived.Test.YtaldnlmkjoaaoaaW6
namespace Go.Proofs.Ytaldnlmkjoaaoaa
open Go.RowKit
theorem gamma_lit : gamma = 11400714819323198485#64 := by decide +kernel
theorem gamma_add (s : BitVec 64) : s + gamma = s + 11400714819323198485#64 := by rw [gamma_lit]
theorem out_one (s : BitVec 64) : splitB (s + 1#64 * gamma) = splitB (s + 11400714819323198485#64) := by
  rw [show 1#64 * gamma = gamma from BitVec.one_mul _, gamma_lit]
theorem sub_lit (s : BitVec 64) : s + 11400714819323198485#64 - gamma = s := by rw [gamma_lit, BitVec.add_sub_cancel]
theorem tells08_walk (s : BitVec 64) (k : Int) (_h1 : -9223372036854775808 ≤ k) (_h2 : k ≤ 9223372036854775807) (w : World) :
    Calls Try.prog 7 #[.int .u64 (ui s), .int .i64 k] w fun e w' => e = .returned (.bool true) ∧ Below w.heap.size w w' := by
  by_cases c1 : k ≤ 300
  · have c1' : ¬ 300 < k := by omega
    go_enter Try.func7, Try.ntmps7
    go_wp2_with fail
    refine (awake08_any _).mono ?_
    rintro e w1 ⟨rfl, b1⟩
    have B1 := b1
    go_wp2_with fail
    refine (snext_any _ _).mono ?_
    rintro e w2 ⟨rfl, b2⟩
    have B2 := B1.trans (b2.mono B1.size)
    rw [gamma_add]
    go_wp2_with fail
    refine (sout_lit _ 1 1#64 rfl _).mono ?_
    rintro e w' ⟨rfl, rfl⟩
    rw [out_one]
    go_wp2_with fail
    refine (sback_any _ _).mono ?_
    rintro e w' ⟨rfl, rfl⟩
    rw [sub_lit]
    go_wp2_with fail
    refine (swords_any _ _ _).mono ?_
    rintro e w3 ⟨v3, rfl, o3, b3⟩
    have s3 := SlV.of_owns o3
    have B3 := B2.trans (b3.mono B2.size)
    go_wp2_with fail
    refine (refwords_any _ _ _).mono ?_
    rintro e w4 ⟨v4, rfl, o4, b4⟩
    have s4 := SlV.of_owns o4
    have B4 := B3.trans (b4.mono B3.size)
    go_wp2_with fail
    refine (words_any _ _ _ _ _ (s3.below b4) s4 (by rw [outs_length]; omega) (by rw [outs_length]; omega)).mono ?_
    rintro e w5 ⟨rfl, b5⟩
    have B5 := B4.trans (b5.mono B4.size)
    go_wp2
    go_ret
    exact ⟨ret_bool (by simp), B5⟩
  · by_cases c2 : k < 4096
    · go_enter Try.func7, Try.ntmps7
      go_wp2_with fail
      refine (awake08_any _).mono ?_
      rintro e w1 ⟨rfl, b1⟩
      go_wp2
      go_ret
      exact ⟨rfl, b1⟩
    · go_enter Try.func7, Try.ntmps7
      go_wp2_with fail
      refine (awake08_any _).mono ?_
      rintro e w1 ⟨rfl, b1⟩
      have B1 := b1
      go_wp2_with fail
      refine (snext_any _ _).mono ?_
      rintro e w2 ⟨rfl, b2⟩
      have B2 := B1.trans (b2.mono B1.size)
      rw [gamma_add]
      go_wp2_with fail
      refine (sout_lit _ 1 1#64 rfl _).mono ?_
      rintro e w' ⟨rfl, rfl⟩
      rw [out_one]
      go_wp2_with fail
      refine (sback_any _ _).mono ?_
      rintro e w' ⟨rfl, rfl⟩
      rw [sub_lit]
      go_wp2
      go_ret
      exact ⟨rfl, B2⟩
end Go.Proofs.Ytaldnlmkjoaaoaa
