/- Chapter 38's laws: what any word tells. No condition. -/
import Derived.Test.YtodflmngbkiemaaL38
namespace Go.Proofs.Ytodflmngbkiemaa
open Go.RowKit
theorem each_le (n : BitVec 64) : eachNL n ≤ 18446744073709551616 := Nat.div_le_self _ _
theorem eachLo_nat (n : BitVec 64) : (eachLoL n).toNat = eachNL n % 18446744073709551616 := by
  unfold eachLoL; rw [BitVec.toNat_ofNat]
theorem cmpE_lt (r n : BitVec 64) : cmpE r n < 0 ↔ r.toNat < eachNL n := by
  have hle := each_le n
  have hr := r.isLt
  have hlo := eachLo_nat n
  unfold cmpE cmpW
  by_cases hm : eachNL n = 18446744073709551616
  · have hhi : eachHiL n = 1#64 := by unfold eachHiL; rw [hm]
    rw [hhi, if_neg (by rintro ⟨h1, _⟩; exact absurd h1 (by decide)), if_pos (Or.inl (by decide))]
    rw [hm]
    exact ⟨fun _ => hr, fun _ => by decide⟩
  · have hhi : eachHiL n = 0#64 := by
      unfold eachHiL
      rw [Nat.div_eq_of_lt (by omega)]
    rw [Nat.mod_eq_of_lt (by omega)] at hlo
    rw [hhi]
    by_cases heq : r = eachLoL n
    · rw [if_pos ⟨rfl, heq⟩, heq, hlo]
      omega
    · rw [if_neg (fun x => heq x.2)]
      by_cases hl : ui r < ui (eachLoL n)
      · rw [if_pos (Or.inr ⟨rfl, hl⟩)]
        rw [ui_lt_iff, hlo] at hl
        exact ⟨fun _ => hl, fun _ => by decide⟩
      · rw [if_neg (by rintro (h1 | h1); exact absurd h1 (by decide); exact hl h1.2)]
        rw [ui_lt_iff, hlo] at hl
        exact ⟨fun x => absurd x (by decide), fun x => absurd x hl⟩
theorem takes0 (x : BitVec 64) : takesL x 0#64 = false := by unfold takesL; rfl
theorem first_small {v n : BitVec 64} (h : firstN 18446744073709551616 v.toNat n.toNat < 18446744073709551616) : (firstW v n).toNat = firstN 18446744073709551616 v.toNat n.toNat := by
  unfold firstW; rw [BitVec.toNat_ofNat]; exact Nat.mod_eq_of_lt h
theorem takes_ne {x n : BitVec 64} (h : takesL x n = true) : n ≠ 0#64 ∧ ui (mulHi x n) < ui n ∧ cmpE (rankL x n) n < 0 ∧ firstW (mulHi x n) n + rankL x n = x := by
  have h0 : n ≠ 0#64 := by rintro rfl; rw [takes0] at h; exact absurd h (by decide)
  have hp := pos_of_ne (n := n) (by simpa using h0)
  obtain ⟨h1, h2, h3⟩ := taken 18446744073709551616 x.toNat n.toNat hp (by decide) x.isLt ((takesL_iff x n hp).1 h)
  rw [← mulHi_nat] at h1 h2 h3
  have hx := x.isLt
  have hf := first_small (v := mulHi x n) (n := n) (by omega)
  refine ⟨h0, by rw [ui_lt_iff]; exact h1, ?_, ?_⟩
  · rw [cmpE_lt _ _]
    unfold rankL
    rw [sub_nat (by rw [hf]; exact h2), hf]
    exact h3
  · unfold rankL
    rw [BitVec.add_comm, BitVec.sub_add_cancel]
theorem word_back {v r n : BitVec 64} (h0 : n ≠ 0#64) (hv : ui v < ui n) (hr : cmpE r n < 0) : mulHi (firstW v n + r) n = v ∧ rankL (firstW v n + r) n = r ∧ takesL (firstW v n + r) n = true := by
  have hp := pos_of_ne (n := n) (by simpa using h0)
  rw [ui_lt_iff] at hv
  rw [cmpE_lt _ _] at hr
  obtain ⟨h1, h2, h3⟩ := word_of 18446744073709551616 v.toNat r.toNat n.toNat hp (by decide) hv hr
  have hf := first_small (v := v) (n := n) (by omega)
  have hs : (firstW v n + r).toNat = firstN 18446744073709551616 v.toNat n.toNat + r.toNat := by
    rw [add_nat (by rw [hf]; exact h3), hf]
  have hm : mulHi (firstW v n + r) n = v := by
    apply BitVec.eq_of_toNat_eq
    rw [mulHi_nat, hs]; exact h1
  refine ⟨hm, ?_, ?_⟩
  · unfold rankL
    rw [hm, BitVec.add_comm, BitVec.add_sub_cancel]
  · rw [takesL_iff _ _ hp, hs]; exact h2
theorem rank_zero' (x : BitVec 64) (w : World) :
    Calls Try.prog 39 #[.int .u64 (ui x), .int .u64 (ui 0#64)] w fun e w' => e = .returned (.tuple #[.int .u64 0, .int .u64 0, .int .i64 8]) ∧ w = w' := rank_zero x w
theorem word_zero' (v r : BitVec 64) (w : World) :
    Calls Try.prog 42 #[.int .u64 (ui v), .int .u64 (ui r), .int .u64 (ui 0#64)] w fun e w' => e = .returned (.tuple #[.int .u64 0, .int .i64 8]) ∧ Below w.heap.size w w' := word_zero v r w
theorem words_walk (x n : BitVec 64) (w : World) : Calls Try.prog 9 #[.int .u64 (ui x), .int .u64 (ui n)] w fun e w' => e = .returned (.bool true) ∧ Below w.heap.size w w' := by
  by_cases h0 : n = 0#64
  · subst h0
    have h00 : (ui 0#64 == 0) = true := rfl
    have ht := takes0 x
    go_enter Try.func9, Try.ntmps9
    go_wp2_with fail
    refine (awake38_any _).mono ?_
    rintro e wc1 ⟨rfl, b1⟩
    have hb1 := b1
    go_wp2_with fail
    refine (loss_any _ _).mono ?_
    rintro e w' ⟨rfl, rfl⟩
    go_wp2_with fail
    refine (refLoss_any _ _).mono ?_
    rintro e wc2 ⟨rfl, b2⟩
    have hb2 := hb1.trans (b2.mono hb1.size)
    clear hb1 b2
    go_wp2_with fail
    refine (eacha_any _ _).mono ?_
    rintro e wc3 ⟨rfl, b3⟩
    have hb3 := hb2.trans (b3.mono hb2.size)
    clear hb2 b3
    go_wp2_with fail
    refine (refeach_any _ _).mono ?_
    rintro e wc4 ⟨rfl, b4⟩
    have hb4 := hb3.trans (b4.mono hb3.size)
    clear hb3 b4
    go_wp2_with fail
    refine (takes_any _ _ _).mono ?_
    rintro e w' ⟨rfl, rfl⟩
    go_wp2_with fail
    refine (reftakes_any _ _ _).mono ?_
    rintro e wc5 ⟨rfl, b5⟩
    have hb5 := hb4.trans (b5.mono hb4.size)
    clear hb4 b5
    go_wp2_with fail
    refine (rank_zero' _ _).mono ?_
    rintro e w' ⟨rfl, rfl⟩
    go_wp2_with fail
    go_ret
    exact ⟨rfl, hb5⟩
  · have hz : (n == 0#64) = false := by simpa using h0
    by_cases ht : takesL x n = true
    · obtain ⟨_, h1, h2, _⟩ := takes_ne ht
      go_enter Try.func9, Try.ntmps9
      go_wp2_with fail
      refine (awake38_any _).mono ?_
      rintro e wc1 ⟨rfl, b1⟩
      have hb1 := b1
      go_wp2_with fail
      refine (loss_any _ _).mono ?_
      rintro e w' ⟨rfl, rfl⟩
      go_wp2_with fail
      refine (refLoss_any _ _).mono ?_
      rintro e wc2 ⟨rfl, b2⟩
      have hb2 := hb1.trans (b2.mono hb1.size)
      clear hb1 b2
      go_wp2_with fail
      refine (eacha_any _ _).mono ?_
      rintro e wc3 ⟨rfl, b3⟩
      have hb3 := hb2.trans (b3.mono hb2.size)
      clear hb2 b3
      go_wp2_with fail
      refine (refeach_any _ _).mono ?_
      rintro e wc4 ⟨rfl, b4⟩
      have hb4 := hb3.trans (b4.mono hb3.size)
      clear hb3 b4
      go_wp2_with fail
      refine (takes_any _ _ _).mono ?_
      rintro e w' ⟨rfl, rfl⟩
      go_wp2_with fail
      refine (reftakes_any _ _ _).mono ?_
      rintro e wc5 ⟨rfl, b5⟩
      have hb5 := hb4.trans (b5.mono hb4.size)
      clear hb4 b5
      go_wp2_with fail
      refine (rank_yes _ _ hz ht _).mono ?_
      rintro e wc6 ⟨rfl, b6⟩
      have hb6 := hb5.trans (b6.mono hb5.size)
      clear hb5 b6
      go_wp2_with fail
      refine (reftakes_any _ _ _).mono ?_
      rintro e wc7 ⟨rfl, b7⟩
      have hb7 := hb6.trans (b7.mono hb6.size)
      clear hb6 b7
      go_wp2_with fail
      refine (refrank_any _ _ hz _).mono ?_
      rintro e wc8 ⟨rfl, b8⟩
      have hb8 := hb7.trans (b8.mono hb7.size)
      clear hb7 b8
      go_wp2_with fail
      refine (refeach_any _ _).mono ?_
      rintro e wc9 ⟨rfl, b9⟩
      have hb9 := hb8.trans (b9.mono hb8.size)
      clear hb8 b9
      go_wp2_with fail
      refine (cmpE_any _ _ _).mono ?_
      rintro e wc10 ⟨rfl, b10⟩
      have hb10 := hb9.trans (b10.mono hb9.size)
      clear hb9 b10
      go_wp2_with fail
      go_ret
      exact ⟨rfl, hb10⟩
    · have ht : takesL x n = false := by simpa using ht
      go_enter Try.func9, Try.ntmps9
      go_wp2_with fail
      refine (awake38_any _).mono ?_
      rintro e wc1 ⟨rfl, b1⟩
      have hb1 := b1
      go_wp2_with fail
      refine (loss_any _ _).mono ?_
      rintro e w' ⟨rfl, rfl⟩
      go_wp2_with fail
      refine (refLoss_any _ _).mono ?_
      rintro e wc2 ⟨rfl, b2⟩
      have hb2 := hb1.trans (b2.mono hb1.size)
      clear hb1 b2
      go_wp2_with fail
      refine (eacha_any _ _).mono ?_
      rintro e wc3 ⟨rfl, b3⟩
      have hb3 := hb2.trans (b3.mono hb2.size)
      clear hb2 b3
      go_wp2_with fail
      refine (refeach_any _ _).mono ?_
      rintro e wc4 ⟨rfl, b4⟩
      have hb4 := hb3.trans (b4.mono hb3.size)
      clear hb3 b4
      go_wp2_with fail
      refine (takes_any _ _ _).mono ?_
      rintro e w' ⟨rfl, rfl⟩
      go_wp2_with fail
      refine (reftakes_any _ _ _).mono ?_
      rintro e wc5 ⟨rfl, b5⟩
      have hb5 := hb4.trans (b5.mono hb4.size)
      clear hb4 b5
      go_wp2_with fail
      refine (rank_not _ _ hz ht _).mono ?_
      rintro e w' ⟨rfl, rfl⟩
      go_wp2_with fail
      refine (reftakes_any _ _ _).mono ?_
      rintro e wc6 ⟨rfl, b6⟩
      have hb6 := hb5.trans (b6.mono hb5.size)
      clear hb5 b6
      go_wp2_with fail
      go_ret
      exact ⟨rfl, hb6⟩
end Go.Proofs.Ytodflmngbkiemaa
