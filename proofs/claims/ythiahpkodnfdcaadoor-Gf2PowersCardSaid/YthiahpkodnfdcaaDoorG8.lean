/- The walks of chapter 6's reference: products, division, words. No condition but on lengths. -/
import Derived.Test.YthiahpkodnfdcaaDoorG7
namespace Go.Proofs.YthiahpkodnfdcaaDoor
open Go.RowKit
/-- bits of a number that are returned, of some length -/
def RN (w0 : World) (N lim : Nat) (e : Ending) (w' : World) : Prop := ∃ v n, e = .returned v ∧ BL w' v N n ∧ N < 2 ^ n ∧ n ≤ lim ∧ Below w0.heap.size w0 w'
theorem mod_bit (A i : Nat) : A % 2 ^ (i + 1) = A % 2 ^ i ^^^ (if A.testBit i then 2 ^ i else 0) := by
  apply Nat.eq_of_testBit_eq
  intro j
  rw [Nat.testBit_xor, Nat.testBit_mod_two_pow, Nat.testBit_mod_two_pow]
  by_cases e : j = i
  · subst e
    cases h : A.testBit j
    · simp
    · simp [Nat.testBit_two_pow_self]
  · have h1 : (if A.testBit i = true then 2 ^ i else 0).testBit j = false := by
      split
      · rw [Nat.testBit_two_pow, decide_eq_false (fun x => e x.symm)]
      · simp
    rw [h1, Bool.xor_false]
    by_cases h2 : j < i
    · rw [decide_eq_true h2, decide_eq_true (by omega)]
    · rw [decide_eq_false h2, decide_eq_false (by omega)]
theorem up_lt {B m i : Nat} (h : B < 2 ^ m) : 2 ^ i * B < 2 ^ (i + m) := by
  rw [Nat.pow_add]; exact Nat.mul_lt_mul_of_pos_left h (Nat.two_pow_pos i)
theorem xor_lt_max {A B n m : Nat} (hA : A < 2 ^ n) (hB : B < 2 ^ m) : A ^^^ B < 2 ^ (max n m) :=
  Nat.xor_lt_two_pow (Nat.lt_of_lt_of_le hA (Nat.pow_le_pow_right (by decide) (by omega))) (Nat.lt_of_lt_of_le hB (Nat.pow_le_pow_right (by decide) (by omega)))
theorem rmul_any (v v2 : Value) (A n B m : Nat) (w : World) (h : BL w v A n) (h2 : BL w v2 B m) (hn : n ≤ 4000) (hm : m ≤ 4000) (hA : A < 2 ^ n) (hB : B < 2 ^ m) : Calls Tryd.prog 21 #[v, v2] w (RN w (clm A B) (n + m)) := by
  obtain ⟨ao, cap, rfl⟩ := h.len
  have H := Lib.hid (And.intro h h2)
  have HP := Lib.hid (And.intro hA hB)
  clear h h2 hA hB
  go_enter Tryd.func21, Tryd.ntmps21
  go_wp2_with fail
  go_loopw [5, 9] (fun v i wr => ∃ k l : Nat, k ≤ n ∧ i = .int .i64 k ∧ BL wr v (clm (A % 2 ^ k) B) l ∧ RowKit.Hid (clm (A % 2 ^ k) B < 2 ^ l) ∧ l ≤ k + m ∧ Below w.heap.size w wr) (fun _ i _ => n - (intOf i).toNat)
  case atStart => exact ⟨0, 0, by omega, rfl, BL.nil _ _, (show clm (A % 2 ^ 0) B < 2 ^ 0 by rw [Nat.pow_zero, Nat.mod_one, clm_zero]; decide), by omega, Below.refl _ _⟩
  case round =>
    obtain ⟨k, l, hk, rfl, hbl, HLt, hlm, hb⟩ := hrel
    have HO := Lib.hid hbl
    have HB := Lib.hid hb
    clear hbl hb
    by_cases hlt : k < n
    · have hlt' : (k : Int) < (n : Int) := by omega
      have hk' : (0 : Int) ≤ (k : Int) := by omega
      obtain ⟨b, o, cp, e, _, hc⟩ := (H.out.1.below HB.out).cells (by omega)
      injection e with e1 _ e3
      subst e1 e3
      have c1 := hc k hlt
      have hmb := mod_bit A k
      clear hc
      rcases hbt : A.testBit k with _ | _
      · rw [hbt] at c1
        rw [hbt, if_neg (by decide), Nat.xor_zero] at hmb
        have HM := Lib.hid hmb
        clear hmb hbt
        go_wp2_with fail
        go_roundw
        case rel => exact ⟨k + 1, l, by omega, by go_num, by rw [HM.out]; exact HO.out, (show clm (A % 2 ^ (k + 1)) B < 2 ^ l by rw [HM.out]; exact HLt), by omega, HB.out⟩
        case measure => simp [intOf]; omega
      · rw [hbt] at c1
        rw [hbt, if_pos rfl] at hmb
        have hcl : clm (A % 2 ^ (k + 1)) B = clm (A % 2 ^ k) B ^^^ 2 ^ k * B := by rw [hmb, clm_xor_l, clm_pow_l]
        have HM := Lib.hid hcl
        clear hmb hbt hcl
        go_wp2_with fail
        refine (up_any v2 B m k wr (H.out.2.below HB.out) (by omega) (by omega)).mono ?_
        rintro e w1 ⟨v3, rfl, s1, b1⟩
        have H1 := Lib.hid (And.intro s1 (And.intro (HO.out.below b1) (HB.out.trans (b1.mono HB.out.size))))
        clear s1 b1 HB HO c1
        go_wp2_with fail
        refine (radd_any _ v3 (clm (A % 2 ^ k) B) l (2 ^ k * B) (k + m) w1 H1.out.2.1 H1.out.1 (by omega) (by omega) HLt (up_lt HP.out.2)).mono ?_
        rintro e w2 ⟨v4, rfl, s2, b2⟩
        rw [← HM.out] at s2
        have H2 := Lib.hid (And.intro s2 (H1.out.2.2.trans (b2.mono H1.out.2.2.size)))
        clear s2 b2 H1
        go_wp2_with fail
        go_roundw
        case rel => exact ⟨k + 1, max l (k + m), by omega, by go_num, H2.out.1, (show clm (A % 2 ^ (k + 1)) B < 2 ^ max l (k + m) by rw [HM.out]; exact xor_lt_max HLt (up_lt HP.out.2)), by omega, H2.out.2⟩
        case measure => simp [intOf]; omega
    · obtain rfl : k = n := by omega
      clear hlt
      have hmod := Nat.mod_eq_of_lt HP.out.1
      go_wp2_with fail
      go_ret
      have h1 := HO.out
      have h2 : clm (A % 2 ^ k) B < 2 ^ l := HLt
      rw [hmod] at h1 h2
      exact ⟨_, l, rfl, h1, h2, by omega, HB.out⟩
end Go.Proofs.YthiahpkodnfdcaaDoor
