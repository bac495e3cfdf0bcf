/- The walks of chapter 13's functions (PCG32), the program's and the reference's. No condition. -/
import Derived.Test.YtaldnlmkjoaaoaaW1
import Derived.Test.YtaldnlmkjoaaoaaMem
import Derived.LoopTactic
import Derived.Deep.LoopGhost
namespace Go.Proofs.Ytaldnlmkjoaaoaa
open Go.RowKit

theorem pback_any (s inc : BitVec 64) (w : World) :
    Calls Try.prog 40 #[.int .u64 (ui s), .int .u64 (ui inc)] w fun e w' => e = .returned (.int .u64 (ui ((s - (inc ||| 1#64)) * oddInv timesC))) ∧ w = w' := by
  go_enter Try.func40, Try.ntmps40
  go_wp2_with (go_at_call 54; refine (odd_int _ timesC lit_times (by decide +kernel) _).mono ?_; rintro e w' ⟨rfl, rfl⟩)
  go_ret
  exact ⟨rfl, rfl⟩
theorem pout_any (s : BitVec 64) (w : World) :
    Calls Try.prog 38 #[.int .u64 (ui s)] w fun e w' => e = .returned (.int .u32 (uw (outB s))) ∧ w = w' := by
  go_enter Try.func38, Try.ntmps38
  go_wp2_with (go_at_call 56; refine (rot32_any _ _ _).mono ?_; rintro e w' ⟨rfl, rfl⟩)
  go_ret
  exact ⟨ret_u32 (out_prog s), rfl⟩
theorem refout_any (s : BitVec 64) (w : World) :
    Calls Try.prog 39 #[.int .u64 (ui s)] w fun e w' => e = .returned (.int .u32 (uw (outB s))) ∧ w = w' := by
  go_enter Try.func39, Try.ntmps39
  go_wp2_with (go_at_call 57; refine (refrot32_any _ _ _).mono ?_; rintro e w' ⟨rfl, rfl⟩)
  go_ret
  exact ⟨ret_u32 (out_ref s), rfl⟩
theorem pseed_any (s t : BitVec 64) (w : World) :
    Calls Try.prog 14 #[.int .u64 (ui s), .int .u64 (ui t)] w fun e w' => e = .returned (.tuple #[.int .u64 (ui (stepB (stepB 0#64 (2#64 * t + 1#64) + s) (2#64 * t + 1#64))), .int .u64 (ui (2#64 * t + 1#64))]) ∧ w = w' := by
  go_enter Try.func14, Try.ntmps14
  go_wp2_with fail
  refine (step_int _ 0#64 _ rfl _).mono ?_
  rintro e w' ⟨rfl, rfl⟩
  go_wp2_with fail
  refine (step_any _ _ _).mono ?_
  rintro e w' ⟨rfl, rfl⟩
  go_wp2
  go_ret2
  exact ⟨rfl, rfl⟩
theorem lin_cell {w : World} {B k : Nat} {c : BitVec 64} {a b : Value} (h : Two w B a b) : Two ((w.setCell ⟨B, 0, none⟩ (.int .u64 (ui (lt k * lt k)))).setCell ⟨B, 1, none⟩ (.int .u64 (ui (c * lq k * (lt k + 1#64))))) B (.int .u64 (ui (lt (k + 1)))) (.int .u64 (ui (c * lq (k + 1)))) := by
  rw [BitVec.mul_assoc]
  exact h.set _ _
theorem shr_less (x : BitVec 64) (h : 0 < ui x) : (ui (x >>> 1)).toNat < (ui x).toNat := by
  unfold ui at *; rw [BitVec.toNat_ushiftRight, Nat.shiftRight_eq_div_pow, Int.toNat_natCast, Int.toNat_natCast]; omega
theorem shr_less' (n : BitVec 64) (k : Nat) (h : 0 < ui (n >>> k)) : (intOf (.int .u64 (ui (n >>> k >>> 1)))).toNat < (intOf (.int .u64 (ui (n >>> k)))).toNat := shr_less _ h
theorem advK_end (s inc n : BitVec 64) (k : Nat) (h : ¬ 0 < ui (n >>> k)) : advK s inc n k = advB s inc n := by
  unfold ui at h; rw [BitVec.toNat_ushiftRight, Nat.shiftRight_eq_div_pow] at h
  have h2 : n.toNat / 2 ^ k = 0 := by generalize n.toNat / 2 ^ k = q at h; omega
  have h3 : n.toNat < 2 ^ k := by
    rcases Nat.lt_or_ge n.toNat (2 ^ k) with h | h
    · exact h
    · have := Nat.div_pos h (Nat.two_pow_pos k); omega
  unfold advK advB
  rw [Nat.mod_eq_of_lt h3]
theorem bit_odd (n : BitVec 64) (k : Nat) : ((n >>> k &&& 1#64) == 1#64) = decide (n.toNat / 2 ^ k % 2 = 1) := by
  rw [Bool.eq_iff_iff, beq_iff_eq, decide_eq_true_iff, ← BitVec.toNat_inj, BitVec.toNat_and, BitVec.toNat_ushiftRight, Nat.shiftRight_eq_div_pow, show (1#64).toNat = 2 ^ 1 - 1 from rfl, Nat.and_two_pow_sub_one_eq_mod]
theorem advK_one (s inc n : BitVec 64) (k : Nat) (h : (n >>> k &&& 1#64 == 1#64) = true) : advK s inc n (k + 1) = advK s inc n k * lt k + (inc ||| 1#64) * lq k := by
  rw [bit_odd, decide_eq_true_iff] at h
  unfold advK
  have e : ∀ x : BitVec 64, x * lt k + (inc ||| 1#64) * lq k = itr (stepB · inc) (2 ^ k) x := fun x => (lin_pow inc k x).symm
  rw [e, itr_add, Nat.mod_pow_succ, h, Nat.mul_one]
theorem advK_none (s inc n : BitVec 64) (k : Nat) (h : (n >>> k &&& 1#64 == 1#64) = false) : advK s inc n (k + 1) = advK s inc n k := by
  rw [bit_odd, decide_eq_false_iff_not] at h
  have h0 : n.toNat / 2 ^ k % 2 = 0 := by omega
  unfold advK
  rw [Nat.mod_pow_succ, h0, Nat.mul_zero, Nat.add_zero]
theorem padvance_any (s inc n : BitVec 64) (w : World) :
    Calls Try.prog 16 #[.int .u64 (ui s), .int .u64 (ui inc), .int .u64 (ui n)] w fun e w' => e = .returned (.int .u64 (ui (advB s inc n))) ∧ Below w.heap.size w w' := by
  go_enter Try.func16, Try.ntmps16
  go_wp2_with fail
  go_loopw [0, 2] (fun x y wr => ∃ k : Nat, x = .int .u64 (ui (advK s inc n k)) ∧ y = .int .u64 (ui (n >>> k)) ∧ Two wr w.heap.size (.int .u64 (ui (lt k))) (.int .u64 (ui ((inc ||| 1#64) * lq k))) ∧ Below w.heap.size w wr) (fun _ y _ => (intOf y).toNat)
  case atStart =>
    refine ⟨0, by rw [advK_zero], by simp, ?_, (Below.refl _ _).alloc (Nat.le_refl _) _⟩
    have h := Two.new w (.int .u64 (ui (lt 0))) (.int .u64 (ui ((inc ||| 1#64) * lq 0))) 49
    rw [show ui (lt 0) = 6364136223846793005 from lit_times.symm, show (inc ||| 1#64) * lq 0 = (inc ||| 1#64) from BitVec.mul_one _] at h ⊢
    exact h
  case round =>
    obtain ⟨k, rfl, rfl, ht, hb⟩ := hrel
    obtain ⟨hc0, hc1, hf0, hf1, hsz⟩ := ht
    by_cases hn : 0 < ui (n >>> k)
    · by_cases hbit : (n >>> k &&& 1#64 == 1#64) = true
      · go_wp2_with (go_at_call 48; refine (of_any _ _ _ _).mono ?_; rintro e w' ⟨rfl, rfl⟩)
        refine (twice_any _ _ _).mono ?_
        rintro e w' ⟨rfl, hb2⟩
        obtain ⟨g1, g2⟩ := bcell hb2
        have hT := ((Two.mk hc0 hc1 hf0 hf1 hsz).alloc (.cells #[.int .u64 (ui (lt k)), .int .u64 (ui ((inc ||| 1#64) * lq k))] 49)).below hb2 (by simp; omega)
        have hB := ((hb.alloc (by omega) (.cells #[.int .u64 (ui (lt k)), .int .u64 (ui ((inc ||| 1#64) * lq k))] 49)).trans (hb2.mono (by simp; omega)))
        go_wp2_with fail
        go_roundw
        case rel => exact ⟨k + 1, by rw [← advK_one s inc n k hbit], by rw [BitVec.shiftRight_add], lin_cell hT, below_set2 hB (Nat.le_refl _) (Nat.le_refl _) _ _⟩
        case measure => exact shr_less' n k hn
      · replace hbit : (n >>> k &&& 1#64 == 1#64) = false := by simpa using hbit
        go_wp2_with fail
        refine (twice_any _ _ _).mono ?_
        rintro e w' ⟨rfl, hb2⟩
        obtain ⟨g1, g2⟩ := bcell hb2
        have hT := (Two.mk hc0 hc1 hf0 hf1 hsz).below hb2 (by omega)
        have hB := hb.trans (hb2.mono (by omega))
        go_wp2_with fail
        go_roundw
        case rel => exact ⟨k + 1, by rw [← advK_none s inc n k hbit], by rw [BitVec.shiftRight_add], lin_cell hT, below_set2 hB (Nat.le_refl _) (Nat.le_refl _) _ _⟩
        case measure => exact shr_less' n k hn
    · go_wp2_with fail
      go_ret
      exact ⟨ret_u64 (advK_end s inc n k (by omega)), hb⟩
theorem refsteps_any (s inc : BitVec 64) (n : Int) (hn : n ≤ 9223372036854775807) (w : World) :
    Calls Try.prog 17 #[.int .u64 (ui s), .int .u64 (ui inc), .int .i64 n] w fun e w' => e = .returned (.int .u64 (ui (itr (stepB · inc) n.toNat s))) ∧ w = w' := by
  go_enter Try.func17, Try.ntmps17
  go_wp2_with fail
  go_loop [0, 7] (fun x i => ∃ k : Nat, k ≤ n.toNat ∧ i = .int .i64 k ∧ x = .int .u64 (ui (itr (stepB · inc) k s))) (fun _ i => n.toNat - (intOf i).toNat)
  case atStart => exact ⟨0, by omega, rfl, rfl⟩
  case round =>
    obtain ⟨k, hk, rfl, rfl⟩ := hrel
    go_wp2_with (go_at_call 15; refine (refstep_any _ _ _).mono ?_; rintro e w' ⟨rfl, rfl⟩)
    · go_round
      case rel => exact ⟨k + 1, by omega, by go_num, rfl⟩
      case measure => simp [intOf]; omega
    · go_ret
      exact ⟨ret_u64 (by rw [show k = n.toNat by omega]), rfl⟩
theorem getLsbD_div (a : BitVec 64) (i : Nat) : a.getLsbD i = decide (a.toNat / 2 ^ i % 2 = 1) := by
  rw [BitVec.getLsbD, Nat.testBit_eq_decide_div_mod_eq]
theorem test_bit (a t : BitVec 64) (i : Nat) (hi : i < 64) : ((a ^^^ t) &&& (1#64 <<< i) != 0#64) = (a.getLsbD i != t.getLsbD i) := by
  have e : ((a ^^^ t) &&& (1#64 <<< i)).getLsbD i = (a.getLsbD i != t.getLsbD i) := by simp [hi]
  rw [← e]
  generalize hx : (a ^^^ t) &&& (1#64 <<< i) = x
  cases hb : x.getLsbD i
  · have : x = 0#64 := by
      rw [← hx] at hb ⊢
      apply BitVec.eq_of_getLsbD_eq
      intro j hj
      by_cases hij : j = i
      · subst hij; simp [hb]
      · simp [hj]; intro _
        have : j - i ≠ 0 ∨ j < i := by omega
        rcases this with h | h
        · intro _; omega
        · intro h2; omega
    simp [this]
  · rw [bne_iff_ne]
    intro h0; rw [h0] at hb; simp at hb
theorem low_same (a t : BitVec 64) (i : Nat) (h : a.toNat % 2 ^ i = t.toNat % 2 ^ i) (hb : (a.getLsbD i != t.getLsbD i) = false) : a.toNat % 2 ^ (i + 1) = t.toNat % 2 ^ (i + 1) := by
  rw [getLsbD_div, getLsbD_div] at hb
  rw [Nat.mod_pow_succ, Nat.mod_pow_succ, h]
  congr 2
  have h1 := Nat.mod_two_eq_zero_or_one (a.toNat / 2 ^ i)
  have h2 := Nat.mod_two_eq_zero_or_one (t.toNat / 2 ^ i)
  rcases h1 with h1 | h1 <;> rcases h2 with h2 | h2 <;> simp [h1, h2] at hb ⊢
theorem low_differ (a t : BitVec 64) (i : Nat) (hb : (a.getLsbD i != t.getLsbD i) = true) : a.toNat % 2 ^ (i + 1) ≠ t.toNat % 2 ^ (i + 1) := by
  intro h
  have e : ∀ x : BitVec 64, x.getLsbD i = (x.toNat % 2 ^ (i + 1)).testBit i := by
    intro x; rw [Nat.testBit_mod_two_pow, BitVec.getLsbD]; simp
  rw [e a, e t, h] at hb
  simp at hb
theorem adv_bit (s inc nn : BitVec 64) (i : Nat) (hi : i < 64) (hn : nn.toNat < 2 ^ i) :
    advB s inc nn * lt i + (inc ||| 1#64) * lq i = advB s inc (nn ||| 1#64 <<< i) ∧ (nn ||| 1#64 <<< i).toNat < 2 ^ (i + 1) := by
  have e : (nn ||| 1#64 <<< i).toNat = nn.toNat + 2 ^ i := by
    rw [BitVec.toNat_or, BitVec.toNat_shiftLeft, Nat.shiftLeft_eq, show (1#64).toNat = 1 from rfl, Nat.one_mul, Nat.mod_eq_of_lt (Nat.pow_lt_pow_right (by decide) hi), Nat.or_comm]
    have := Nat.two_pow_add_eq_or_of_lt hn 1
    rw [Nat.mul_one] at this; omega
  refine ⟨?_, by rw [e, Nat.pow_succ]; omega⟩
  unfold advB
  have h := (lin_pow inc i (itr (stepB · inc) nn.toNat s)).symm
  rw [itr_add, ← e] at h
  exact h
/-- what holds of Steps' slots behind i rounds -/
def StepsRel (s t inc : BitVec 64) (i : Nat) (nn : BitVec 64) : Prop := i ≤ 64 ∧ nn.toNat < 2 ^ i ∧ (advB s inc nn).toNat % 2 ^ i = t.toNat % 2 ^ i
theorem StepsRel.start (s t inc : BitVec 64) : StepsRel s t inc 0 0#64 := ⟨by omega, by simp, by simp [Nat.mod_one]⟩
theorem StepsRel.more {s t inc : BitVec 64} {i : Nat} {nn : BitVec 64} (h : StepsRel s t inc i nn) (hne : advB s inc nn ≠ t) : i < 64 := by
  obtain ⟨h1, _, h3⟩ := h
  rcases Nat.lt_or_ge i 64 with hi | hi
  · exact hi
  · exfalso
    obtain rfl : i = 64 := by omega
    rw [Nat.mod_eq_of_lt (BitVec.isLt _), Nat.mod_eq_of_lt (BitVec.isLt _)] at h3
    exact hne (BitVec.eq_of_toNat_eq h3)
theorem StepsRel.one {s t inc : BitVec 64} {i : Nat} {nn : BitVec 64} (h : StepsRel s t inc i nn) (hi : i < 64) (hb : ((advB s inc nn ^^^ t) &&& (1#64 <<< i) != 0#64) = true) : StepsRel s t inc (i + 1) (nn ||| 1#64 <<< i) := by
  rw [test_bit _ _ _ hi] at hb
  obtain ⟨_, h2, h3⟩ := h
  obtain ⟨e1, e2⟩ := adv_bit s inc nn i hi h2
  refine ⟨hi, e2, ?_⟩
  rw [← e1]
  exact round_eq inc i hi _ _ h3 (low_differ _ _ _ hb)
theorem StepsRel.none {s t inc : BitVec 64} {i : Nat} {nn : BitVec 64} (h : StepsRel s t inc i nn) (hi : i < 64) (hb : ((advB s inc nn ^^^ t) &&& (1#64 <<< i) != 0#64) = false) : StepsRel s t inc (i + 1) nn := by
  rw [test_bit _ _ _ hi] at hb
  obtain ⟨_, h2, h3⟩ := h
  exact ⟨hi, Nat.lt_of_lt_of_le h2 (Nat.pow_le_pow_right (by decide) (by omega)), low_same _ _ _ h3 hb⟩
def SomeN (s t inc : BitVec 64) (w : World) (e : Ending) (w' : World) : Prop := ∃ n, e = .returned (.int .u64 (ui n)) ∧ advB s inc n = t ∧ Below w.heap.size w w'
theorem psteps_any (s t inc : BitVec 64) (w : World) :
    Calls Try.prog 42 #[.int .u64 (ui s), .int .u64 (ui t), .int .u64 (ui inc)] w (SomeN s t inc w) := by
  go_enter Try.func42, Try.ntmps42
  go_wp2_with fail
  go_step3
  go_wp2_with fail
  go_step3
  go_wp2_with fail
  go_loopg [0, 7, 9] 64 (fun gk x y z wr => ∃ (i : Nat) (nn : BitVec 64), gk = 64 - i ∧ StepsRel s t inc i nn ∧ x = .int .u64 (ui (advB s inc nn)) ∧ y = .int .u64 (ui nn) ∧ z = .int .u64 (ui (1#64 <<< i)) ∧ Two wr w.heap.size (.int .u64 (ui (lt i))) (.int .u64 (ui ((inc ||| 1#64) * lq i))) ∧ Below w.heap.size w wr)
  case atStart =>
    refine ⟨0, 0#64, rfl, StepsRel.start s t inc, rfl, rfl, rfl, ?_, (Below.refl _ _).alloc (Nat.le_refl _) _⟩
    have h := Two.new w (.int .u64 (ui (lt 0))) (.int .u64 (ui ((inc ||| 1#64) * lq 0))) 49
    rw [show ui (lt 0) = 6364136223846793005 from lit_times.symm, show (inc ||| 1#64) * lq 0 = (inc ||| 1#64) from BitVec.mul_one _] at h ⊢
    exact h
  case round =>
    obtain ⟨k, nn, rfl, hR, rfl, rfl, rfl, ht, hb⟩ := hrel
    obtain ⟨hc0, hc1, hf0, hf1, hsz⟩ := ht
    by_cases heq : advB s inc nn = t
    · have hq : (advB s inc nn == t) = true := by simpa using heq
      have HE := Lib.hid heq
      clear heq
      go_wp2_with fail
      rw [Exit.noGoto_ret]
      go_ret
      exact ⟨nn, rfl, HE.out, hb⟩
    · have hq : (advB s inc nn == t) = false := by simpa using heq
      have hk := hR.more heq
      cases hbit : ((advB s inc nn ^^^ t) &&& (1#64 <<< k) != 0#64)
      · have hR2 := hR.none hk hbit
        go_wp2_with fail
        refine (twice_any _ _ _).mono ?_
        rintro e w' ⟨rfl, hb2⟩
        obtain ⟨g1, g2⟩ := bcell hb2
        have hT := (Two.mk hc0 hc1 hf0 hf1 hsz).below hb2 (by omega)
        have hB := hb.trans (hb2.mono (by omega))
        go_wp2_with fail
        go_roundg (64 - (k + 1))
        case measure => omega
        case rel => exact ⟨k + 1, nn, rfl, hR2, rfl, rfl, by rw [BitVec.shiftLeft_add], lin_cell hT, below_set2 hB (Nat.le_refl _) (Nat.le_refl _) _ _⟩
      · have hR2 := hR.one hk hbit
        have HA := Lib.hid (adv_bit s inc nn k hk hR.2.1).1
        go_wp2_with fail
        refine (of_any _ _ _ _).mono ?_
        rintro e w' ⟨rfl, rfl⟩
        go_wp2_with fail
        refine (twice_any _ _ _).mono ?_
        rintro e w' ⟨rfl, hb2⟩
        obtain ⟨g1, g2⟩ := bcell hb2
        have hT := ((Two.mk hc0 hc1 hf0 hf1 hsz).alloc (.cells #[.int .u64 (ui (lt k)), .int .u64 (ui ((inc ||| 1#64) * lq k))] 49)).below hb2 (by simp; omega)
        have hB := ((hb.alloc (by omega) (.cells #[.int .u64 (ui (lt k)), .int .u64 (ui ((inc ||| 1#64) * lq k))] 49)).trans (hb2.mono (by simp; omega)))
        go_wp2_with fail
        go_roundg (64 - (k + 1))
        case measure => omega
        case rel => exact ⟨k + 1, nn ||| 1#64 <<< k, rfl, hR2, by rw [HA.out], rfl, by rw [BitVec.shiftLeft_add], lin_cell hT, below_set2 hB (Nat.le_refl _) (Nat.le_refl _) _ _⟩
end Go.Proofs.Ytaldnlmkjoaaoaa
