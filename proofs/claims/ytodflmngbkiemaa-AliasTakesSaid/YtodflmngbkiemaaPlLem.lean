/- Lemire's method over words: natural numbers and bit vectors alone. No condition. -/
import Derived.Test.YtodflmngbkiemaaPlDivB
namespace Go.Proofs.Ytodflmngbkiemaa
/-! Lemire over natural numbers; M = 2^64 -/
def lossN (M n : Nat) : Nat := M % n
def firstN (M v n : Nat) : Nat := (v * M + lossN M n + (n - 1)) / n
def takesN (M w n : Nat) : Prop := lossN M n ≤ w * n % M
theorem first_lo (M v n : Nat) (hn : 0 < n) : v * M + lossN M n ≤ firstN M v n * n := by
  unfold firstN
  have h := Nat.div_add_mod (v * M + lossN M n + (n - 1)) n
  have h2 := Nat.mod_lt (v * M + lossN M n + (n - 1)) hn
  rw [Nat.mul_comm] at h; omega
theorem first_hi (M v n : Nat) (_hn : 0 < n) : firstN M v n * n ≤ v * M + lossN M n + (n - 1) := Nat.div_mul_le_self _ _
theorem first_least (M v n w : Nat) (hn : 0 < n) (h : v * M + lossN M n ≤ w * n) : firstN M v n ≤ w := by
  unfold firstN
  rw [Nat.div_le_iff_le_mul_add_pred hn]
  rw [Nat.mul_comm n w]; omega
theorem each_loss (M n : Nat) : n * (M / n) + lossN M n = M := Nat.div_add_mod M n
/-- a taken word: its number, and its rank -/
theorem taken (M w n : Nat) (hn : 0 < n) (hM : 0 < M) (hw : w < M) (ht : takesN M w n) :
    w * n / M < n ∧ firstN M (w * n / M) n ≤ w ∧ w - firstN M (w * n / M) n < M / n := by
  have hd := Nat.div_add_mod (w * n) M
  have hm := Nat.mod_lt (w * n) hM
  unfold takesN at ht
  have h1 : w * n / M < n := (Nat.div_lt_iff_lt_mul hM).2 (by rw [Nat.mul_comm n M]; exact Nat.mul_lt_mul_of_pos_right hw hn)
  generalize hv : w * n / M = v at *
  rw [Nat.mul_comm M v] at hd
  have h2 : firstN M v n ≤ w := first_least M v n w hn (by omega)
  refine ⟨h1, h2, ?_⟩
  have h3 := first_lo M v n hn
  have h4 := each_loss M n
  rw [Nat.mul_comm] at h4
  have h5 : (w - firstN M v n) * n < M / n * n := by rw [Nat.sub_mul]; omega
  exact Nat.lt_of_mul_lt_mul_right h5
/-- the word of a number and a rank -/
theorem word_of (M v r n : Nat) (hn : 0 < n) (_hM : 0 < M) (hv : v < n) (hr : r < M / n) :
    (firstN M v n + r) * n / M = v ∧ takesN M (firstN M v n + r) n ∧ firstN M v n + r < M := by
  have h1 := first_lo M v n hn
  have h2 := first_hi M v n hn
  have h4 := each_loss M n
  rw [Nat.mul_comm] at h4
  have h5 : (r + 1) * n ≤ M / n * n := Nat.mul_le_mul_right n hr
  rw [Nat.succ_mul] at h5
  have h6 : (firstN M v n + r) * n = firstN M v n * n + r * n := Nat.add_mul _ _ _
  have e : (firstN M v n + r) * n / M = v := by
    rw [h6]
    apply Nat.div_eq_of_lt_le
    · omega
    · rw [Nat.succ_mul]; omega
  refine ⟨e, ?_, ?_⟩
  · unfold takesN
    have hd := Nat.div_add_mod ((firstN M v n + r) * n) M
    rw [e, Nat.mul_comm M v] at hd
    rw [h6] at hd ⊢; omega
  · have h7 : (firstN M v n + r) * n < n * M := by
      have := Nat.mul_le_mul_right M (show v + 1 ≤ n from hv)
      rw [Nat.succ_mul] at this
      rw [h6]; omega
    rw [Nat.mul_comm n M] at h7
    exact Nat.lt_of_mul_lt_mul_right h7
theorem first_q (M v n : Nat) (hn : 0 < n) : firstN M v n = (v * M + lossN M n) / n + (if (v * M + lossN M n) % n = 0 then 0 else 1) := by
  unfold firstN
  generalize v * M + lossN M n = p
  have h := Nat.div_add_mod p n
  have h2 := Nat.mod_lt p hn
  split
  · rename_i h0
    apply Nat.div_eq_of_lt_le
    · rw [Nat.add_zero, Nat.mul_comm]; omega
    · rw [Nat.add_zero, Nat.succ_mul, Nat.mul_comm]; omega
  · rename_i h0
    apply Nat.div_eq_of_lt_le
    · rw [Nat.succ_mul, Nat.mul_comm]; omega
    · rw [Nat.succ_mul, Nat.succ_mul, Nat.mul_comm]; omega
theorem loss_half (n : Nat) (hn : 0 < n) (h : n < 2 ^ 64) : lossN (2 ^ 64) n < n ∧ lossN (2 ^ 64) n < 2 ^ 63 := by
  unfold lossN
  refine ⟨Nat.mod_lt _ hn, ?_⟩
  by_cases h2 : n ≤ 2 ^ 63
  · exact Nat.lt_of_lt_of_le (Nat.mod_lt _ hn) h2
  · rw [Nat.mod_eq_sub_mod (by omega), Nat.mod_eq_of_lt (by omega)]; omega
/-- what the program reckons: the rest of -n -/
theorem loss_neg (n : Nat) (_hn : 0 < n) (h : n < 2 ^ 64) : (2 ^ 64 - n) % n = lossN (2 ^ 64) n := by
  unfold lossN
  exact (Nat.mod_eq_sub_mod (Nat.le_of_lt h)).symm

/-! words -/
theorem M64 : (18446744073709551616 : Nat) = 2 ^ 64 := rfl
def mulHi (a b : BitVec 64) : BitVec 64 := BitVec.ofNat 64 (a.toNat * b.toNat / 18446744073709551616)
theorem mulHi_nat (a b : BitVec 64) : (mulHi a b).toNat = a.toNat * b.toNat / 18446744073709551616 := by
  unfold mulHi
  rw [BitVec.toNat_ofNat]
  apply Nat.mod_eq_of_lt
  apply (Nat.div_lt_iff_lt_mul (by decide)).2
  exact Nat.mul_lt_mul'' a.isLt b.isLt
theorem mul_lo_nat (a b : BitVec 64) : (a * b).toNat = a.toNat * b.toNat % 18446744073709551616 := BitVec.toNat_mul ..
theorem pos_of_ne {n : BitVec 64} (h : (n == 0#64) = false) : 0 < n.toNat := by
  rcases Nat.eq_zero_or_pos n.toNat with h0 | h0
  · exact absurd (BitVec.eq_of_toNat_eq (y := 0#64) h0) (by simpa using h)
  · exact h0
/-- how many words are not taken -/
def lossW (n : BitVec 64) : BitVec 64 := -n % n
theorem loss_nat (n : BitVec 64) (h : 0 < n.toNat) : (lossW n).toNat = lossN 18446744073709551616 n.toNat := by
  unfold lossW
  rw [BitVec.toNat_umod, BitVec.toNat_neg, ← M64]
  have hn : n.toNat < 2 ^ 64 := n.isLt
  have h1 := loss_neg n.toNat h hn
  rw [← M64] at h1
  rw [Nat.mod_eq_of_lt (show 18446744073709551616 - n.toNat < 18446744073709551616 by omega)]; exact h1
theorem loss_of (n : BitVec 64) (h : 0 < n.toNat) : lossW n = BitVec.ofNat 64 (18446744073709551616 % n.toNat) := by
  apply BitVec.eq_of_toNat_eq
  rw [loss_nat n h, BitVec.toNat_ofNat]
  unfold lossN
  have := Nat.mod_lt 18446744073709551616 h
  have := n.isLt
  exact (Nat.mod_eq_of_lt (by omega)).symm
def takesL (x n : BitVec 64) : Bool := decide (0 < ui n) && decide (ui (lossW n) ≤ ui (x * n))
theorem takesL_iff (x n : BitVec 64) (h : 0 < n.toNat) : takesL x n = true ↔ takesN 18446744073709551616 x.toNat n.toNat := by
  unfold takesL takesN
  rw [decide_eq_true (show (0 : Int) < ui n by rw [ui_def]; omega), Bool.true_and, decide_eq_true_iff, ui_def, ui_def, loss_nat n h, mul_lo_nat]
  omega
/-- the least word taken for a number -/
def firstW (v n : BitVec 64) : BitVec 64 := BitVec.ofNat 64 (firstN 18446744073709551616 v.toNat n.toNat)
/-- a taken word's rank -/
def rankL (x n : BitVec 64) : BitVec 64 := x - firstW (mulHi x n) n
/-- how many words are taken for each number -/
def eachNL (n : BitVec 64) : Nat := 18446744073709551616 / n.toNat
def eachHiL (n : BitVec 64) : BitVec 64 := BitVec.ofNat 64 (eachNL n / 18446744073709551616)
def eachLoL (n : BitVec 64) : BitVec 64 := BitVec.ofNat 64 (eachNL n)
theorem divQ_def (hi lo y : BitVec 64) : divQ hi lo y = BitVec.ofNat 64 ((hi.toNat * 18446744073709551616 + lo.toNat) / y.toNat) := rfl
theorem divR_def (hi lo y : BitVec 64) : divR hi lo y = BitVec.ofNat 64 ((hi.toNat * 18446744073709551616 + lo.toNat) % y.toNat) := rfl
/-- the division of two words by one, digit by digit -/
theorem div_words (ah al b : BitVec 64) (hb : 0 < b.toNat) :
    divQ 0#64 ah b = BitVec.ofNat 64 ((ah.toNat * 18446744073709551616 + al.toNat) / b.toNat / 18446744073709551616) ∧
    divQ (divR 0#64 ah b) al b = BitVec.ofNat 64 ((ah.toNat * 18446744073709551616 + al.toNat) / b.toNat) ∧
    divR (divR 0#64 ah b) al b = BitVec.ofNat 64 ((ah.toNat * 18446744073709551616 + al.toNat) % b.toNat) ∧ (divR 0#64 ah b).toNat < b.toNat := by
  have hr : (divR 0#64 ah b).toNat = ah.toNat % b.toNat := by
    rw [divR_def, show (0#64 : BitVec 64).toNat = 0 from rfl, Nat.zero_mul, Nat.zero_add, BitVec.toNat_ofNat]
    exact Nat.mod_eq_of_lt (Nat.lt_of_le_of_lt (Nat.mod_le _ _) ah.isLt)
  have hm := Nat.mod_lt ah.toNat hb
  have hd := Nat.div_add_mod ah.toNat b.toNat
  have hal := al.isLt
  have e : ah.toNat * 18446744073709551616 + al.toNat = (ah.toNat % b.toNat * 18446744073709551616 + al.toNat) + b.toNat * (ah.toNat / b.toNat * 18446744073709551616) := by
    rw [← Nat.mul_assoc]
    have : ah.toNat * 18446744073709551616 = b.toNat * (ah.toNat / b.toNat) * 18446744073709551616 + ah.toNat % b.toNat * 18446744073709551616 := by rw [← Nat.add_mul, hd]
    rw [this, Nat.add_assoc, Nat.add_comm]
  have hlt : (ah.toNat % b.toNat * 18446744073709551616 + al.toNat) / b.toNat < 18446744073709551616 := by
    apply (Nat.div_lt_iff_lt_mul hb).2
    have := Nat.mul_le_mul_right 18446744073709551616 (show ah.toNat % b.toNat + 1 ≤ b.toNat from hm)
    rw [Nat.succ_mul] at this
    rw [Nat.mul_comm 18446744073709551616]; omega
  refine ⟨?_, ?_, ?_, by rw [hr]; exact hm⟩
  · rw [divQ_def, show (0#64 : BitVec 64).toNat = 0 from rfl, Nat.zero_mul, Nat.zero_add, e, Nat.add_mul_div_left _ _ hb, Nat.add_mul_div_right _ _ (by decide), Nat.div_eq_of_lt hlt, Nat.zero_add]
  · rw [divQ_def, hr, e, Nat.add_mul_div_left _ _ hb]
    apply BitVec.eq_of_toNat_eq
    rw [BitVec.toNat_ofNat, BitVec.toNat_ofNat, ← M64, Nat.add_mul_mod_self_right]
  · rw [divR_def (divR 0#64 ah b), hr, e, Nat.add_mul_mod_self_left]
theorem first_words (v n : BitVec 64) (h : 0 < n.toNat) :
    (divR (divR 0#64 v n) (lossW n) n = 0#64 → divQ (divR 0#64 v n) (lossW n) n = firstW v n) ∧ (¬ divR (divR 0#64 v n) (lossW n) n = 0#64 → divQ (divR 0#64 v n) (lossW n) n + 1#64 = firstW v n) := by
  obtain ⟨-, h2, h3, -⟩ := div_words v (lossW n) n h
  rw [h2, h3]
  unfold firstW
  rw [first_q _ _ _ h, loss_nat n h]
  generalize v.toNat * 18446744073709551616 + lossN 18446744073709551616 n.toNat = p
  have hm := Nat.mod_lt p h
  have hn := n.isLt
  have e : BitVec.ofNat 64 (p % n.toNat) = 0#64 ↔ p % n.toNat = 0 := by
    constructor
    · intro hz
      have := congrArg BitVec.toNat hz
      rw [BitVec.toNat_ofNat, Nat.mod_eq_of_lt (by omega)] at this
      exact this
    · intro hz; rw [hz]
  constructor
  · intro hz; rw [if_pos (e.1 hz), Nat.add_zero]
  · intro hz; rw [if_neg (fun x => hz (e.2 x)), BitVec.ofNat_add]
theorem each_words (n : BitVec 64) (h : 0 < n.toNat) :
    divQ 0#64 1#64 n = eachHiL n ∧ divQ (divR 0#64 1#64 n) 0#64 n = eachLoL n := by
  obtain ⟨h1, h2, -, -⟩ := div_words 1#64 0#64 n h
  rw [h1, h2]
  exact ⟨rfl, rfl⟩
end Go.Proofs.Ytodflmngbkiemaa
