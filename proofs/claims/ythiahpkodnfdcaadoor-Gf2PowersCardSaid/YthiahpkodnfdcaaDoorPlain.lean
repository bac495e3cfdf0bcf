/- Plain laws of the mixers (chapter 7), of SplitMix64 (chapter 8) and of PCG32 (chapter 13): bit vectors and natural numbers alone, no program. No condition. -/
import Derived.WalkKit
namespace Go.Proofs.YthiahpkodnfdcaaDoor
/-! ### plain laws of seat A -/
abbrev Wd := BitVec 64
theorem w_mul_one (x : BitVec 64) : x * 1 = x := BitVec.mul_one x
theorem h_mul_one (x : BitVec 32) : x * 1 = x := BitVec.mul_one x
theorem w_xor_zero (x : BitVec 64) : x ^^^ 0 = x := BitVec.xor_zero
theorem w_cancel (a b : BitVec 64) : a ^^^ (a ^^^ b) = b := by rw [← BitVec.xor_assoc, BitVec.xor_self, BitVec.zero_xor]
theorem w_diff (a b c : BitVec 64) : (a ^^^ b) ^^^ (a ^^^ c) = b ^^^ c := by
  rw [BitVec.xor_comm a b, BitVec.xor_assoc, w_cancel]
def foldB (z : Wd) (n : Nat) : Wd := z ^^^ (z >>> n)
def unf (z : Wd) (n : Nat) : Nat → Wd
  | 0 => z
  | k + 1 => z ^^^ (unf z n k >>> n)
theorem ushr_xor (a b : Wd) (n : Nat) : (a ^^^ b) >>> n = (a >>> n) ^^^ (b >>> n) := by
  ext i hi; simp
theorem ushr_ushr (a : Wd) (n m : Nat) : (a >>> n) >>> m = a >>> (n + m) := by
  ext i hi; simp [Nat.add_assoc]
theorem ushr_big (a : Wd) (n : Nat) (h : 64 ≤ n) : a >>> n = 0 := by
  ext i hi
  have : a.getLsbD (n + i) = false := BitVec.getLsbD_of_ge _ _ (by omega)
  simp [this]
theorem unf_fold_err (z : Wd) (n k : Nat) : unf (foldB z n) n k = z ^^^ (z >>> (n * (k + 1))) := by
  induction k with
  | zero => simp [unf, foldB]
  | succ k ih =>
    rw [unf, ih, ushr_xor, ushr_ushr, foldB, BitVec.xor_assoc]
    congr 1
    rw [← BitVec.xor_assoc, BitVec.xor_self, BitVec.zero_xor, show n * (k + 1) + n = n * (k + 1 + 1) by rw [Nat.mul_succ n (k+1)]]
theorem unf_fold (z : Wd) (n k : Nat) (h : 64 ≤ n * (k + 1)) : unf (foldB z n) n k = z := by
  rw [unf_fold_err, ushr_big _ _ h, w_xor_zero]
theorem unf_step (z : Wd) (n k : Nat) : unf z n (k + 1) ^^^ unf z n k = z >>> (n * (k + 1)) := by
  induction k with
  | zero => simp [unf]; rw [BitVec.xor_comm, ← BitVec.xor_assoc, BitVec.xor_self, BitVec.zero_xor]
  | succ k ih =>
    have e : unf z n (k + 1 + 1) ^^^ unf z n (k + 1) = (unf z n (k + 1) ^^^ unf z n k) >>> n := by
      rw [ushr_xor]
      exact w_diff z _ _
    rw [e, ih, ushr_ushr, Nat.mul_succ n (k + 1)]
theorem fold_unf (z : Wd) (n k : Nat) (h : 64 ≤ n * (k + 1)) : foldB (unf z n k) n = z := by
  have hs := unf_step z n k
  rw [ushr_big _ _ h] at hs
  have e : unf z n (k + 1) = unf z n k := by
    have := congrArg (· ^^^ unf z n k) hs
    simpa [BitVec.xor_assoc] using this
  have h2 : unf z n (k + 1) = z ^^^ (unf z n k >>> n) := rfl
  rw [e] at h2
  unfold foldB
  conv => lhs; arg 1; rw [h2]
  rw [BitVec.xor_assoc, BitVec.xor_self, BitVec.xor_zero]
/-- the number of rounds of Unfold -/
def rounds (n : Nat) : Nat := (63 / n)
theorem rounds_ok (n : Nat) (h : 1 ≤ n) : 64 ≤ n * (rounds n + 1) := by
  unfold rounds
  have := Nat.div_add_mod 63 n
  have h2 := Nat.mod_lt 63 (show 0 < n by omega)
  rw [Nat.mul_succ]; omega
def unfoldB (z : Wd) (n : Nat) : Wd := unf z n (rounds n)
theorem unfoldB_foldB (z : Wd) (n : Nat) (h : 1 ≤ n) : unfoldB (foldB z n) n = z := unf_fold z n _ (rounds_ok n h)
theorem foldB_unfoldB (z : Wd) (n : Nat) (h : 1 ≤ n) : foldB (unfoldB z n) n = z := fold_unf z n _ (rounds_ok n h)
def mixB (a b c : Nat) (x y : Wd) (z : Wd) : Wd := foldB (foldB (foldB z a * x) b * y) c
def unmixB (a b c : Nat) (x y : Wd) (z : Wd) : Wd := unfoldB (unfoldB (unfoldB z c * y) b * x) a
theorem unmix_mix (a b c : Nat) (x y x' y' z : Wd) (ha : 1 ≤ a) (hb : 1 ≤ b) (hc : 1 ≤ c) (hx : x * x' = 1) (hy : y * y' = 1) :
    unmixB a b c x' y' (mixB a b c x y z) = z := by
  unfold unmixB mixB
  rw [unfoldB_foldB _ _ hc, BitVec.mul_assoc, hy, w_mul_one, unfoldB_foldB _ _ hb, BitVec.mul_assoc, hx, w_mul_one, unfoldB_foldB _ _ ha]
theorem mix_unmix (a b c : Nat) (x y x' y' z : Wd) (ha : 1 ≤ a) (hb : 1 ≤ b) (hc : 1 ≤ c) (hx : x * x' = 1) (hy : y * y' = 1) :
    mixB a b c x y (unmixB a b c x' y' z) = z := by
  unfold unmixB mixB
  rw [foldB_unfoldB _ _ ha, BitVec.mul_assoc, BitVec.mul_comm x', hx, w_mul_one, foldB_unfoldB _ _ hb, BitVec.mul_assoc, BitVec.mul_comm y', hy, w_mul_one, foldB_unfoldB _ _ hc]
def oddStep (a x : Wd) : Wd := x * (2 - a * x)
def oddInv (a : Wd) : Wd := oddStep a (oddStep a (oddStep a (oddStep a (oddStep a a))))
def splitC1 : Wd := 0xbf58476d1ce4e5b9
def splitC2 : Wd := 0x94d049bb133111eb
def fmixC1 : Wd := 0xff51afd7ed558ccd
def fmixC2 : Wd := 0xc4ceb9fe1a85ec53
def gamma : Wd := 0x9e3779b97f4a7c15
def timesC : Wd := 6364136223846793005
theorem inv_s1 : splitC1 * oddInv splitC1 = 1 := by decide +kernel
theorem inv_s2 : splitC2 * oddInv splitC2 = 1 := by decide +kernel
theorem inv_f1 : fmixC1 * oddInv fmixC1 = 1 := by decide +kernel
theorem inv_f2 : fmixC2 * oddInv fmixC2 = 1 := by decide +kernel
theorem inv_g : gamma * oddInv gamma = 1 := by decide +kernel
theorem inv_t : timesC * oddInv timesC = 1 := by decide +kernel
def splitB (z : Wd) : Wd := mixB 30 27 31 splitC1 splitC2 z
def unsplitB (z : Wd) : Wd := unmixB 30 27 31 (oddInv splitC1) (oddInv splitC2) z
def fmixB (z : Wd) : Wd := mixB 33 33 33 fmixC1 fmixC2 z
def unfmixB (z : Wd) : Wd := unmixB 33 33 33 (oddInv fmixC1) (oddInv fmixC2) z
theorem unsplit_split (z : Wd) : unsplitB (splitB z) = z := unmix_mix _ _ _ _ _ _ _ _ (by decide) (by decide) (by decide) inv_s1 inv_s2
theorem split_unsplit (z : Wd) : splitB (unsplitB z) = z := mix_unmix _ _ _ _ _ _ _ _ (by decide) (by decide) (by decide) inv_s1 inv_s2
theorem unfmix_fmix (z : Wd) : unfmixB (fmixB z) = z := unmix_mix _ _ _ _ _ _ _ _ (by decide) (by decide) (by decide) inv_f1 inv_f2
theorem fmix_unfmix (z : Wd) : fmixB (unfmixB z) = z := mix_unmix _ _ _ _ _ _ _ _ (by decide) (by decide) (by decide) inv_f1 inv_f2
theorem split_inj {x y : Wd} : splitB x = splitB y ↔ x = y := ⟨fun h => by rw [← unsplit_split x, h, unsplit_split], fun h => by rw [h]⟩
theorem fmix_inj {x y : Wd} : fmixB x = fmixB y ↔ x = y := ⟨fun h => by rw [← unfmix_fmix x, h, unfmix_fmix], fun h => by rw [h]⟩
/-! 32 bits -/
abbrev Hw := BitVec 32
def f32 (n : Nat) (z : Hw) : Hw := z ^^^ (z >>> n)
theorem ushr_xor32 (a b : Hw) (n : Nat) : (a ^^^ b) >>> n = (a >>> n) ^^^ (b >>> n) := by
  ext i hi; simp
theorem f32_16 (z : Hw) : f32 16 (f32 16 z) = z := by
  unfold f32; ext i hi; simp
  have : z.getLsbD (16 + (16 + i)) = false := BitVec.getLsbD_of_ge _ _ (by omega)
  simp [this]
def g32 (z : Hw) : Hw := z ^^^ (z >>> 13 ^^^ z >>> 26)
theorem g32_f32 (z : Hw) : g32 (f32 13 z) = z := by
  unfold f32 g32; ext i hi; simp
  have : z.getLsbD (13 + (26 + i)) = false := BitVec.getLsbD_of_ge _ _ (by omega)
  rw [this, show 13 + (13 + i) = 26 + i by omega]
  cases z.getLsbD (13 + i) <;> cases z.getLsbD (26 + i) <;> simp
theorem f32_g32 (z : Hw) : f32 13 (g32 z) = z := by
  unfold f32 g32; ext i hi; simp
  have : z.getLsbD (26 + (13 + i)) = false := BitVec.getLsbD_of_ge _ _ (by omega)
  rw [this, show 13 + (13 + i) = 26 + i by omega]
  cases z.getLsbD (13 + i) <;> cases z.getLsbD (26 + i) <;> simp
def hC1 : Hw := 0x85ebca6b
def hC2 : Hw := 0xc2b2ae35
def hI1 : Hw := (oddInv 0x85ebca6b).setWidth 32
def hI2 : Hw := (oddInv 0xc2b2ae35).setWidth 32
theorem inv_h1 : hC1 * hI1 = 1 := by decide +kernel
theorem inv_h2 : hC2 * hI2 = 1 := by decide +kernel
def fmix32 (h : Hw) : Hw := f32 16 (f32 13 (f32 16 h * hC1) * hC2)
def unfmix32 (h : Hw) : Hw := f32 16 (g32 (f32 16 h * hI2) * hI1)
theorem unfmix32_fmix32 (h : Hw) : unfmix32 (fmix32 h) = h := by
  unfold unfmix32 fmix32
  rw [f32_16, BitVec.mul_assoc, inv_h2, h_mul_one, g32_f32, BitVec.mul_assoc, inv_h1, h_mul_one, f32_16]
theorem fmix32_unfmix32 (h : Hw) : fmix32 (unfmix32 h) = h := by
  unfold unfmix32 fmix32
  rw [f32_16, BitVec.mul_assoc, BitVec.mul_comm hI1, inv_h1, h_mul_one, f32_g32, BitVec.mul_assoc, BitVec.mul_comm hI2, inv_h2, h_mul_one, f32_16]
theorem fmix32_inj {x y : Hw} : fmix32 x = fmix32 y ↔ x = y := ⟨fun h => by rw [← unfmix32_fmix32 x, h, unfmix32_fmix32], fun h => by rw [h]⟩
def stepB (s inc : Wd) : Wd := s * timesC + (inc ||| 1)
def itr (f : Wd → Wd) : Nat → Wd → Wd
  | 0, s => s
  | n + 1, s => f (itr f n s)
theorem itr_add (f : Wd → Wd) (a b : Nat) (s : Wd) : itr f b (itr f a s) = itr f (a + b) s := by
  induction b with
  | zero => rfl
  | succ b ih => show f (itr f b (itr f a s)) = f (itr f (a + b) s); rw [ih]
theorem itr_mul (f : Wd → Wd) (a m : Nat) (s : Wd) : itr (itr f a) m s = itr f (a * m) s := by
  induction m with
  | zero => rfl
  | succ m ih => show itr f a _ = _; rw [ih, itr_add, Nat.mul_succ]
/-- what 2^i steps do: the factor, and what is added for the increment 1 -/
def lt : Nat → Wd
  | 0 => timesC
  | i + 1 => lt i * lt i
def lq : Nat → Wd
  | 0 => 1
  | i + 1 => lq i * (lt i + 1)
theorem w_one_mul (x : Wd) : 1 * x = x := BitVec.one_mul x
theorem lin_pow (inc : Wd) (i : Nat) (s : Wd) : itr (stepB · inc) (2 ^ i) s = s * lt i + (inc ||| 1) * lq i := by
  induction i generalizing s with
  | zero => show stepB s inc = _; simp only [stepB, lt, lq]; rw [show (inc ||| 1) * 1 = (inc ||| 1) from BitVec.mul_one _]
  | succ i ih =>
    rw [Nat.pow_succ, Nat.mul_two, ← itr_add, ih, ih]
    simp only [lt, lq]
    generalize (inc ||| 1) = c
    rw [BitVec.add_mul, BitVec.mul_add, BitVec.mul_add, show lq i * 1 = lq i from BitVec.mul_one _, BitVec.mul_assoc, BitVec.mul_assoc, BitVec.add_assoc]
theorem lin_end : lt 64 = 1 ∧ lq 64 = 0 := by decide +kernel
theorem itr_all (inc : Wd) (s : Wd) : itr (stepB · inc) (2 ^ 64) s = s := by
  rw [lin_pow, lin_end.1, lin_end.2]
  rw [show s * 1 = s from BitVec.mul_one _, show (inc ||| 1) * 0 = 0 from BitVec.mul_zero, show s + 0 = s from BitVec.add_zero _]
def advB (s inc n : Wd) : Wd := itr (stepB · inc) n.toNat s
theorem itr_mod (f : Wd → Wd) (N : Nat) (hN : ∀ s, itr f N s = s) (k : Nat) (s : Wd) : itr f (k % N) s = itr f k s := by
  have hc : ∀ q s, itr f (N * q) s = s := by
    intro q s
    rw [← itr_mul]
    induction q with
    | zero => rfl
    | succ q ih => show itr _ _ (itr _ q s) = s; rw [hN, ih]
  conv => rhs; rw [← Nat.div_add_mod k N, ← itr_add, hc]
theorem advB_add (s inc n m : Wd) : advB (advB s inc n) inc m = advB s inc (n + m) := by
  unfold advB
  rw [itr_add, BitVec.toNat_add, itr_mod _ _ (itr_all inc)]
theorem lin_low : ∀ i : Fin 64, (lt i.val).toNat % 2 ^ (i.val + 1) = 1 ∧ (lq i.val).toNat % 2 ^ (i.val + 1) = 2 ^ i.val := by decide +kernel
theorem or_one_odd (inc : Wd) : (inc ||| 1).toNat % 2 = 1 := by simp
theorem mod_pow (a : Nat) (i j : Nat) (h : i ≤ j) : a % 2 ^ j % 2 ^ i = a % 2 ^ i := by
  apply Nat.mod_mod_of_dvd
  exact Nat.pow_dvd_pow 2 h
theorem step_low (inc : Wd) (i : Nat) (hi : i < 64) (s : Wd) : (itr (stepB · inc) (2 ^ i) s).toNat % 2 ^ (i + 1) = (s.toNat + 2 ^ i) % 2 ^ (i + 1) := by
  rw [lin_pow, BitVec.toNat_add, BitVec.toNat_mul, BitVec.toNat_mul, mod_pow _ _ _ (by omega)]
  obtain ⟨h1, h2⟩ := lin_low ⟨i, hi⟩
  simp only at h1 h2
  have ho := or_one_odd inc
  rw [Nat.add_mod, mod_pow _ _ _ (by omega), mod_pow _ _ _ (by omega), Nat.mul_mod, h1, Nat.mul_mod (inc ||| 1).toNat, h2]
  rw [Nat.mul_one, Nat.mod_mod, ← Nat.add_mod, ]
  have h3 : (inc ||| 1).toNat % 2 ^ (i + 1) * 2 ^ i % 2 ^ (i + 1) = 2 ^ i := by
    have e : (inc ||| 1).toNat % 2 ^ (i + 1) % 2 = 1 := by
      rw [Nat.mod_mod_of_dvd _ (by rw [Nat.pow_succ]; exact Nat.dvd_mul_left _ _)]; exact ho
    generalize (inc ||| 1).toNat % 2 ^ (i + 1) = c at e
    rw [Nat.pow_succ, Nat.mul_comm c, Nat.mul_mod_mul_left, e, Nat.mul_one]
  conv => lhs; rw [Nat.add_mod, h3]
  rw [Nat.add_mod s.toNat (2 ^ i)]
  have : 2 ^ i % 2 ^ (i + 1) = 2 ^ i := Nat.mod_eq_of_lt (by rw [Nat.pow_succ]; have := Nat.two_pow_pos i; omega)
  rw [this, Nat.add_mod (s.toNat % 2 ^ (i+1)), Nat.mod_mod, this]
theorem steps_low (inc : Wd) (i : Nat) (hi : i < 64) (m : Nat) (s : Wd) : (itr (stepB · inc) (2 ^ i * m) s).toNat % 2 ^ (i + 1) = (s.toNat + 2 ^ i * m) % 2 ^ (i + 1) := by
  rw [← itr_mul]
  induction m with
  | zero => rfl
  | succ m ih =>
    show (itr _ _ (itr _ m s)).toNat % _ = _
    rw [step_low inc i hi, Nat.add_mod, ih, Nat.mul_succ, ← Nat.add_assoc, Nat.add_mod (s.toNat + 2 ^ i * m)]
theorem dvd_of_fix (inc : Wd) (y : Wd) (d : Nat) (h : itr (stepB · inc) d y = y) (i : Nat) (hi : i ≤ 64) : 2 ^ i ∣ d := by
  induction i with
  | zero => simp
  | succ i ih =>
    obtain ⟨m, rfl⟩ := ih (by omega)
    have h2 := steps_low inc i (by omega) m y
    rw [h] at h2
    rw [Nat.pow_succ]
    apply Nat.mul_dvd_mul_left
    have hp : 0 < 2 ^ i := Nat.two_pow_pos i
    rcases Nat.mod_two_eq_zero_or_one m with e | e
    · exact Nat.dvd_of_mod_eq_zero e
    · exfalso
      have hm : m = 2 * (m / 2) + 1 := by omega
      have h3 : (y.toNat + 2 ^ i * m) % 2 ^ (i + 1) = (y.toNat + 2 ^ i) % 2 ^ (i + 1) := by
        have : 2 ^ i * m = 2 ^ (i + 1) * (m / 2) + 2 ^ i := by
          conv => lhs; rw [hm]
          rw [Nat.mul_add, Nat.mul_one, Nat.pow_succ, Nat.mul_assoc]
        rw [this, Nat.add_comm (2 ^ (i+1) * (m/2)), ← Nat.add_assoc, Nat.add_mul_mod_self_left]
      rw [h3] at h2
      have hq : 2 ^ (i + 1) = 2 * 2 ^ i := by rw [Nat.pow_succ, Nat.mul_comm]
      rw [hq] at h2
      generalize 2 ^ i = p at *
      have hlt := Nat.mod_lt y.toNat (show 0 < 2 * p by omega)
      rw [Nat.add_mod] at h2
      have hpm : p % (2 * p) = p := Nat.mod_eq_of_lt (by omega)
      rw [hpm] at h2
      generalize y.toNat % (2 * p) = r at *
      by_cases hr : r + p < 2 * p
      · rw [Nat.mod_eq_of_lt hr] at h2; omega
      · rw [Nat.mod_eq_sub_mod (by omega), Nat.mod_eq_of_lt (by omega)] at h2; omega
theorem itr_inj (inc : Wd) (f : Wd → Wd) (hf : f = (stepB · inc)) (a b : Nat) (ha : a < 2 ^ 64) (hb : b < 2 ^ 64) (s : Wd) (h : itr f a s = itr f b s) : a = b := by
  subst hf
  have key : ∀ a b : Nat, a ≤ b → b < 2 ^ 64 → itr (stepB · inc) a s = itr (stepB · inc) b s → a = b := by
    intro a b hab hb h
    have : itr (stepB · inc) (b - a) (itr (stepB · inc) a s) = itr (stepB · inc) a s := by
      rw [itr_add, show a + (b - a) = b by omega, ← h]
    have := dvd_of_fix inc _ _ this 64 (by omega)
    have h0 := Nat.eq_zero_of_dvd_of_lt this (by omega)
    omega
  rcases Nat.le_total a b with hab | hab
  · exact key a b hab hb h
  · exact (key b a hab ha h.symm).symm
theorem advB_inj (s inc n m : Wd) (h : advB s inc n = advB s inc m) : n = m :=
  BitVec.eq_of_toNat_eq (itr_inj inc _ rfl _ _ n.isLt m.isLt s h)
theorem advB_zero (s inc : Wd) : advB s inc 0 = s := rfl
theorem advB_one (s inc : Wd) : advB s inc 1 = stepB s inc := rfl
theorem half_swap (a b p : Nat) (hp : 0 < p) (la : a < 2 * p) (lb : b < 2 * p) (h : a % p = b % p) (hne : a ≠ b) : (a + p) % (2 * p) = b := by
  have ea : a < p ∧ a % p = a ∨ p ≤ a ∧ a % p = a - p := by
    by_cases x : a < p
    · exact .inl ⟨x, Nat.mod_eq_of_lt x⟩
    · exact .inr ⟨by omega, by rw [Nat.mod_eq_sub_mod (by omega), Nat.mod_eq_of_lt (by omega)]⟩
  have eb : b < p ∧ b % p = b ∨ p ≤ b ∧ b % p = b - p := by
    by_cases x : b < p
    · exact .inl ⟨x, Nat.mod_eq_of_lt x⟩
    · exact .inr ⟨by omega, by rw [Nat.mod_eq_sub_mod (by omega), Nat.mod_eq_of_lt (by omega)]⟩
  by_cases hr : a + p < 2 * p
  · rw [Nat.mod_eq_of_lt hr]; omega
  · rw [Nat.mod_eq_sub_mod (by omega), Nat.mod_eq_of_lt (by omega)]; omega
/-- one round of Steps: the bit i of s and t -/
theorem round_eq (inc : Wd) (i : Nat) (hi : i < 64) (s t : Wd) (h : s.toNat % 2 ^ i = t.toNat % 2 ^ i) (hne : s.toNat % 2 ^ (i + 1) ≠ t.toNat % 2 ^ (i + 1)) :
    (s * lt i + (inc ||| 1) * lq i).toNat % 2 ^ (i + 1) = t.toNat % 2 ^ (i + 1) := by
  rw [← lin_pow, step_low inc i hi]
  have hq : 2 ^ (i + 1) = 2 * 2 ^ i := by rw [Nat.pow_succ, Nat.mul_comm]
  have hp : 0 < 2 ^ i := Nat.two_pow_pos i
  rw [hq] at hne ⊢
  have e1 : s.toNat % (2 * 2 ^ i) % 2 ^ i = s.toNat % 2 ^ i := Nat.mod_mod_of_dvd _ (Nat.dvd_mul_left _ _)
  have e2 : t.toNat % (2 * 2 ^ i) % 2 ^ i = t.toNat % 2 ^ i := Nat.mod_mod_of_dvd _ (Nat.dvd_mul_left _ _)
  have l1 := Nat.mod_lt s.toNat (show 0 < 2 * 2 ^ i by omega)
  have l2 := Nat.mod_lt t.toNat (show 0 < 2 * 2 ^ i by omega)
  rw [Nat.add_mod, show 2 ^ i % (2 * 2 ^ i) = 2 ^ i from Nat.mod_eq_of_lt (by omega)]
  rw [← e1, ← e2] at h
  exact half_swap _ _ _ hp l1 l2 h hne
/-! rotations, and ref07.Fold bit by bit -/
theorem rot1_64 (x : BitVec 64) : x * 2#64 + x / 9223372036854775808#64 = x.rotateLeft 1 := by
  have e1 : x * 2#64 = x <<< 1 := by
    apply BitVec.eq_of_toNat_eq; simp [Nat.shiftLeft_eq]
  have e2 : x / 9223372036854775808#64 = x >>> 63 := by
    apply BitVec.eq_of_toNat_eq; simp [Nat.shiftRight_eq_div_pow]
  rw [e1, e2, BitVec.add_eq_or_of_and_eq_zero, BitVec.rotateLeft_def]
  ext i hi
  simp
  intro h1 h2
  exact BitVec.getLsbD_of_ge _ _ (by omega)
theorem rot1_32 (x : BitVec 32) : x * 2#32 + x / 2147483648#32 = x.rotateLeft 1 := by
  have e1 : x * 2#32 = x <<< 1 := by
    apply BitVec.eq_of_toNat_eq; simp [Nat.shiftLeft_eq]
  have e2 : x / 2147483648#32 = x >>> 31 := by
    apply BitVec.eq_of_toNat_eq; simp [Nat.shiftRight_eq_div_pow]
  rw [e1, e2, BitVec.add_eq_or_of_and_eq_zero, BitVec.rotateLeft_def]
  ext i hi
  simp
  intro h1 h2
  exact BitVec.getLsbD_of_ge _ _ (by omega)
theorem rot_succ {w : Nat} (x : BitVec w) (a : Nat) (h : a + 1 < w) : (x.rotateLeft a).rotateLeft 1 = x.rotateLeft (a + 1) := by
  ext i hi
  simp only [BitVec.getElem_rotateLeft, Nat.mod_eq_of_lt h, Nat.mod_eq_of_lt (show a < w by omega), Nat.mod_eq_of_lt (show 1 < w by omega)]
  repeat' split
  all_goals (first | (exfalso; omega) | (congr 1; omega))
/-- load.Rot64's words -/
theorem rot_or_64 (x : BitVec 64) (n : Nat) (h : n < 64) : (x <<< n ||| x >>> (64 - n)) = x.rotateLeft n := by
  rw [BitVec.rotateLeft_def, Nat.mod_eq_of_lt h]
theorem rot_or_32 (x : BitVec 32) (n : Nat) (h : n < 32) : (x <<< n ||| x >>> (32 - n)) = x.rotateLeft n := by
  rw [BitVec.rotateLeft_def, Nat.mod_eq_of_lt h]
theorem bit_mod (z : BitVec 64) (i : Nat) : (z >>> i) % 2#64 = if z.getLsbD i then 1#64 else 0#64 := by
  apply BitVec.eq_of_toNat_eq
  rw [BitVec.toNat_umod, BitVec.toNat_ushiftRight]
  have : (z >>> i).getLsbD 0 = z.getLsbD i := by simp
  rw [← this, BitVec.getLsbD, Nat.testBit_zero, BitVec.toNat_ushiftRight]
  have h2 := Nat.mod_two_eq_zero_or_one (z.toNat >>> i)
  rcases h2 with h | h <;> simp [h]
def lowB (x : BitVec 64) (i : Nat) : BitVec 64 := BitVec.ofNat 64 (x.toNat % 2 ^ i)
theorem lowB_zero (x : BitVec 64) : lowB x 0 = 0#64 := by simp [lowB, Nat.mod_one]
theorem lowB_full (x : BitVec 64) : lowB x 64 = x := by
  apply BitVec.eq_of_toNat_eq; simp [lowB, Nat.mod_eq_of_lt x.isLt]
theorem lowB_succ (x : BitVec 64) (i : Nat) (hi : i < 64) : lowB x (i + 1) = lowB x i + (if x.getLsbD i then 1#64 else 0#64) <<< i := by
  have hp : 2 ^ (i + 1) ≤ 2 ^ 64 := Nat.pow_le_pow_right (by decide) (by omega)
  have hb : (if x.getLsbD i then 1#64 else 0#64).toNat = x.toNat / 2 ^ i % 2 := by
    rw [← bit_mod]; simp [Nat.shiftRight_eq_div_pow]
  apply BitVec.eq_of_toNat_eq
  rw [BitVec.toNat_add, BitVec.toNat_shiftLeft, hb]
  have h1 : x.toNat % 2 ^ (i + 1) < 2 ^ (i + 1) := Nat.mod_lt _ (Nat.two_pow_pos _)
  have h2 : x.toNat % 2 ^ i < 2 ^ i := Nat.mod_lt _ (Nat.two_pow_pos _)
  have hs := Nat.mod_pow_succ (b := 2) (k := i) (x := x.toNat)
  have hq : 2 ^ (i + 1) = 2 * 2 ^ i := by rw [Nat.pow_succ, Nat.mul_comm]
  simp only [lowB, BitVec.toNat_ofNat, Nat.shiftLeft_eq]
  rw [Nat.mod_eq_of_lt (by omega : x.toNat % 2 ^ (i + 1) < 2 ^ 64), Nat.mod_eq_of_lt (by omega : x.toNat % 2 ^ i < 2 ^ 64)]
  have h3 : x.toNat / 2 ^ i % 2 * 2 ^ i < 2 ^ 64 := by
    have : x.toNat / 2 ^ i % 2 < 2 := Nat.mod_lt _ (by decide)
    have := Nat.mul_le_mul_right (2 ^ i) (show x.toNat / 2 ^ i % 2 ≤ 1 by omega)
    omega
  have h4 : x.toNat % 2 ^ i + x.toNat / 2 ^ i % 2 * 2 ^ i = x.toNat % 2 ^ (i + 1) := by rw [hs, Nat.mul_comm (2 ^ i)]
  rw [Nat.mod_eq_of_lt h3, h4, Nat.mod_eq_of_lt (Nat.lt_of_lt_of_le h1 hp)]
/-- one round of ref07.Fold -/
theorem foldRef_both (z : BitVec 64) (n i : Nat) (hi : i < 64) (_hin : i + n < 64) :
    lowB (z ^^^ z >>> n) i + ((z >>> i % 2#64 + z >>> (i + n) % 2#64) % 2#64) <<< i = lowB (z ^^^ z >>> n) (i + 1) := by
  rw [lowB_succ _ _ hi, bit_mod, bit_mod]
  congr 2
  have : (z ^^^ z >>> n).getLsbD i = (z.getLsbD i ^^ z.getLsbD (i + n)) := by simp [Nat.add_comm]
  rw [this]
  cases z.getLsbD i <;> cases z.getLsbD (i + n) <;> decide
theorem foldRef_one (z : BitVec 64) (n i : Nat) (hi : i < 64) (hin : ¬ i + n < 64) :
    lowB (z ^^^ z >>> n) i + (z >>> i % 2#64 % 2#64) <<< i = lowB (z ^^^ z >>> n) (i + 1) := by
  rw [lowB_succ _ _ hi, bit_mod]
  congr 2
  have h0 : z.getLsbD (n + i) = false := BitVec.getLsbD_of_ge _ _ (by omega)
  have : (z ^^^ z >>> n).getLsbD i = z.getLsbD i := by simp [h0]
  rw [this]
  cases z.getLsbD i <;> decide

/-! ### what the walks want -/
theorem refstep_odd (inc : Wd) (h : (inc % 2#64 == 0#64) = true) : inc + 1#64 = (inc ||| 1#64) := by
  have h1 : inc % 2#64 = 0#64 := by simpa using h
  have h2 : inc.toNat % 2 = 0 := by have := congrArg BitVec.toNat h1; simpa using this
  rw [BitVec.add_eq_or_of_and_eq_zero]
  ext i hi
  simp
  intro h3 h4
  subst h4
  have : inc.getLsbD 0 = true := by simpa using h3
  rw [BitVec.getLsbD, Nat.testBit_zero] at this
  simp at this; omega
theorem refstep_same (inc : Wd) (h : (inc % 2#64 == 0#64) = false) : inc = (inc ||| 1#64) := by
  have h1 : ¬ inc % 2#64 = 0#64 := by simpa using h
  have h2 : inc.toNat % 2 = 1 := by
    rcases Nat.mod_two_eq_zero_or_one inc.toNat with e | e
    · exact absurd (BitVec.eq_of_toNat_eq (by simpa using e)) h1
    · exact e
  have h0 : inc.getLsbD 0 = true := by rw [BitVec.getLsbD, Nat.testBit_zero]; simp [h2]
  ext i hi
  simp
  intro h4
  subst h4
  simpa using h0
/-- PCG32's word of a state -/
def outB (s : Wd) : BitVec 32 := (((s >>> 18 ^^^ s) >>> 27).setWidth 32).rotateLeft ((32 - (s >>> 59).toNat) % 32)
/-- Advance behind k rounds: n's lowest k bits -/
def advK (s inc n : Wd) (k : Nat) : Wd := itr (stepB · inc) (n.toNat % 2 ^ k) s
theorem advK_zero (s inc n : Wd) : advK s inc n 0 = s := by simp [advK, Nat.mod_one, itr]
end Go.Proofs.YthiahpkodnfdcaaDoor
