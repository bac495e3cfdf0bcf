/- Plain laws of multiplication and shift (chapter 20): natural numbers and bit vectors alone. No condition. -/
import Derived.Lib.TrailingZeros
namespace Go.Proofs.YthiahpkodnfdcaaDoor
/-! ranks over natural numbers. P = 2^s, Q = 2^(64-s), R = 2^room -/
def rankN (P Q R m : Nat) : Option Nat :=
  let L := m % Q
  let H := m / Q
  if L < R then some ((L - 1) * P + H) else if Q - L < R then some ((Q - L) * P + H) else none
def unrankN (P Q r : Nat) : Nat :=
  let f := r / P
  let h := r % P
  (if f % 2 = 0 then f + 1 else Q - f) + h * Q
theorem div_mul_add (L h Q : Nat) (hL : L < Q) : (L + h * Q) % Q = L ∧ (L + h * Q) / Q = h := by
  constructor
  · rw [Nat.add_mul_mod_self_right, Nat.mod_eq_of_lt hL]
  · rw [Nat.add_mul_div_right _ _ (by omega), Nat.div_eq_of_lt hL, Nat.zero_add]
theorem mul_add_div (f h P : Nat) (hh : h < P) : (f * P + h) / P = f ∧ (f * P + h) % P = h := by
  rw [Nat.add_comm]
  have := div_mul_add h f P hh
  exact ⟨this.2, this.1⟩
theorem rank_unrank (P Q R r : Nat) (hP : 0 < P) (hR : R % 2 = 0) (hQ : 2 * R ≤ Q) (hr : r < R * P) :
    rankN P Q R (unrankN P Q r) = some r := by
  have hf : r / P < R := (Nat.div_lt_iff_lt_mul hP).2 hr
  have hh : r % P < P := Nat.mod_lt _ hP
  have hd := Nat.div_add_mod r P
  unfold unrankN rankN
  simp only
  generalize r / P = f at *
  generalize r % P = h at *
  by_cases e : f % 2 = 0
  · rw [if_pos e]
    obtain ⟨e1, e2⟩ := div_mul_add (f + 1) h Q (by omega)
    rw [e1, e2, if_pos (by omega), Nat.add_sub_cancel, Nat.mul_comm]
    rw [← hd]
  · rw [if_neg e]
    obtain ⟨e1, e2⟩ := div_mul_add (Q - f) h Q (by omega)
    rw [e1, e2, if_neg (by omega), if_pos (by omega), show Q - (Q - f) = f by omega, Nat.mul_comm, hd]
theorem unrank_rank (P Q R m r : Nat) (hm : m < P * Q) (hL : m % Q % 2 = 1) (hR : R % 2 = 0) (hQ2 : Q % 2 = 0) (hQ : 2 * R ≤ Q) (h : rankN P Q R m = some r) :
    unrankN P Q r = m ∧ r < R * P := by
  have hQ0 : 0 < Q := by
    rcases Nat.eq_zero_or_pos Q with e | e
    · subst e; simp at hm
    · exact e
  have hH : m / Q < P := (Nat.div_lt_iff_lt_mul hQ0).2 (by rw [Nat.mul_comm P Q] at hm; rw [Nat.mul_comm]; exact hm)
  have hLQ := Nat.mod_lt m hQ0
  have hd := Nat.div_add_mod m Q
  unfold rankN at h
  simp only at h
  generalize m % Q = L at *
  generalize m / Q = H at *
  unfold unrankN
  simp only
  have bd : ∀ f, f < R → f * P + H < R * P := by
    intro f hf
    have := Nat.mul_le_mul_right P (show f + 1 ≤ R from hf)
    rw [Nat.succ_mul] at this; omega
  split at h
  · rename_i hlt
    injection h with h; subst h
    obtain ⟨e1, e2⟩ := mul_add_div (L - 1) H P hH
    rw [e1, e2, if_pos (by omega), show L - 1 + 1 = L by omega, Nat.mul_comm H Q]
    exact ⟨by omega, bd _ (by omega)⟩
  · rename_i hge
    split at h
    · rename_i hlt
      injection h with h; subst h
      obtain ⟨e1, e2⟩ := mul_add_div (Q - L) H P hH
      rw [e1, e2, if_neg (by omega), show Q - (Q - L) = L by omega, Nat.mul_comm H Q]
      exact ⟨by omega, bd _ hlt⟩
    · cases h
/-- m's low part is odd: so what is near is near on one side -/
theorem unrank_lt (P Q R r : Nat) (hP : 0 < P) (hQ : 2 * R ≤ Q) (hr : r < R * P) : unrankN P Q r < P * Q := by
  have hf : r / P < R := (Nat.div_lt_iff_lt_mul hP).2 hr
  have hh : r % P < P := Nat.mod_lt _ hP
  unfold unrankN; simp only
  generalize r / P = f at *
  generalize r % P = h at *
  have h1 : (if f % 2 = 0 then f + 1 else Q - f) ≤ Q := by split <;> omega
  have h3 : f % 2 = 0 → f + 1 < Q := by intro _; omega
  have h4 : ¬ f % 2 = 0 → Q - f < Q := by intro _; omega
  have h2 := Nat.mul_le_mul_right Q (show h + 1 ≤ P from hh)
  rw [Nat.succ_mul] at h2
  split <;> omega
/-! words -/
/-- how many factors 2 -/
def tzB (z : BitVec 64) : Nat := Lib.ctz 64 z.toNat
theorem tz_zero : tzB 0 = 64 := rfl
theorem tz_spec (z : BitVec 64) (h : z ≠ 0) : ∃ m, z.toNat = 2 ^ tzB z * (2 * m + 1) ∧ tzB z < 64 := by
  have h0 : z.toNat ≠ 0 := fun e => h (BitVec.eq_of_toNat_eq e)
  unfold tzB Lib.ctz
  rw [if_neg h0]
  exact Lib.ctzFrom_spec 64 z.toNat (by omega) z.isLt
/-- the odd part of a number -/
def oddB (z : BitVec 64) : BitVec 64 := z >>> tzB z
theorem oddB_spec (z : BitVec 64) (h : z ≠ 0) : (oddB z).toNat % 2 = 1 ∧ oddB z <<< tzB z = z ∧ tzB z < 64 := by
  obtain ⟨m, hm, hs⟩ := tz_spec z h
  have ho : (oddB z).toNat = 2 * m + 1 := by
    unfold oddB
    rw [BitVec.toNat_ushiftRight, Nat.shiftRight_eq_div_pow, hm, Nat.mul_div_cancel_left _ (Nat.two_pow_pos _)]
  refine ⟨by omega, ?_, hs⟩
  apply BitVec.eq_of_toNat_eq
  rw [BitVec.toNat_shiftLeft, ho, Nat.shiftLeft_eq, Nat.mul_comm, ← hm, Nat.mod_eq_of_lt z.isLt]
/-- a product's bits, when one factor is a product itself -/
theorem mul_shl (a d : BitVec 64) (s : Nat) : a * (d <<< s) = (a * d) <<< s := by
  apply BitVec.eq_of_toNat_eq
  simp only [BitVec.toNat_mul, BitVec.toNat_shiftLeft, Nat.shiftLeft_eq]
  rw [Nat.mul_mod_mod, Nat.mod_mul_mod, Nat.mul_assoc]
def lowS (s : Nat) (m : BitVec 64) : BitVec 64 := (m <<< s) >>> s
theorem pows (s : Nat) (h : s ≤ 64) : 2 ^ s * 2 ^ (64 - s) = 2 ^ 64 := by
  rw [← Nat.pow_add]; congr 1; omega
theorem lowS_nat (s : Nat) (h : s ≤ 64) (m : BitVec 64) : (lowS s m).toNat = m.toNat % 2 ^ (64 - s) := by
  unfold lowS
  rw [BitVec.toNat_ushiftRight, BitVec.toNat_shiftLeft, Nat.shiftRight_eq_div_pow, Nat.shiftLeft_eq, ← pows s h, Nat.mul_comm, Nat.mul_mod_mul_left, Nat.mul_div_cancel_left _ (Nat.two_pow_pos _)]
theorem high_nat (s : Nat) (m : BitVec 64) : (m >>> (64 - s)).toNat = m.toNat / 2 ^ (64 - s) := by
  rw [BitVec.toNat_ushiftRight, Nat.shiftRight_eq_div_pow]
theorem low_neg (s : Nat) (h : s ≤ 64) (m : BitVec 64) (hL : m.toNat % 2 ^ (64 - s) ≠ 0) : (lowS s (-m)).toNat = 2 ^ (64 - s) - m.toNat % 2 ^ (64 - s) := by
  rw [lowS_nat s h, BitVec.toNat_neg]
  have hp := pows s h
  generalize 2 ^ (64 - s) = Q at *
  generalize 2 ^ s = P at *
  have hd := Nat.div_add_mod m.toNat Q
  have hl := Nat.mod_lt m.toNat (show 0 < Q from Nat.pos_of_ne_zero (by rintro rfl; simp at hp))
  have hm := m.isLt
  generalize m.toNat % Q = L at *
  generalize m.toNat / Q = H at *
  rw [Nat.mod_eq_of_lt (by omega : 2 ^ 64 - m.toNat < 2 ^ 64), ← hp]
  have e : P * Q - m.toNat = (Q - L) + (P - 1 - H) * Q := by
    have hH : H + 1 ≤ P := by
      rcases Nat.lt_or_ge H P with g | g
      · omega
      · have := Nat.mul_le_mul_left Q g
        rw [Nat.mul_comm Q P] at this; omega
    have h1 : (P - 1 - H) * Q = P * Q - Q - Q * H := by rw [Nat.sub_mul, Nat.sub_mul, Nat.one_mul, Nat.mul_comm H Q]
    have h2 : Q * H + Q ≤ P * Q := by
      have := Nat.mul_le_mul_left Q hH
      rw [Nat.mul_add, Nat.mul_one, Nat.mul_comm Q P] at this; exact this
    omega
  rw [e, Nat.add_mul_mod_self_right, Nat.mod_eq_of_lt (by omega)]
/-- what is close -/
def someB (bits : Int) (z : BitVec 64) : Bool := decide (1 ≤ bits ∧ bits ≤ 64 ∧ z ≠ 0 ∧ (tzB z : Int) < 64 - bits)
def roomB (bits : Int) (z : BitVec 64) : Nat := 64 - bits.toNat - tzB z
/-- the rank -/
def rankB (a : BitVec 64) (bits : Int) (z : BitVec 64) : Option Nat :=
  if someB bits z = true ∧ a.toNat % 2 = 1 then rankN (2 ^ tzB z) (2 ^ (64 - tzB z)) (2 ^ roomB bits z) (a * oddB z).toNat else none
/-- the multiplier of a rank -/
def unrankB (z : BitVec 64) (r : BitVec 64) : BitVec 64 := BitVec.ofNat 64 (unrankN (2 ^ tzB z) (2 ^ (64 - tzB z)) r.toNat)
structure Sizes (bits : Int) (z : BitVec 64) : Prop where
  b1 : 1 ≤ bits
  b2 : bits ≤ 63
  z0 : z ≠ 0
  s0 : tzB z < 63
  room : roomB bits z = 64 - bits.toNat - tzB z
  r1 : 1 ≤ roomB bits z
  rQ : roomB bits z < 64 - tzB z
  odd : (oddB z).toNat % 2 = 1
theorem someB_sizes {bits : Int} {z : BitVec 64} (h : someB bits z = true) : Sizes bits z := by
  simp only [someB, decide_eq_true_eq] at h
  obtain ⟨h1, h2, h3, h4⟩ := h
  have := (oddB_spec z h3).1
  exact ⟨h1, by omega, h3, by omega, rfl, by unfold roomB; omega, by unfold roomB; omega, this⟩
theorem pow_even (n : Nat) (h : 1 ≤ n) : 2 ^ n % 2 = 0 := by
  obtain ⟨k, rfl⟩ : ∃ k, n = k + 1 := ⟨n - 1, by omega⟩
  rw [Nat.pow_succ]; omega
theorem pow_twice (a b : Nat) (h : a < b) : 2 * 2 ^ a ≤ 2 ^ b := by
  rw [Nat.mul_comm, ← Nat.pow_succ]; exact Nat.pow_le_pow_right (by decide) h
theorem mul_odd (a d : BitVec 64) (ha : a.toNat % 2 = 1) (hd : d.toNat % 2 = 1) : (a * d).toNat % 2 = 1 := by
  rw [BitVec.toNat_mul]
  have : a.toNat * d.toNat % 2 = 1 := by rw [Nat.mul_mod, ha, hd]
  omega
theorem mod_odd (m n : Nat) (h : 1 ≤ n) (hm : m % 2 = 1) : m % 2 ^ n % 2 = 1 := by
  obtain ⟨k, rfl⟩ : ∃ k, n = k + 1 := ⟨n - 1, by omega⟩
  rw [Nat.pow_succ, Nat.mul_comm, Nat.mod_mul_right_mod]; exact hm
theorem unrankN_odd (P Q r : Nat) (hQ : Q % 2 = 0) (hQ2 : r / P < Q) : unrankN P Q r % 2 = 1 := by
  unfold unrankN; simp only
  have h : r % P * Q % 2 = 0 := by rw [Nat.mul_mod, hQ]; simp
  generalize r % P * Q = t at *
  generalize r / P = f at *
  split <;> omega
/-! what the program reckons -/
theorem near_iff (q : BitVec 64) (r : Nat) : (q >>> r == 0#64) = decide (q.toNat < 2 ^ r) := by
  rw [Bool.eq_iff_iff, beq_iff_eq, decide_eq_true_eq]
  constructor
  · intro h
    have h2 := congrArg BitVec.toNat h
    rw [BitVec.toNat_ushiftRight, Nat.shiftRight_eq_div_pow] at h2
    exact Nat.lt_of_div_eq_zero (Nat.two_pow_pos r) h2
  · intro h
    apply BitVec.eq_of_toNat_eq
    rw [BitVec.toNat_ushiftRight, Nat.shiftRight_eq_div_pow, Nat.div_eq_of_lt h]; rfl
theorem shl_or (q h : BitVec 64) (s : Nat) (hs : s ≤ 64) (hq : q.toNat < 2 ^ (64 - s)) (hh : h.toNat < 2 ^ s) : (q <<< s ||| h) = BitVec.ofNat 64 (q.toNat * 2 ^ s + h.toNat) := by
  have hp := pows s hs
  have hb : q.toNat * 2 ^ s + h.toNat < 2 ^ 64 := by
    have := Nat.mul_le_mul_right (2 ^ s) (show q.toNat + 1 ≤ 2 ^ (64 - s) from hq)
    rw [Nat.succ_mul, Nat.mul_comm (2 ^ (64 - s)), hp] at this
    omega
  apply BitVec.eq_of_toNat_eq
  rw [BitVec.toNat_or, BitVec.toNat_shiftLeft, BitVec.toNat_ofNat, Nat.mod_eq_of_lt hb, Nat.mod_eq_of_lt (by rw [Nat.shiftLeft_eq]; omega), ← Nat.shiftLeft_add_eq_or_of_lt hh, Nat.shiftLeft_eq]
theorem low_bit_off (q : BitVec 64) : ((q >>> 1) <<< 1).toNat = q.toNat - q.toNat % 2 := by
  have := q.isLt
  rw [BitVec.toNat_shiftLeft, BitVec.toNat_ushiftRight, Nat.shiftRight_eq_div_pow, Nat.shiftLeft_eq]
  omega
theorem low_bit_on (q : BitVec 64) (h : q.toNat % 2 = 1) : ((q >>> 1) <<< 1 ||| 1#64) = q := by
  have := q.isLt
  rw [show ((q >>> 1) <<< 1 ||| 1#64) = BitVec.ofNat 64 ((q >>> 1).toNat * 2 ^ 1 + (1#64).toNat) from shl_or _ _ 1 (by decide) (by
    rw [BitVec.toNat_ushiftRight, Nat.shiftRight_eq_div_pow]; omega) (by decide)]
  apply BitVec.eq_of_toNat_eq
  rw [BitVec.toNat_ofNat, BitVec.toNat_ushiftRight, Nat.shiftRight_eq_div_pow]
  have : (1#64).toNat = 1 := rfl
  omega
def rkW (a : BitVec 64) (bits : Int) (z : BitVec 64) : BitVec 64 := BitVec.ofNat 64 ((rankB a bits z).getD 0)
def rkS (a : BitVec 64) (bits : Int) (z : BitVec 64) : Bool := (rankB a bits z).isSome
theorem rk_none {a : BitVec 64} {bits : Int} {z : BitVec 64} (h : rankB a bits z = none) : rkW a bits z = 0#64 ∧ rkS a bits z = false := by
  unfold rkW rkS; rw [h]; exact ⟨rfl, rfl⟩
theorem rk_some {a : BitVec 64} {bits : Int} {z : BitVec 64} {k : Nat} (h : rankB a bits z = some k) : rkW a bits z = BitVec.ofNat 64 k ∧ rkS a bits z = true := by
  unfold rkW rkS; rw [h]; exact ⟨rfl, rfl⟩
structure Parts (a : BitVec 64) (bits : Int) (z : BitVec 64) : Prop where
  sz : Sizes bits z
  low : (lowS (tzB z) (a * oddB z)).toNat = (a * oddB z).toNat % 2 ^ (64 - tzB z)
  neg : (lowS (tzB z) (-(a * oddB z))).toNat = 2 ^ (64 - tzB z) - (a * oddB z).toNat % 2 ^ (64 - tzB z)
  lo : (a * oddB z).toNat % 2 ^ (64 - tzB z) % 2 = 1
  no : (2 ^ (64 - tzB z) - (a * oddB z).toNat % 2 ^ (64 - tzB z)) % 2 = 1
  lt : (a * oddB z).toNat % 2 ^ (64 - tzB z) < 2 ^ (64 - tzB z)
  hi : ((a * oddB z) >>> (64 - tzB z)).toNat = (a * oddB z).toNat / 2 ^ (64 - tzB z)
  hl : (a * oddB z).toNat / 2 ^ (64 - tzB z) < 2 ^ tzB z
theorem parts {a : BitVec 64} {bits : Int} {z : BitVec 64} (hs : someB bits z = true) (ha : a.toNat % 2 = 1) : Parts a bits z := by
  have h := someB_sizes hs
  have h0 := h.s0
  have ho := mul_odd _ _ ha h.odd
  have h1 := mod_odd _ (64 - tzB z) (by omega) ho
  have h2 := pow_even (64 - tzB z) (by omega)
  have h3 := Nat.mod_lt (a * oddB z).toNat (Nat.two_pow_pos (64 - tzB z))
  refine ⟨h, lowS_nat _ (by omega) _, low_neg _ (by omega) _ (by omega), h1, by omega, h3, high_nat _ _, ?_⟩
  apply (Nat.div_lt_iff_lt_mul (Nat.two_pow_pos _)).2
  rw [pows _ (by omega)]
  exact BitVec.isLt _
theorem rank_case1 {a : BitVec 64} {bits : Int} {z : BitVec 64} (hs : someB bits z = true) (ha : a.toNat % 2 = 1) (hn : (lowS (tzB z) (a * oddB z) >>> roomB bits z == 0#64) = true) :
    rkS a bits z = true ∧ rkW a bits z = (((lowS (tzB z) (a * oddB z) >>> 1) <<< 1) <<< tzB z ||| (a * oddB z) >>> (64 - tzB z)) := by
  have hp := parts hs ha
  rw [near_iff, decide_eq_true_eq, hp.low] at hn
  have hk : rankB a bits z = some (((a * oddB z).toNat % 2 ^ (64 - tzB z) - 1) * 2 ^ tzB z + (a * oddB z).toNat / 2 ^ (64 - tzB z)) := by
    unfold rankB; rw [if_pos ⟨hs, ha⟩]; unfold rankN; simp only; rw [if_pos hn]
  obtain ⟨e1, e2⟩ := rk_some hk
  have h0 := hp.sz.s0
  have h1 := hp.lo
  have h2 := hp.lt
  refine ⟨e2, e1.trans ?_⟩
  rw [shl_or _ _ _ (by omega) (by rw [low_bit_off, hp.low]; omega) (by rw [hp.hi]; exact hp.hl), low_bit_off, hp.low, hp.hi, h1]
theorem rank_case2 {a : BitVec 64} {bits : Int} {z : BitVec 64} (hs : someB bits z = true) (ha : a.toNat % 2 = 1) (hn : (lowS (tzB z) (a * oddB z) >>> roomB bits z == 0#64) = false)
    (hn2 : (lowS (tzB z) (-(a * oddB z)) >>> roomB bits z == 0#64) = true) :
    rkS a bits z = true ∧ rkW a bits z = ((((lowS (tzB z) (-(a * oddB z)) >>> 1) <<< 1) ||| 1#64) <<< tzB z ||| (a * oddB z) >>> (64 - tzB z)) := by
  have hp := parts hs ha
  rw [near_iff, decide_eq_false_iff_not, hp.low] at hn
  rw [near_iff, decide_eq_true_eq, hp.neg] at hn2
  have hk : rankB a bits z = some ((2 ^ (64 - tzB z) - (a * oddB z).toNat % 2 ^ (64 - tzB z)) * 2 ^ tzB z + (a * oddB z).toNat / 2 ^ (64 - tzB z)) := by
    unfold rankB; rw [if_pos ⟨hs, ha⟩]; unfold rankN; simp only; rw [if_neg hn, if_pos hn2]
  obtain ⟨e1, e2⟩ := rk_some hk
  have h0 := hp.sz.s0
  have h1 := hp.lo
  have h2 := hp.lt
  refine ⟨e2, e1.trans ?_⟩
  rw [low_bit_on _ (by rw [hp.neg]; exact hp.no), shl_or _ _ _ (by omega) (by rw [hp.neg]; omega) (by rw [hp.hi]; exact hp.hl), hp.neg, hp.hi]
theorem rank_case3 {a : BitVec 64} {bits : Int} {z : BitVec 64} (hs : someB bits z = true) (ha : a.toNat % 2 = 1) (hn : (lowS (tzB z) (a * oddB z) >>> roomB bits z == 0#64) = false)
    (hn2 : (lowS (tzB z) (-(a * oddB z)) >>> roomB bits z == 0#64) = false) : rkS a bits z = false ∧ rkW a bits z = 0#64 := by
  have hp := parts hs ha
  rw [near_iff, decide_eq_false_iff_not, hp.low] at hn
  rw [near_iff, decide_eq_false_iff_not, hp.neg] at hn2
  have hk : rankB a bits z = none := by
    unfold rankB; rw [if_pos ⟨hs, ha⟩]; unfold rankN; simp only; rw [if_neg hn, if_neg hn2]
  obtain ⟨e1, e2⟩ := rk_none hk
  exact ⟨e2, e1⟩
theorem rank_case0 {a : BitVec 64} {bits : Int} {z : BitVec 64} (h : ¬ (someB bits z = true ∧ a.toNat % 2 = 1)) : rkS a bits z = false ∧ rkW a bits z = 0#64 := by
  have hk : rankB a bits z = none := by unfold rankB; rw [if_neg h]
  obtain ⟨e1, e2⟩ := rk_none hk
  exact ⟨e2, e1⟩
theorem unrankB_nat {bits : Int} {z r : BitVec 64} (hs : Sizes bits z) (hr : r.toNat < 2 ^ (64 - bits.toNat)) :
    (unrankB z r).toNat = unrankN (2 ^ tzB z) (2 ^ (64 - tzB z)) r.toNat ∧ r.toNat < 2 ^ roomB bits z * 2 ^ tzB z := by
  have h1 := hs.s0
  have h2 := hs.room
  have h3 := hs.b1
  have h5 := hs.r1
  have hr2 : r.toNat < 2 ^ roomB bits z * 2 ^ tzB z := by
    rw [← Nat.pow_add, show roomB bits z + tzB z = 64 - bits.toNat by omega]; exact hr
  have h4 := unrank_lt (2 ^ tzB z) (2 ^ (64 - tzB z)) (2 ^ roomB bits z) r.toNat (Nat.two_pow_pos _) (pow_twice _ _ hs.rQ) hr2
  rw [pows _ (by omega)] at h4
  exact ⟨by unfold unrankB; rw [BitVec.toNat_ofNat, Nat.mod_eq_of_lt h4], hr2⟩
theorem unrankB_odd {bits : Int} {z r : BitVec 64} (hs : Sizes bits z) (hr : r.toNat < 2 ^ (64 - bits.toNat)) : (unrankB z r).toNat % 2 = 1 := by
  obtain ⟨h1, h2⟩ := unrankB_nat hs hr
  have h3 := hs.s0
  rw [h1]
  refine unrankN_odd _ _ _ (pow_even _ (by omega)) ?_
  have := (Nat.div_lt_iff_lt_mul (Nat.two_pow_pos (tzB z))).2 h2
  have h4 := pow_twice _ _ hs.rQ
  omega
theorem inv_odd {d i : BitVec 64} (h : d * i = 1) : i.toNat % 2 = 1 := by
  have h2 : (d * i).toNat = 1 := by rw [h]; rfl
  rw [BitVec.toNat_mul] at h2
  have h3 : d.toNat * i.toNat % 2 = 1 := by omega
  rcases Nat.mod_two_eq_zero_or_one i.toNat with e | e
  · rw [Nat.mul_mod, e] at h3; simp at h3
  · exact e
theorem rank_of_unrank {bits : Int} {z r i : BitVec 64} (h : someB bits z = true) (hi : oddB z * i = 1) (hr : r.toNat < 2 ^ (64 - bits.toNat)) :
    rankB (unrankB z r * i) bits z = some r.toNat ∧ (unrankB z r * i).toNat % 2 = 1 := by
  have hs := someB_sizes h
  obtain ⟨h1, h2⟩ := unrankB_nat hs hr
  have ho := mul_odd _ _ (unrankB_odd hs hr) (inv_odd hi)
  refine ⟨?_, ho⟩
  unfold rankB
  rw [if_pos ⟨h, ho⟩]
  have e : unrankB z r * i * oddB z = unrankB z r := by
    rw [BitVec.mul_assoc, BitVec.mul_comm i, hi]
    exact BitVec.mul_one _
  rw [e, h1]
  exact rank_unrank _ _ _ _ (Nat.two_pow_pos _) (pow_even _ hs.r1) (pow_twice _ _ hs.rQ) h2
theorem unrank_of_rank {a : BitVec 64} {bits : Int} {z i : BitVec 64} {k : Nat} (hi : oddB z * i = 1) (hk : rankB a bits z = some k) :
    unrankB z (BitVec.ofNat 64 k) * i = a ∧ k < 2 ^ (64 - bits.toNat) ∧ k < 2 ^ 64 := by
  unfold rankB at hk
  split at hk
  · rename_i h
    obtain ⟨h, ha⟩ := h
    have hs := someB_sizes h
    have h0 := hs.s0
    have h3 := hs.room
    have h4 := hs.r1
    obtain ⟨h1, h2⟩ := unrank_rank _ _ _ _ k (by rw [pows _ (by omega)]; exact (a * oddB z).isLt) (mod_odd _ _ (by omega) (mul_odd _ _ ha hs.odd)) (pow_even _ hs.r1) (pow_even _ (by omega)) (pow_twice _ _ hs.rQ) hk
    rw [← Nat.pow_add, show roomB bits z + tzB z = 64 - bits.toNat by omega] at h2
    have hlt : k < 2 ^ 64 := Nat.lt_of_lt_of_le h2 (Nat.pow_le_pow_right (by decide) (by omega))
    refine ⟨?_, h2, hlt⟩
    have e : unrankB z (BitVec.ofNat 64 k) = a * oddB z := by
      apply BitVec.eq_of_toNat_eq
      unfold unrankB
      rw [BitVec.toNat_ofNat, BitVec.toNat_ofNat, Nat.mod_eq_of_lt hlt, h1, Nat.mod_eq_of_lt (BitVec.isLt _)]
    rw [e, BitVec.mul_assoc, hi]
    exact BitVec.mul_one _
  · cases hk
theorem near_of_top (u v k : Nat) (_hu : u < 2 ^ 64) (hv : v < 2 ^ 64) (h : u / 2 ^ k = v / 2 ^ k) :
    (2 ^ 64 - v + u) % 2 ^ 64 < 2 ^ k ∨ 2 ^ 64 - (2 ^ 64 - v + u) % 2 ^ 64 < 2 ^ k := by
  have h1 := Nat.div_add_mod u (2 ^ k)
  have h2 := Nat.div_add_mod v (2 ^ k)
  have h3 := Nat.mod_lt u (Nat.two_pow_pos k)
  have h4 := Nat.mod_lt v (Nat.two_pow_pos k)
  rw [h] at h1
  generalize 2 ^ k * (v / 2 ^ k) = c at *
  generalize u % 2 ^ k = p at *
  generalize v % 2 ^ k = q at *
  generalize 2 ^ k = K at *
  omega
theorem meets_some {a : BitVec 64} {bits : Int} {x y : BitVec 64} (h1 : 1 ≤ bits) (h2 : bits ≤ 64) (ha : a.toNat % 2 = 1) (hxy : x ≠ y)
    (hm : (a * x) >>> (64 - bits.toNat) = (a * y) >>> (64 - bits.toNat)) : someB bits (x - y) = true ∧ ∃ k, rankB a bits (x - y) = some k := by
  have hz : x - y ≠ 0 := by intro e; exact hxy (by have := congrArg (· + y) e; simpa [BitVec.sub_add_cancel] using this)
  generalize hzz : x - y = z at *
  obtain ⟨ho, hsh, hlt⟩ := oddB_spec z hz
  have hq := congrArg BitVec.toNat hm
  simp only [BitVec.toNat_ushiftRight, Nat.shiftRight_eq_div_pow] at hq
  have hn := near_of_top _ _ _ (a * x).isLt (a * y).isLt hq
  have e1 : (a * z).toNat = (2 ^ 64 - (a * y).toNat + (a * x).toNat) % 2 ^ 64 := by
    rw [← hzz, BitVec.mul_sub, BitVec.toNat_sub]
  rw [← e1] at hn
  have e2 : a * z = (a * oddB z) <<< tzB z := by rw [← mul_shl, hsh]
  have hmo := mul_odd a (oddB z) ha ho
  generalize hmm : a * oddB z = m at *
  have hL := mod_odd m.toNat (64 - tzB z) (by omega) hmo
  have hp := pows (tzB z) (by omega)
  have e3 : (a * z).toNat = 2 ^ tzB z * (m.toNat % 2 ^ (64 - tzB z)) := by
    rw [e2, BitVec.toNat_shiftLeft, Nat.shiftLeft_eq, ← hp, Nat.mul_comm m.toNat, Nat.mul_mod_mul_left]
  rw [e3, ← hp, ← Nat.mul_sub] at hn
  have hLt := Nat.mod_lt m.toNat (Nat.two_pow_pos (64 - tzB z))
  -- the shift is below k
  have hsk : tzB z < 64 - bits.toNat := by
    refine Nat.lt_of_not_le fun hge => ?_
    have hpow : 2 ^ (64 - bits.toNat) ≤ 2 ^ tzB z := Nat.pow_le_pow_right (by decide) hge
    rcases hn with h | h
    · have := Nat.mul_le_mul_left (2 ^ tzB z) (show 1 ≤ m.toNat % 2 ^ (64 - tzB z) by omega)
      omega
    · have := Nat.mul_le_mul_left (2 ^ tzB z) (show 1 ≤ 2 ^ (64 - tzB z) - m.toNat % 2 ^ (64 - tzB z) by omega)
      omega
  have hsome : someB bits z = true := by
    simp only [someB, decide_eq_true_eq]
    exact ⟨h1, h2, hz, by omega⟩
  refine ⟨hsome, ?_⟩
  have hroom : roomB bits z = 64 - bits.toNat - tzB z := rfl
  have hR : 2 ^ (64 - bits.toNat) = 2 ^ tzB z * 2 ^ roomB bits z := by rw [← Nat.pow_add]; congr 1; omega
  rw [hR] at hn
  unfold rankB
  rw [if_pos ⟨hsome, ha⟩, hmm]
  unfold rankN
  simp only
  rcases hn with h | h
  · have := Nat.lt_of_mul_lt_mul_left h
    rw [if_pos this]
    exact ⟨_, rfl⟩
  · have h' := Nat.lt_of_mul_lt_mul_left h
    by_cases hc : m.toNat % 2 ^ (64 - tzB z) < 2 ^ roomB bits z
    · rw [if_pos hc]; exact ⟨_, rfl⟩
    · rw [if_neg hc, if_pos h']; exact ⟨_, rfl⟩
theorem top_bits (r : BitVec 64) (s : Nat) (h : s ≤ 64) : r <<< (64 - s) = (BitVec.ofNat 64 (r.toNat % 2 ^ s)) <<< (64 - s) := by
  apply BitVec.eq_of_toNat_eq
  have hp := pows s h
  have hl : r.toNat % 2 ^ s < 2 ^ 64 := Nat.lt_of_le_of_lt (Nat.mod_le _ _) r.isLt
  rw [BitVec.toNat_shiftLeft, BitVec.toNat_shiftLeft, BitVec.toNat_ofNat, Nat.mod_eq_of_lt hl, Nat.shiftLeft_eq, Nat.shiftLeft_eq, ← hp, Nat.mul_mod_mul_right, Nat.mul_mod_mul_right, Nat.mod_mod]
theorem unrank_word {z r m : BitVec 64} (hs : tzB z ≤ 64) (hm : (lowS (tzB z) m).toNat = if r.toNat / 2 ^ tzB z % 2 = 0 then r.toNat / 2 ^ tzB z + 1 else 2 ^ (64 - tzB z) - r.toNat / 2 ^ tzB z) (hlt : (lowS (tzB z) m).toNat < 2 ^ (64 - tzB z)) :
    lowS (tzB z) m ||| r <<< (64 - tzB z) = unrankB z r := by
  rw [BitVec.or_comm, top_bits r _ hs]
  have hr : r.toNat % 2 ^ tzB z < 2 ^ 64 := Nat.lt_of_le_of_lt (Nat.mod_le _ _) r.isLt
  rw [shl_or _ _ (64 - tzB z) (by omega) (by
    rw [BitVec.toNat_ofNat, Nat.mod_eq_of_lt hr, show 64 - (64 - tzB z) = tzB z by omega]
    exact Nat.mod_lt _ (Nat.two_pow_pos _)) hlt, BitVec.toNat_ofNat, Nat.mod_eq_of_lt hr]
  unfold unrankB unrankN
  simp only
  rw [← hm, Nat.add_comm]
structure UParts (bits : Int) (z r : BitVec 64) : Prop where
  f : (r >>> tzB z).toNat = r.toNat / 2 ^ tzB z
  flt : r.toNat / 2 ^ tzB z < 2 ^ roomB bits z
  Q : 2 * 2 ^ roomB bits z ≤ 2 ^ (64 - tzB z)
theorem uparts {bits : Int} {z r : BitVec 64} (hs : someB bits z = true) (hr : r.toNat < 2 ^ (64 - bits.toNat)) : UParts bits z r := by
  have h := someB_sizes hs
  have h1 := h.room
  have h2 := h.r1
  refine ⟨by rw [BitVec.toNat_ushiftRight, Nat.shiftRight_eq_div_pow], ?_, pow_twice _ _ h.rQ⟩
  apply (Nat.div_lt_iff_lt_mul (Nat.two_pow_pos _)).2
  rw [← Nat.pow_add, show roomB bits z + tzB z = 64 - bits.toNat by omega]
  exact hr
theorem bit0 (f : BitVec 64) : (f &&& 1#64 == 1#64) = decide (f.toNat % 2 = 1) := by
  rw [Bool.eq_iff_iff, beq_iff_eq, decide_eq_true_eq]
  have e : (f &&& 1#64).toNat = f.toNat % 2 := by rw [BitVec.toNat_and]; exact Nat.and_one_is_mod _
  constructor
  · intro h; rw [← e, h]; rfl
  · intro h; apply BitVec.eq_of_toNat_eq; rw [e, h]; rfl
theorem or1 (f : BitVec 64) : (f ||| 1#64).toNat = if f.toNat % 2 = 1 then f.toNat else f.toNat + 1 := by
  rw [BitVec.toNat_or]
  show f.toNat ||| 1 = _
  have h3 := Nat.shiftLeft_add_eq_or_of_lt (show 1 < 2 ^ 1 by decide) (f.toNat / 2)
  rw [Nat.shiftLeft_eq] at h3
  split
  · rename_i h
    rw [show f.toNat / 2 * 2 ^ 1 + 1 = f.toNat by omega] at h3
    rw [h3, Nat.or_assoc, Nat.or_self]
  · rename_i h
    rw [show f.toNat / 2 * 2 ^ 1 = f.toNat by omega] at h3
    exact h3.symm
theorem unrank_val1 {bits : Int} {z r : BitVec 64} (hs : someB bits z = true) (hr : r.toNat < 2 ^ (64 - bits.toNat)) (he : ((r >>> tzB z) &&& 1#64 == 1#64) = true) :
    lowS (tzB z) (-(r >>> tzB z ||| 1#64)) ||| r <<< (64 - tzB z) = unrankB z r := by
  have hu := uparts hs hr
  have h0 := (someB_sizes hs).s0
  have h1 := hu.f
  have h2 := hu.flt
  have h3 := hu.Q
  rw [bit0, decide_eq_true_eq, h1] at he
  have e1 : (r >>> tzB z ||| 1#64).toNat = r.toNat / 2 ^ tzB z := by rw [or1, h1, if_pos he]
  have e2 : (lowS (tzB z) (-(r >>> tzB z ||| 1#64))).toNat = 2 ^ (64 - tzB z) - r.toNat / 2 ^ tzB z := by
    rw [low_neg _ (by omega) _ (by rw [e1, Nat.mod_eq_of_lt (by omega)]; omega), e1, Nat.mod_eq_of_lt (by omega)]
  exact unrank_word (by omega) (by rw [e2, if_neg (by omega)]) (by rw [e2]; omega)
theorem unrank_val2 {bits : Int} {z r : BitVec 64} (hs : someB bits z = true) (hr : r.toNat < 2 ^ (64 - bits.toNat)) (he : ((r >>> tzB z) &&& 1#64 == 1#64) = false) :
    lowS (tzB z) (r >>> tzB z ||| 1#64) ||| r <<< (64 - tzB z) = unrankB z r := by
  have hu := uparts hs hr
  have h0 := (someB_sizes hs).s0
  have h1 := hu.f
  have h2 := hu.flt
  have h3 := hu.Q
  rw [bit0, decide_eq_false_iff_not, h1] at he
  have e1 : (r >>> tzB z ||| 1#64).toNat = r.toNat / 2 ^ tzB z + 1 := by rw [or1, h1, if_neg he]
  have e2 : (lowS (tzB z) (r >>> tzB z ||| 1#64)).toNat = r.toNat / 2 ^ tzB z + 1 := by
    rw [lowS_nat _ (by omega), e1, Nat.mod_eq_of_lt (by omega)]
  exact unrank_word (by omega) (by rw [e2, if_pos (by omega)]) (by rw [e2]; omega)
end Go.Proofs.YthiahpkodnfdcaaDoor
