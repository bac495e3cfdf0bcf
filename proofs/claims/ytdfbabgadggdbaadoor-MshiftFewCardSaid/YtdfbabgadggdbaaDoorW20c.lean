/- The walks of chapter 20's reference and the bound. No condition but the table of trailing zeros. -/
import Derived.Test.YtdfbabgadggdbaaDoorW20
namespace Go.Proofs.YtdfbabgadggdbaaDoor
open Go.RowKit
theorem ui_half (x : BitVec 64) (k : Nat) : x >>> k / 2#64 = x >>> (k + 1) := by
  apply BitVec.eq_of_toNat_eq
  rw [BitVec.toNat_udiv, BitVec.toNat_ushiftRight, BitVec.toNat_ushiftRight, Nat.shiftRight_eq_div_pow, Nat.shiftRight_eq_div_pow, Nat.pow_succ]
  show _ / 2 = _
  rw [Nat.div_div_eq_div_mul]
theorem tz_even (z : BitVec 64) (k : Nat) (h : k < tzB z) : (z >>> k % 2#64 == 0#64) = true := by
  rw [even_nat, decide_eq_true_eq, BitVec.toNat_ushiftRight, Nat.shiftRight_eq_div_pow]
  by_cases h0 : z = 0
  · subst h0
    show 0 / 2 ^ k % 2 = 0
    rw [Nat.zero_div]
  · obtain ⟨m, hm, _⟩ := tz_spec z h0
    rw [hm]
    obtain ⟨d, hd⟩ : ∃ d, tzB z = k + (d + 1) := ⟨tzB z - k - 1, by omega⟩
    rw [hd, Nat.pow_add, Nat.mul_assoc, Nat.mul_div_cancel_left _ (Nat.two_pow_pos k), Nat.pow_succ, Nat.mul_assoc, Nat.mul_left_comm]
    exact Nat.mul_mod_right _ _
theorem tz_odd (z : BitVec 64) (h0 : z ≠ 0) : (z >>> tzB z % 2#64 == 0#64) = false := by
  rw [even_nat, decide_eq_false_iff_not]
  have := (oddB_spec z h0).1
  unfold oddB at this
  omega
theorem tz_le (z : BitVec 64) : tzB z ≤ 64 := by
  by_cases h0 : z = 0
  · subst h0; decide
  · have := (oddB_spec z h0).2.2; omega
theorem twos_any (z : BitVec 64) (w : World) :
    Calls Tryd.prog 18 #[.int .u64 (ui z)] w fun e w' => e = .returned (.int .i64 (tzB z)) ∧ w = w' := by
  have hle := tz_le z
  go_enter Tryd.func18, Tryd.ntmps18
  go_wp2_with fail
  go_loop [0, 3] (fun a n => ∃ k : Nat, k ≤ tzB z ∧ n = .int .i64 k ∧ a = .int .u64 (ui (z >>> k))) (fun _ n => 64 - (intOf n).toNat)
  case atStart => exact ⟨0, by omega, rfl, by rw [BitVec.ushiftRight_zero]⟩
  case round =>
    obtain ⟨k, hk, rfl, rfl⟩ := hrel
    by_cases hlt : k < tzB z
    · have he := tz_even z k hlt
      have hhalf := ui_half z k
      have h64 : (k : Int) < 64 := by omega
      go_wp2_with fail
      go_round
      case rel => exact ⟨k + 1, by omega, by go_num, rfl⟩
      case measure => simp [intOf]; omega
    · obtain rfl : k = tzB z := by omega
      by_cases h0 : z = 0
      · subst h0
        have h64 : ¬ ((tzB 0 : Nat) : Int) < 64 := by decide
        go_wp2_with fail
        go_ret
        exact ⟨rfl, rfl⟩
      · have he := tz_odd z h0
        have hs := (oddB_spec z h0).2.2
        have h64 : ((tzB z : Nat) : Int) < 64 := by omega
        clear h0
        go_wp2_with fail
        go_ret
        exact ⟨rfl, rfl⟩
theorem pow_two (k : Nat) : 1#64 <<< k * 2#64 = 1#64 <<< (k + 1) := by
  apply BitVec.eq_of_toNat_eq
  rw [BitVec.toNat_mul, BitVec.toNat_shiftLeft, BitVec.toNat_shiftLeft, Nat.shiftLeft_eq, Nat.shiftLeft_eq, Nat.mod_mul_mod, Nat.pow_succ, Nat.mul_assoc]
  rfl
theorem power_any (n : Int) (h : n ≤ 63) (w : World) :
    Calls Tryd.prog 19 #[.int .i64 n] w fun e w' => e = .returned (.int .u64 (ui (1#64 <<< n.toNat))) ∧ w = w' := by
  go_enter Tryd.func19, Tryd.ntmps19
  go_wp2_with fail
  go_loop [3, 4] (fun x i => ∃ k : Nat, k ≤ n.toNat ∧ i = .int .i64 k ∧ x = .int .u64 (ui (1#64 <<< k))) (fun _ i => 64 - (intOf i).toNat)
  case atStart => exact ⟨0, by omega, rfl, rfl⟩
  case round =>
    obtain ⟨k, hk, rfl, rfl⟩ := hrel
    by_cases hlt : (k : Int) < n
    · have hp := pow_two k
      go_wp2_with fail
      go_round
      case rel => exact ⟨k + 1, by omega, by go_num, rfl⟩
      case measure => simp [intOf]; omega
    · go_wp2_with fail
      go_ret
      exact ⟨ret_u64 (by congr 1; omega), rfl⟩
theorem reftop_any (x : BitVec 64) (bits : Int) (h1 : 1 ≤ bits) (h2 : bits ≤ 64) (w : World) :
    Calls Tryd.prog 16 #[.int .u64 (ui x), .int .i64 bits] w fun e w' => e = .returned (.int .u64 (ui (topB x bits))) ∧ w = w' := by
  go_enter Tryd.func16, Tryd.ntmps16
  go_wp2_with fail
  go_loop [0, 5] (fun a i => ∃ k : Nat, (k : Int) ≤ 64 - bits ∧ i = .int .i64 k ∧ a = .int .u64 (ui (x >>> k))) (fun _ i => 64 - (intOf i).toNat)
  case atStart => exact ⟨0, by omega, rfl, by rw [BitVec.ushiftRight_zero]⟩
  case round =>
    obtain ⟨k, hk, rfl, rfl⟩ := hrel
    by_cases hlt : (k : Int) < 64 - bits
    · have hp := ui_half x k
      go_wp2_with fail
      go_round
      case rel => exact ⟨k + 1, by omega, by go_num, rfl⟩
      case measure => simp [intOf]; omega
    · go_wp2_with fail
      go_ret
      exact ⟨ret_u64 (by unfold topB; congr 1; omega), rfl⟩
def boundB (bits : Int) : BitVec 64 := if rightB bits = true then 1#64 <<< (64 - bits.toNat) else 0
@[go_sem] theorem ofInt_pow (k : Nat) : BitVec.ofInt 64 ((2 : Int) ^ k) = 1#64 <<< k := by
  rw [show ((2 : Int) ^ k) = ((2 ^ k : Nat) : Int) by simp, BitVec.ofInt_natCast]
  apply BitVec.eq_of_toNat_eq
  rw [BitVec.toNat_ofNat, BitVec.toNat_shiftLeft, Nat.shiftLeft_eq]
  show _ = 1 * _ % _
  rw [Nat.one_mul]
theorem bound_any (bits : Int) (w : World) :
    Calls Tryd.prog 14 #[.int .i64 bits] w fun e w' => e = .returned (.agg #[.int .u64 0, .int .u64 (ui (boundB bits))]) ∧ Below w.heap.size w w' := by
  by_cases hr : rightB bits = true
  · have hr2 := hr
    simp only [rightB, Bool.and_eq_true, decide_eq_true_eq] at hr2
    obtain ⟨b1, b2⟩ := hr2
    have hb : 0 ≤ 64 - bits := by omega
    have HV := Lib.hid (show 1#64 <<< (64 - bits).toNat = boundB bits by unfold boundB; rw [if_pos hr, show (64 - bits).toNat = 64 - bits.toNat by omega])
    go_enter Tryd.func14, Tryd.ntmps14
    go_wp2_with fail
    refine (right_any _ _).mono ?_
    rintro e w' ⟨rfl, rfl⟩
    go_wp2_with fail
    exact bodyPost_ret (v := (.agg #[.int .u64 0, .int .u64 (ui (1#64 <<< (64 - bits).toNat))])) (by simp [results, Tryd.results14, go_sem]) rfl ⟨by rw [HV.out], (Below.refl _ _).alloc (Nat.le_refl _) _⟩
  · have hr' : rightB bits = false := by simpa using hr
    have HV := Lib.hid (show 0#64 = boundB bits by unfold boundB; rw [if_neg hr]; rfl)
    clear hr
    go_enter Tryd.func14, Tryd.ntmps14
    go_wp2_with fail
    refine (right_any _ _).mono ?_
    rintro e w' ⟨rfl, rfl⟩
    go_wp2_with fail
    exact bodyPost_ret (v := (.agg #[.int .u64 0, .int .u64 0])) (by simp [results, Tryd.results14, go_sem]) rfl ⟨by rw [← HV.out]; rfl, (Below.refl _ _).alloc (Nat.le_refl _) _⟩
theorem refbound_any (bits : Int) (w : World) :
    Calls Tryd.prog 15 #[.int .i64 bits] w fun e w' => e = .returned (.agg #[.int .u64 0, .int .u64 (ui (boundB bits))]) ∧ Below w.heap.size w w' := by
  by_cases hr : rightB bits = true
  · have hr2 := hr
    simp only [rightB, Bool.and_eq_true, decide_eq_true_eq] at hr2
    obtain ⟨b1, b2⟩ := hr2
    have HV := Lib.hid (show 1#64 <<< (64 - bits).toNat = boundB bits by unfold boundB; rw [if_pos hr, show (64 - bits).toNat = 64 - bits.toNat by omega])
    go_enter Tryd.func15, Tryd.ntmps15
    go_wp2_with fail
    refine (power_any _ (by omega) _).mono ?_
    rintro e w' ⟨rfl, rfl⟩
    go_wp2_with fail
    exact bodyPost_ret (v := (.agg #[.int .u64 0, .int .u64 (ui (1#64 <<< (64 - bits).toNat))])) (by simp [results, Tryd.results15, go_sem]) rfl ⟨by rw [HV.out], (Below.refl _ _).alloc (Nat.le_refl _) _⟩
  · have HV := Lib.hid (show 0#64 = boundB bits by unfold boundB; rw [if_neg hr]; rfl)
    by_cases h1 : bits < 1
    · clear hr
      go_enter Tryd.func15, Tryd.ntmps15
      go_wp2_with fail
      exact bodyPost_ret (v := (.agg #[.int .u64 0, .int .u64 0])) (by simp [results, Tryd.results15, go_sem]) rfl ⟨by rw [← HV.out]; rfl, (Below.refl _ _).alloc (Nat.le_refl _) _⟩
    · have h2 : 64 < bits := by
        apply Int.not_le.1
        intro h2
        apply hr
        unfold rightB
        rw [decide_eq_true (by omega : 1 ≤ bits), decide_eq_true h2]; rfl
      clear hr
      go_enter Tryd.func15, Tryd.ntmps15
      go_wp2_with fail
      exact bodyPost_ret (v := (.agg #[.int .u64 0, .int .u64 0])) (by simp [results, Tryd.results15, go_sem]) rfl ⟨by rw [← HV.out]; rfl, (Below.refl _ _).alloc (Nat.le_refl _) _⟩
theorem run_u128 (a b c d : BitVec 64) (w : World) : (Op.equalIn 10000 35 (.agg #[.int .u64 (ui a), .int .u64 (ui b)]) (.agg #[.int .u64 (ui c), .int .u64 (ui d)])).run Tryd.prog w = .ok (ui a == ui c && ui b == ui d) w := by
  have u3 := Tryd.underlying22
  have a3 := Tryd.isAgg22
  have z3 := Tryd.sizeOf22
  rw [show (10000 : Nat) = 9999 + 1 from rfl, Op.equalIn]
  simp only [Sem.run_bind, run_underlying Tryd.underlying35, Result.andThen_ok]
  go_simp
  by_cases h1 : a = c <;> by_cases h2 : b = d <;> simp [h1, h2]
theorem run_bound (b d : BitVec 64) (w : World) : (Op.equalIn 10000 35 (.agg #[.int .u64 0, .int .u64 (ui b)]) (.agg #[.int .u64 0, .int .u64 (ui d)])).run Tryd.prog w = .ok (ui b == ui d) w := by
  have := run_u128 0#64 b 0#64 d w
  rw [show (ui 0#64 == ui 0#64) = true from rfl, Bool.true_and] at this
  exact this
theorem egu128 : Tryd.prog.eqGuardType Tryd.prog.depth 35 = false := by kernel_rfl
attribute [go_sem] egu128 run_bound
/-! the reference's rank -/
theorem div_pow (x : BitVec 64) (n : Nat) (h : n < 64) : x / (1#64 <<< n) = x >>> n := by
  apply BitVec.eq_of_toNat_eq
  rw [BitVec.toNat_udiv, BitVec.toNat_shiftLeft, Nat.shiftLeft_eq, BitVec.toNat_ushiftRight, Nat.shiftRight_eq_div_pow]
  congr 1
  show 1 * 2 ^ n % 2 ^ 64 = _
  rw [Nat.one_mul, Nat.mod_eq_of_lt (Nat.pow_lt_pow_right (by decide) h)]
theorem pow_ne (n : Nat) (h : n < 64) : ¬ ui (1#64 <<< n) = 0 := by
  unfold ui
  rw [BitVec.toNat_shiftLeft, Nat.shiftLeft_eq]
  intro h1
  have h2 : 1 * 2 ^ n % 2 ^ 64 = 0 := by exact Int.ofNat.inj h1
  rw [Nat.one_mul, Nat.mod_eq_of_lt (Nat.pow_lt_pow_right (by decide) h)] at h2
  have := Nat.two_pow_pos n
  omega
theorem pow_nat (n : Nat) (h : n < 64) : (1#64 <<< n).toNat = 2 ^ n := by
  rw [BitVec.toNat_shiftLeft, Nat.shiftLeft_eq]
  show 1 * 2 ^ n % 2 ^ 64 = _
  rw [Nat.one_mul, Nat.mod_eq_of_lt (Nat.pow_lt_pow_right (by decide) h)]
theorem lt_pow (x : BitVec 64) (n : Nat) (h : n < 64) : ui x < ui (1#64 <<< n) ↔ x.toNat < 2 ^ n := by
  unfold ui; rw [pow_nat n h]; omega
theorem ref_odd (z : BitVec 64) (h : tzB z < 64) : z / (1#64 <<< tzB z) = oddB z := div_pow _ _ h
theorem ref_low (a z : BitVec 64) (hz : z ≠ 0) : a * z / (1#64 <<< tzB z) = lowS (tzB z) (a * oddB z) := by
  obtain ⟨_, h2, h3⟩ := oddB_spec z hz
  rw [div_pow _ _ h3]
  unfold lowS
  rw [← mul_shl, h2]
theorem shl_mul (x : BitVec 64) (s : Nat) : x <<< s = x * (1#64 <<< s) := by
  apply BitVec.eq_of_toNat_eq
  rw [BitVec.toNat_mul, BitVec.toNat_shiftLeft, BitVec.toNat_shiftLeft, Nat.shiftLeft_eq, Nat.shiftLeft_eq]
  show _ = x.toNat * (1 * 2 ^ s % 2 ^ 64) % 2 ^ 64
  rw [Nat.one_mul, Nat.mul_mod_mod]
theorem neg_shl (m : BitVec 64) (s : Nat) : -(m <<< s) = (-m) <<< s := by
  rw [shl_mul m s, shl_mul (-m) s, BitVec.neg_mul]
theorem ref_neg (a z : BitVec 64) (hz : z ≠ 0) : (-(a * z)) / (1#64 <<< tzB z) = lowS (tzB z) (-(a * oddB z)) := by
  obtain ⟨_, h2, h3⟩ := oddB_spec z hz
  rw [div_pow _ _ h3]
  unfold lowS
  rw [← neg_shl, ← mul_shl, h2]
theorem ref_room {bits : Int} {z : BitVec 64} (hs : someB bits z = true) : (64 - bits).toNat - tzB z = roomB bits z ∧ roomB bits z < 64 := by
  obtain ⟨q1, q2, _, q3, q7, q5, q6, _⟩ := someB_sizes hs
  omega
theorem ref_near1 {a : BitVec 64} {bits : Int} {z : BitVec 64} (hs : someB bits z = true) : ui (a * z / (1#64 <<< tzB z)) < ui (1#64 <<< ((64 - bits).toNat - tzB z)) ↔ (lowS (tzB z) (a * oddB z) >>> roomB bits z == 0#64) = true := by
  obtain ⟨h1, h2⟩ := ref_room hs
  rw [ref_low a z (someB_sizes hs).z0, h1, lt_pow _ _ h2, near_iff, decide_eq_true_eq]
theorem ref_near2 {a : BitVec 64} {bits : Int} {z : BitVec 64} (hs : someB bits z = true) : ui ((-(a * z)) / (1#64 <<< tzB z)) < ui (1#64 <<< ((64 - bits).toNat - tzB z)) ↔ (lowS (tzB z) (-(a * oddB z)) >>> roomB bits z == 0#64) = true := by
  obtain ⟨h1, h2⟩ := ref_room hs
  rw [ref_neg a z (someB_sizes hs).z0, h1, lt_pow _ _ h2, near_iff, decide_eq_true_eq]
theorem word_sum (x h : BitVec 64) (s : Nat) (hs : s < 64) : x * (1#64 <<< s) + h = BitVec.ofNat 64 (x.toNat * 2 ^ s + h.toNat) := by
  apply BitVec.eq_of_toNat_eq
  rw [BitVec.toNat_add, BitVec.toNat_mul, pow_nat s hs, BitVec.toNat_ofNat, Nat.mod_add_mod]
theorem ref_val1 {a : BitVec 64} {bits : Int} {z h : BitVec 64} (hs : someB bits z = true) (ha : a.toNat % 2 = 1) (hh : h = (a * oddB z) >>> (64 - tzB z))
    (c : ui (a * z / (1#64 <<< tzB z)) < ui (1#64 <<< ((64 - bits).toNat - tzB z))) : rkS a bits z = true ∧ rkW a bits z = (a * z / (1#64 <<< tzB z) - 1#64) * (1#64 <<< tzB z) + h := by
  have hn := (ref_near1 hs).1 c
  obtain ⟨e1, e2⟩ := rank_case1 hs ha hn
  refine ⟨e1, e2.trans ?_⟩
  have hp := parts hs ha
  have h0 := hp.sz.s0
  have h1 := hp.lo
  have h2 := hp.lt
  rw [shl_or _ _ _ (by omega) (by rw [low_bit_off, hp.low]; omega) (by rw [hp.hi]; exact hp.hl), low_bit_off, hp.low, word_sum _ _ _ (by omega), ref_low a z hp.sz.z0, hh, h1]
  have e : (lowS (tzB z) (a * oddB z) - 1#64).toNat = (a * oddB z).toNat % 2 ^ (64 - tzB z) - 1 := by
    rw [BitVec.toNat_sub, hp.low]
    have h3 : (1#64).toNat = 1 := rfl
    have := (lowS (tzB z) (a * oddB z)).isLt
    rw [hp.low] at this
    rw [h3]; omega
  rw [e]
theorem ref_val2 {a : BitVec 64} {bits : Int} {z h : BitVec 64} (hs : someB bits z = true) (ha : a.toNat % 2 = 1) (hh : h = (a * oddB z) >>> (64 - tzB z))
    (c : ¬ ui (a * z / (1#64 <<< tzB z)) < ui (1#64 <<< ((64 - bits).toNat - tzB z))) (c2 : ui ((-(a * z)) / (1#64 <<< tzB z)) < ui (1#64 <<< ((64 - bits).toNat - tzB z))) :
    rkS a bits z = true ∧ rkW a bits z = (-(a * z)) / (1#64 <<< tzB z) * (1#64 <<< tzB z) + h := by
  have hn := (not_congr (ref_near1 hs)).1 c
  have hn2 := (ref_near2 hs).1 c2
  obtain ⟨e1, e2⟩ := rank_case2 hs ha (by simpa using hn) hn2
  refine ⟨e1, e2.trans ?_⟩
  have hp := parts hs ha
  have h0 := hp.sz.s0
  have h1 := hp.lo
  have h2 := hp.lt
  rw [low_bit_on _ (by rw [hp.neg]; exact hp.no), shl_or _ _ _ (by omega) (by rw [hp.neg]; omega) (by rw [hp.hi]; exact hp.hl), word_sum _ _ _ (by omega), ref_neg a z hp.sz.z0, hh]
theorem ref_val3 {a : BitVec 64} {bits : Int} {z : BitVec 64} (hs : someB bits z = true) (ha : a.toNat % 2 = 1)
    (c : ¬ ui (a * z / (1#64 <<< tzB z)) < ui (1#64 <<< ((64 - bits).toNat - tzB z))) (c2 : ¬ ui ((-(a * z)) / (1#64 <<< tzB z)) < ui (1#64 <<< ((64 - bits).toNat - tzB z))) :
    rkS a bits z = false ∧ rkW a bits z = 0#64 := by
  have hn := (not_congr (ref_near1 hs)).1 c
  have hn2 := (not_congr (ref_near2 hs)).1 c2
  exact rank_case3 hs ha (by simpa using hn) (by simpa using hn2)
theorem ref_high (a z : BitVec 64) (h : tzB z < 64) (h0 : 0 < tzB z) : a * (z / (1#64 <<< tzB z)) / (1#64 <<< (64 - tzB z)) = (a * oddB z) >>> (64 - tzB z) := by
  rw [ref_odd z h, div_pow _ _ (by omega)]
theorem ref_high0 (m z : BitVec 64) (h0 : tzB z = 0) : 0#64 = m >>> (64 - tzB z) := by
  rw [h0, BitVec.ushiftRight_eq_zero (by omega)]
theorem refrank_p1 (a : BitVec 64) (bits : Int) (x y : BitVec 64) (hs : someB bits (x - y) = true) (ha : (a % 2#64 == 0#64) = false) (hp : (0 : Int) < tzB (x - y)) (c1 : ui (a * (x - y) / (1#64 <<< tzB (x - y))) < ui (1#64 <<< ((64 - bits).toNat - tzB (x - y)))) (w : World) :
    Calls Tryd.prog 9 #[.int .u64 (ui a), .int .i64 bits, .int .u64 (ui x), .int .u64 (ui y)] w fun e w' => e = .returned (.tuple #[.int .u64 (ui (rkW a bits (x - y))), .bool (rkS a bits (x - y))]) ∧ w = w' := by
  have hsz := someB_sizes hs
  obtain ⟨q1, q2, hz, q3, q7, q5, q6, q8⟩ := id hsz
  have hxy : (x == y) = false := by rw [beq_eq_false_iff_ne]; rintro rfl; exact hz (BitVec.sub_self _)
  have hpn := pow_ne (tzB (x - y)) (by omega)
  have hpn2 := pow_ne (64 - tzB (x - y)) (by omega)
  have HR := Lib.hid (ref_val1 hs (by rw [even_nat, decide_eq_false_iff_not] at ha; omega) (ref_high a (x - y) (by omega) (by omega)) c1)
  have q9 : (tzB (x - y) : Int) < 64 - bits := by omega
  have q10 : (tzB (x - y) : Int) ≤ 62 := by omega
  have e0 : (errB a bits != 0) = false := by rw [errB_mk q1 (by omega) ha]; rfl
  clear q7 q8 hsz
  go_enter Tryd.func9, Tryd.ntmps9
  go_wp2_with fail
  refine (refcheck_any _ _ _).mono ?_
  rintro e w' ⟨rfl, rfl⟩
  go_wp2_with fail
  refine (twos_any _ _).mono ?_
  rintro e w' ⟨rfl, rfl⟩
  go_wp2_with fail
  refine (power_any _ (by omega) _).mono ?_
  rintro e w' ⟨rfl, rfl⟩
  go_wp2_with fail
  refine (power_any _ (by omega) _).mono ?_
  rintro e w' ⟨rfl, rfl⟩
  go_wp2_with fail
  refine (power_any _ (by omega) _).mono ?_
  rintro e w' ⟨rfl, rfl⟩
  go_wp2_with fail
  refine (power_any _ (by omega) _).mono ?_
  rintro e w' ⟨rfl, rfl⟩
  go_wp2_with fail
  refine (power_any _ (by omega) _).mono ?_
  rintro e w' ⟨rfl, rfl⟩
  go_wp2_with fail
  go_ret2
  exact ⟨ret_t2 (v_u64 HR.out.2.symm) (v_bool HR.out.1.symm), rfl⟩
theorem refrank_p2 (a : BitVec 64) (bits : Int) (x y : BitVec 64) (hs : someB bits (x - y) = true) (ha : (a % 2#64 == 0#64) = false) (hp : (0 : Int) < tzB (x - y)) (c1 : ¬ ui (a * (x - y) / (1#64 <<< tzB (x - y))) < ui (1#64 <<< ((64 - bits).toNat - tzB (x - y)))) (c2 : ui ((-(a * (x - y))) / (1#64 <<< tzB (x - y))) < ui (1#64 <<< ((64 - bits).toNat - tzB (x - y)))) (w : World) :
    Calls Tryd.prog 9 #[.int .u64 (ui a), .int .i64 bits, .int .u64 (ui x), .int .u64 (ui y)] w fun e w' => e = .returned (.tuple #[.int .u64 (ui (rkW a bits (x - y))), .bool (rkS a bits (x - y))]) ∧ w = w' := by
  have hsz := someB_sizes hs
  obtain ⟨q1, q2, hz, q3, q7, q5, q6, q8⟩ := id hsz
  have hxy : (x == y) = false := by rw [beq_eq_false_iff_ne]; rintro rfl; exact hz (BitVec.sub_self _)
  have hpn := pow_ne (tzB (x - y)) (by omega)
  have hpn2 := pow_ne (64 - tzB (x - y)) (by omega)
  have HR := Lib.hid (ref_val2 hs (by rw [even_nat, decide_eq_false_iff_not] at ha; omega) (ref_high a (x - y) (by omega) (by omega)) c1 c2)
  have q9 : (tzB (x - y) : Int) < 64 - bits := by omega
  have q10 : (tzB (x - y) : Int) ≤ 62 := by omega
  have e0 : (errB a bits != 0) = false := by rw [errB_mk q1 (by omega) ha]; rfl
  clear q7 q8 hsz
  go_enter Tryd.func9, Tryd.ntmps9
  go_wp2_with fail
  refine (refcheck_any _ _ _).mono ?_
  rintro e w' ⟨rfl, rfl⟩
  go_wp2_with fail
  refine (twos_any _ _).mono ?_
  rintro e w' ⟨rfl, rfl⟩
  go_wp2_with fail
  refine (power_any _ (by omega) _).mono ?_
  rintro e w' ⟨rfl, rfl⟩
  go_wp2_with fail
  refine (power_any _ (by omega) _).mono ?_
  rintro e w' ⟨rfl, rfl⟩
  go_wp2_with fail
  refine (power_any _ (by omega) _).mono ?_
  rintro e w' ⟨rfl, rfl⟩
  go_wp2_with fail
  refine (power_any _ (by omega) _).mono ?_
  rintro e w' ⟨rfl, rfl⟩
  go_wp2_with fail
  refine (power_any _ (by omega) _).mono ?_
  rintro e w' ⟨rfl, rfl⟩
  go_wp2_with fail
  refine (power_any _ (by omega) _).mono ?_
  rintro e w' ⟨rfl, rfl⟩
  go_wp2_with fail
  go_ret2
  exact ⟨ret_t2 (v_u64 HR.out.2.symm) (v_bool HR.out.1.symm), rfl⟩
theorem refrank_p3 (a : BitVec 64) (bits : Int) (x y : BitVec 64) (hs : someB bits (x - y) = true) (ha : (a % 2#64 == 0#64) = false) (hp : (0 : Int) < tzB (x - y)) (c1 : ¬ ui (a * (x - y) / (1#64 <<< tzB (x - y))) < ui (1#64 <<< ((64 - bits).toNat - tzB (x - y)))) (c2 : ¬ ui ((-(a * (x - y))) / (1#64 <<< tzB (x - y))) < ui (1#64 <<< ((64 - bits).toNat - tzB (x - y)))) (w : World) :
    Calls Tryd.prog 9 #[.int .u64 (ui a), .int .i64 bits, .int .u64 (ui x), .int .u64 (ui y)] w fun e w' => e = .returned (.tuple #[.int .u64 (ui (rkW a bits (x - y))), .bool (rkS a bits (x - y))]) ∧ w = w' := by
  have hsz := someB_sizes hs
  obtain ⟨q1, q2, hz, q3, q7, q5, q6, q8⟩ := id hsz
  have hxy : (x == y) = false := by rw [beq_eq_false_iff_ne]; rintro rfl; exact hz (BitVec.sub_self _)
  have hpn := pow_ne (tzB (x - y)) (by omega)
  have hpn2 := pow_ne (64 - tzB (x - y)) (by omega)
  have HR := Lib.hid (ref_val3 hs (by rw [even_nat, decide_eq_false_iff_not] at ha; omega) c1 c2)
  have q9 : (tzB (x - y) : Int) < 64 - bits := by omega
  have q10 : (tzB (x - y) : Int) ≤ 62 := by omega
  have e0 : (errB a bits != 0) = false := by rw [errB_mk q1 (by omega) ha]; rfl
  clear q7 q8 hsz
  go_enter Tryd.func9, Tryd.ntmps9
  go_wp2_with fail
  refine (refcheck_any _ _ _).mono ?_
  rintro e w' ⟨rfl, rfl⟩
  go_wp2_with fail
  refine (twos_any _ _).mono ?_
  rintro e w' ⟨rfl, rfl⟩
  go_wp2_with fail
  refine (power_any _ (by omega) _).mono ?_
  rintro e w' ⟨rfl, rfl⟩
  go_wp2_with fail
  refine (power_any _ (by omega) _).mono ?_
  rintro e w' ⟨rfl, rfl⟩
  go_wp2_with fail
  refine (power_any _ (by omega) _).mono ?_
  rintro e w' ⟨rfl, rfl⟩
  go_wp2_with fail
  refine (power_any _ (by omega) _).mono ?_
  rintro e w' ⟨rfl, rfl⟩
  go_wp2_with fail
  refine (power_any _ (by omega) _).mono ?_
  rintro e w' ⟨rfl, rfl⟩
  go_wp2_with fail
  go_ret2
  exact ⟨ret_t2 (v_u64 HR.out.2.symm) (v_bool HR.out.1.symm), rfl⟩
theorem refrank_z1 (a : BitVec 64) (bits : Int) (x y : BitVec 64) (hs : someB bits (x - y) = true) (ha : (a % 2#64 == 0#64) = false) (hp : ¬ (0 : Int) < tzB (x - y)) (c1 : ui (a * (x - y) / (1#64 <<< tzB (x - y))) < ui (1#64 <<< ((64 - bits).toNat - tzB (x - y)))) (w : World) :
    Calls Tryd.prog 9 #[.int .u64 (ui a), .int .i64 bits, .int .u64 (ui x), .int .u64 (ui y)] w fun e w' => e = .returned (.tuple #[.int .u64 (ui (rkW a bits (x - y))), .bool (rkS a bits (x - y))]) ∧ w = w' := by
  have hsz := someB_sizes hs
  obtain ⟨q1, q2, hz, q3, q7, q5, q6, q8⟩ := id hsz
  have hxy : (x == y) = false := by rw [beq_eq_false_iff_ne]; rintro rfl; exact hz (BitVec.sub_self _)
  have hpn := pow_ne (tzB (x - y)) (by omega)
  have HR := Lib.hid (ref_val1 hs (by rw [even_nat, decide_eq_false_iff_not] at ha; omega) (ref_high0 _ _ (by omega)) c1)
  have q9 : (tzB (x - y) : Int) < 64 - bits := by omega
  have q10 : (tzB (x - y) : Int) ≤ 62 := by omega
  have e0 : (errB a bits != 0) = false := by rw [errB_mk q1 (by omega) ha]; rfl
  clear q7 q8 hsz
  go_enter Tryd.func9, Tryd.ntmps9
  go_wp2_with fail
  refine (refcheck_any _ _ _).mono ?_
  rintro e w' ⟨rfl, rfl⟩
  go_wp2_with fail
  refine (twos_any _ _).mono ?_
  rintro e w' ⟨rfl, rfl⟩
  go_wp2_with fail
  refine (power_any _ (by omega) _).mono ?_
  rintro e w' ⟨rfl, rfl⟩
  go_wp2_with fail
  refine (power_any _ (by omega) _).mono ?_
  rintro e w' ⟨rfl, rfl⟩
  go_wp2_with fail
  refine (power_any _ (by omega) _).mono ?_
  rintro e w' ⟨rfl, rfl⟩
  go_wp2_with fail
  refine (power_any _ (by omega) _).mono ?_
  rintro e w' ⟨rfl, rfl⟩
  go_wp2_with fail
  go_ret2
  exact ⟨ret_t2 (v_u64 (by rw [HR.out.2, BitVec.add_zero])) (v_bool HR.out.1.symm), rfl⟩
theorem refrank_z2 (a : BitVec 64) (bits : Int) (x y : BitVec 64) (hs : someB bits (x - y) = true) (ha : (a % 2#64 == 0#64) = false) (hp : ¬ (0 : Int) < tzB (x - y)) (c1 : ¬ ui (a * (x - y) / (1#64 <<< tzB (x - y))) < ui (1#64 <<< ((64 - bits).toNat - tzB (x - y)))) (c2 : ui ((-(a * (x - y))) / (1#64 <<< tzB (x - y))) < ui (1#64 <<< ((64 - bits).toNat - tzB (x - y)))) (w : World) :
    Calls Tryd.prog 9 #[.int .u64 (ui a), .int .i64 bits, .int .u64 (ui x), .int .u64 (ui y)] w fun e w' => e = .returned (.tuple #[.int .u64 (ui (rkW a bits (x - y))), .bool (rkS a bits (x - y))]) ∧ w = w' := by
  have hsz := someB_sizes hs
  obtain ⟨q1, q2, hz, q3, q7, q5, q6, q8⟩ := id hsz
  have hxy : (x == y) = false := by rw [beq_eq_false_iff_ne]; rintro rfl; exact hz (BitVec.sub_self _)
  have hpn := pow_ne (tzB (x - y)) (by omega)
  have HR := Lib.hid (ref_val2 hs (by rw [even_nat, decide_eq_false_iff_not] at ha; omega) (ref_high0 _ _ (by omega)) c1 c2)
  have q9 : (tzB (x - y) : Int) < 64 - bits := by omega
  have q10 : (tzB (x - y) : Int) ≤ 62 := by omega
  have e0 : (errB a bits != 0) = false := by rw [errB_mk q1 (by omega) ha]; rfl
  clear q7 q8 hsz
  go_enter Tryd.func9, Tryd.ntmps9
  go_wp2_with fail
  refine (refcheck_any _ _ _).mono ?_
  rintro e w' ⟨rfl, rfl⟩
  go_wp2_with fail
  refine (twos_any _ _).mono ?_
  rintro e w' ⟨rfl, rfl⟩
  go_wp2_with fail
  refine (power_any _ (by omega) _).mono ?_
  rintro e w' ⟨rfl, rfl⟩
  go_wp2_with fail
  refine (power_any _ (by omega) _).mono ?_
  rintro e w' ⟨rfl, rfl⟩
  go_wp2_with fail
  refine (power_any _ (by omega) _).mono ?_
  rintro e w' ⟨rfl, rfl⟩
  go_wp2_with fail
  refine (power_any _ (by omega) _).mono ?_
  rintro e w' ⟨rfl, rfl⟩
  go_wp2_with fail
  refine (power_any _ (by omega) _).mono ?_
  rintro e w' ⟨rfl, rfl⟩
  go_wp2_with fail
  go_ret2
  exact ⟨ret_t2 (v_u64 (by rw [HR.out.2, BitVec.add_zero])) (v_bool HR.out.1.symm), rfl⟩
theorem refrank_z3 (a : BitVec 64) (bits : Int) (x y : BitVec 64) (hs : someB bits (x - y) = true) (ha : (a % 2#64 == 0#64) = false) (hp : ¬ (0 : Int) < tzB (x - y)) (c1 : ¬ ui (a * (x - y) / (1#64 <<< tzB (x - y))) < ui (1#64 <<< ((64 - bits).toNat - tzB (x - y)))) (c2 : ¬ ui ((-(a * (x - y))) / (1#64 <<< tzB (x - y))) < ui (1#64 <<< ((64 - bits).toNat - tzB (x - y)))) (w : World) :
    Calls Tryd.prog 9 #[.int .u64 (ui a), .int .i64 bits, .int .u64 (ui x), .int .u64 (ui y)] w fun e w' => e = .returned (.tuple #[.int .u64 (ui (rkW a bits (x - y))), .bool (rkS a bits (x - y))]) ∧ w = w' := by
  have hsz := someB_sizes hs
  obtain ⟨q1, q2, hz, q3, q7, q5, q6, q8⟩ := id hsz
  have hxy : (x == y) = false := by rw [beq_eq_false_iff_ne]; rintro rfl; exact hz (BitVec.sub_self _)
  have hpn := pow_ne (tzB (x - y)) (by omega)
  have HR := Lib.hid (ref_val3 hs (by rw [even_nat, decide_eq_false_iff_not] at ha; omega) c1 c2)
  have q9 : (tzB (x - y) : Int) < 64 - bits := by omega
  have q10 : (tzB (x - y) : Int) ≤ 62 := by omega
  have e0 : (errB a bits != 0) = false := by rw [errB_mk q1 (by omega) ha]; rfl
  clear q7 q8 hsz
  go_enter Tryd.func9, Tryd.ntmps9
  go_wp2_with fail
  refine (refcheck_any _ _ _).mono ?_
  rintro e w' ⟨rfl, rfl⟩
  go_wp2_with fail
  refine (twos_any _ _).mono ?_
  rintro e w' ⟨rfl, rfl⟩
  go_wp2_with fail
  refine (power_any _ (by omega) _).mono ?_
  rintro e w' ⟨rfl, rfl⟩
  go_wp2_with fail
  refine (power_any _ (by omega) _).mono ?_
  rintro e w' ⟨rfl, rfl⟩
  go_wp2_with fail
  refine (power_any _ (by omega) _).mono ?_
  rintro e w' ⟨rfl, rfl⟩
  go_wp2_with fail
  refine (power_any _ (by omega) _).mono ?_
  rintro e w' ⟨rfl, rfl⟩
  go_wp2_with fail
  go_ret2
  exact ⟨ret_t2 (v_u64 HR.out.2.symm) (v_bool HR.out.1.symm), rfl⟩
end Go.Proofs.YtdfbabgadggdbaaDoor
