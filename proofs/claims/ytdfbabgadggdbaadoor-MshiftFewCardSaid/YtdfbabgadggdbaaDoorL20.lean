/- The walks of chapter 20's statements: each returns true. No condition but the table of trailing zeros. -/
import Derived.Test.YtdfbabgadggdbaaDoorW20b
import Derived.Test.YtdfbabgadggdbaaDoorW20c
namespace Go.Proofs.YtdfbabgadggdbaaDoor
open Go.RowKit
/-! the inverse of an odd word -/
theorem w_ring (a x : BitVec 64) : 1 - a * oddStep a x = (1 - a * x) * (1 - a * x) := by
  unfold oddStep; grind
theorem odd_sq (a : BitVec 64) (h : a.toNat % 2 = 1) : ∃ t : BitVec 64, 1 - a * a = 8 * t := by
  refine ⟨(1 - a * a) >>> 3, ?_⟩
  have h8 : (1 - a * a).toNat % 8 = 0 := by
    rw [BitVec.toNat_sub, BitVec.toNat_mul]
    have hb : a.toNat % 8 = 1 ∨ a.toNat % 8 = 3 ∨ a.toNat % 8 = 5 ∨ a.toNat % 8 = 7 := by omega
    have hm : a.toNat * a.toNat % 8 = 1 := by
      rw [Nat.mul_mod]; rcases hb with e | e | e | e <;> rw [e]
    have hd : a.toNat * a.toNat % 2 ^ 64 % 8 = 1 := by omega
    have : (1 : BitVec 64).toNat = 1 := rfl
    rw [this]; omega
  apply BitVec.eq_of_toNat_eq
  rw [BitVec.toNat_mul, BitVec.toNat_ushiftRight, Nat.shiftRight_eq_div_pow]
  generalize hk : (1 - a * a).toNat = k at *
  have hlt : k < 2 ^ 64 := by rw [← hk]; exact BitVec.isLt _
  have : (8 : BitVec 64).toNat = 8 := rfl
  rw [this]; omega
theorem sq8 {e c t : BitVec 64} (h : e = c * t) : e * e = (c * c) * (t * t) := by subst h; ac_rfl
theorem mul_oddInv (a : BitVec 64) (h : a.toNat % 2 = 1) : a * oddInv a = 1 := by
  obtain ⟨t, ht⟩ := odd_sq a h
  have e : 1 - a * oddInv a = 0 := by
    unfold oddInv
    rw [w_ring, w_ring, w_ring, w_ring, w_ring, sq8 (sq8 (sq8 (sq8 (sq8 ht))))]
    have : (8 * 8 * (8 * 8) * (8 * 8 * (8 * 8)) * (8 * 8 * (8 * 8) * (8 * 8 * (8 * 8))) * (8 * 8 * (8 * 8) * (8 * 8 * (8 * 8)) * (8 * 8 * (8 * 8) * (8 * 8 * (8 * 8)))) : BitVec 64) = 0 := by decide +kernel
    rw [this]; exact BitVec.zero_mul
  have := congrArg (· + a * oddInv a) e
  simpa [BitVec.sub_add_cancel] using this.symm
theorem refrank_no (a : BitVec 64) (bits : Int) (x y : BitVec 64) (h : ¬ (someB bits (x - y) = true ∧ a.toNat % 2 = 1)) (w : World) :
    Calls Tryd.prog 9 #[.int .u64 (ui a), .int .i64 bits, .int .u64 (ui x), .int .u64 (ui y)] w fun e w' => e = .returned (.tuple #[.int .u64 (ui (rkW a bits (x - y))), .bool (rkS a bits (x - y))]) ∧ w = w' := by
  have HR := Lib.hid (rank_case0 h)
  by_cases he : errB a bits = 0
  · obtain ⟨b1, b2, b3⟩ := errB_ok he
    have he' : (errB a bits != 0) = false := by rw [he]; rfl
    by_cases hx : (x == y) = true
    · clear h he
      go_enter Tryd.func9, Tryd.ntmps9
      go_wp2_with fail
      refine (refcheck_any _ _ _).mono ?_
      rintro e w' ⟨rfl, rfl⟩
      go_wp2_with fail
      go_ret2
      exact ⟨ret_t2 (v_u64 HR.out.2.symm) (v_bool HR.out.1.symm), rfl⟩
    · have hx' : (x == y) = false := by simpa using hx
      have hz : x - y ≠ 0 := by intro e; apply hx; rw [beq_iff_eq]; have := congrArg (· + y) e; simpa [BitVec.sub_add_cancel] using this
      have htz := (oddB_spec _ hz).2.2
      have hpn := pow_ne (tzB (x - y)) htz
      have hle : 64 - bits ≤ (tzB (x - y) : Int) := by
        apply Int.not_lt.1
        intro hlt
        apply h
        refine ⟨?_, even_odd b3⟩
        simp only [someB, decide_eq_true_eq]
        exact ⟨b1, b2, hz, hlt⟩
      clear h he hx hz
      go_enter Tryd.func9, Tryd.ntmps9
      go_wp2_with fail
      refine (refcheck_any _ _ _).mono ?_
      rintro e w' ⟨rfl, rfl⟩
      go_wp2_with fail
      refine (twos_any _ _).mono ?_
      rintro e w' ⟨rfl, rfl⟩
      go_wp2_with fail
      refine (power_any _ (by omega) _).mono ?_
      rintro e w' ⟨rfl, rfl⟩
      go_wp2_with fail
      go_ret2
      exact ⟨ret_t2 (v_u64 HR.out.2.symm) (v_bool HR.out.1.symm), rfl⟩
  · have he' : (errB a bits != 0) = true := by simpa using he
    clear h he
    go_enter Tryd.func9, Tryd.ntmps9
    go_wp2_with fail
    refine (refcheck_any _ _ _).mono ?_
    rintro e w' ⟨rfl, rfl⟩
    go_wp2_with fail
    go_ret2
    exact ⟨ret_t2 (v_u64 HR.out.2.symm) (v_bool HR.out.1.symm), rfl⟩
theorem refrank_any (a : BitVec 64) (bits : Int) (x y : BitVec 64) (w : World) :
    Calls Tryd.prog 9 #[.int .u64 (ui a), .int .i64 bits, .int .u64 (ui x), .int .u64 (ui y)] w fun e w' => e = .returned (.tuple #[.int .u64 (ui (rkW a bits (x - y))), .bool (rkS a bits (x - y))]) ∧ w = w' := by
  by_cases h : someB bits (x - y) = true ∧ a.toNat % 2 = 1
  · obtain ⟨hs, ha⟩ := h
    have ha' : (a % 2#64 == 0#64) = false := by rw [even_nat, decide_eq_false_iff_not]; omega
    by_cases hp : (0 : Int) < tzB (x - y)
    · by_cases c1 : ui (a * (x - y) / (1#64 <<< tzB (x - y))) < ui (1#64 <<< ((64 - bits).toNat - tzB (x - y)))
      · exact refrank_p1 a bits x y hs ha' hp c1 w
      · by_cases c2 : ui ((-(a * (x - y))) / (1#64 <<< tzB (x - y))) < ui (1#64 <<< ((64 - bits).toNat - tzB (x - y)))
        · exact refrank_p2 a bits x y hs ha' hp c1 c2 w
        · exact refrank_p3 a bits x y hs ha' hp c1 c2 w
    · by_cases c1 : ui (a * (x - y) / (1#64 <<< tzB (x - y))) < ui (1#64 <<< ((64 - bits).toNat - tzB (x - y)))
      · exact refrank_z1 a bits x y hs ha' hp c1 w
      · by_cases c2 : ui ((-(a * (x - y))) / (1#64 <<< tzB (x - y))) < ui (1#64 <<< ((64 - bits).toNat - tzB (x - y)))
        · exact refrank_z2 a bits x y hs ha' hp c1 c2 w
        · exact refrank_z3 a bits x y hs ha' hp c1 c2 w
  · exact refrank_no a bits x y h w
theorem eval_1 (w : World) : Calls Tryd.prog 10 #[.int .u64 1, .int .i64 8, .int .u64 72057594037927936] w fun e w' => e = .returned (.tuple #[.int .u64 1, .int .i64 0]) ∧ w = w' := by
  have h := eval_any 1#64 8 72057594037927936#64 w
  rw [show errB 1#64 8 = 0 from by decide, show evalB 1#64 8 72057594037927936#64 = 1#64 from by decide +kernel] at h
  exact h
theorem rank_1 (w : World) (hT : Tab w) : Calls Tryd.prog 8 #[.int .u64 1, .int .i64 8, .int .u64 1, .int .u64 0] w fun e w' => e = .returned (.tuple #[.int .u64 0, .bool true]) ∧ Below w.heap.size w w' := by
  have h := rank_any 1#64 8 1#64 0#64 w hT
  rw [show rkW 1#64 8 (1#64 - 0#64) = 0#64 from by decide +kernel, show rkS 1#64 8 (1#64 - 0#64) = true from by decide +kernel] at h
  exact h
theorem bound_60 (w : World) : Calls Tryd.prog 14 #[.int .i64 60] w fun e w' => e = .returned (.agg #[.int .u64 0, .int .u64 16]) ∧ Below w.heap.size w w' := by
  have h := bound_any 60 w
  rw [show boundB 60 = 16#64 from by decide +kernel] at h
  exact h
theorem run_16 (w : World) : (Op.equalIn 10000 35 (.agg #[.int .u64 0, .int .u64 16]) (.agg #[.int .u64 0, .int .u64 16])).run Tryd.prog w = .ok true w := run_bound 16#64 16#64 w
theorem awake20_any (w : World) (hT : Tab w) :
    Calls Tryd.prog 7 #[] w fun e w' => e = .returned (.bool true) ∧ Below w.heap.size w w' := by
  have h16 := run_16
  go_enter Tryd.func7, Tryd.ntmps7
  go_wp2_with fail
  refine (eval_1 _).mono ?_
  rintro e w' ⟨rfl, rfl⟩
  go_wp2_with fail
  refine (rank_1 _ hT).mono ?_
  rintro e w1 ⟨rfl, b1⟩
  go_wp2_with fail
  refine (bound_60 _).mono ?_
  rintro e w2 ⟨rfl, b2⟩
  go_wp2_with fail
  go_ret
  exact ⟨rfl, b1.trans (b2.mono b1.size)⟩
theorem ranks_walk (a : BitVec 64) (bits : Int) (x y : BitVec 64) (w : World) (hT : Tab w) :
    Calls Tryd.prog 3 #[.int .u64 (ui a), .int .i64 bits, .int .u64 (ui x), .int .u64 (ui y)] w fun e w' => e = .returned (.bool true) ∧ Below w.heap.size w w' := by
  go_enter Tryd.func3, Tryd.ntmps3
  go_wp2_with fail
  refine (awake20_any _ hT).mono ?_
  rintro e w1 ⟨rfl, b1⟩
  go_wp2_with fail
  refine (rank_any _ _ _ _ _ (hT.below b1)).mono ?_
  rintro e w2 ⟨rfl, b2⟩
  go_wp2_with fail
  refine (refrank_any _ _ _ _ _).mono ?_
  rintro e w3 ⟨rfl, rfl⟩
  go_wp2_with fail
  all_goals go_ret
  all_goals exact ⟨ret_b (by simp), b1.trans (b2.mono b1.size)⟩
theorem few_walk (a : BitVec 64) (bits : Int) (x y : BitVec 64) (w : World) (hT : Tab w) :
    Calls Tryd.prog 6 #[.int .u64 (ui a), .int .i64 bits, .int .u64 (ui x), .int .u64 (ui y)] w fun e w' => e = .returned (.bool true) ∧ Below w.heap.size w w' := by
  by_cases hm : meetB a bits x y = true
  · have hm2 := hm
    unfold meetB at hm2
    rw [Bool.and_eq_true, decide_eq_true_eq, beq_iff_eq] at hm2
    obtain ⟨hE, hv⟩ := hm2
    have h0 : errB a bits = 0 := by
      unfold meetE at hE
      split at hE
      · assumption
      · exact hE
    have hne : x ≠ y := by
      unfold meetE at hE
      rw [if_pos h0] at hE
      intro e
      rw [if_pos e] at hE
      cases hE
    obtain ⟨b1, b2, b3⟩ := errB_ok h0
    unfold evalB topB at hv
    rw [if_pos h0, if_pos h0] at hv
    obtain ⟨hs, k, hk⟩ := meets_some b1 b2 (even_odd b3) hne hv
    obtain ⟨k1, k2⟩ := rk_some hk
    have ho := (someB_sizes hs).odd
    obtain ⟨u1, u2, u3⟩ := unrank_of_rank (i := oddInv (oddB (x - y))) (mul_oddInv _ ho) hk
    have hq : (meetE a bits x y != 0) = false := by rw [hE]; rfl
    have hr : (BitVec.ofNat 64 k).toNat < 2 ^ (64 - bits.toNat) := by rw [BitVec.toNat_ofNat, Nat.mod_eq_of_lt u3]; exact u2
    have hb63 := (someB_sizes hs).b2
    have hle : ui (BitVec.ofNat 64 k) ≤ ui (1#64 <<< (64 - bits).toNat - 1#64) := by
      unfold ui
      rw [BitVec.toNat_sub, pow_nat _ (by omega : (64 - bits).toNat < 64)]
      have e1 : (1#64).toNat = 1 := rfl
      have := Nat.two_pow_pos (64 - bits).toNat
      have e2 : (64 - bits).toNat = 64 - bits.toNat := by omega
      have e3 : 2 ^ (64 - bits.toNat) ≤ 2 ^ 63 := Nat.pow_le_pow_right (by decide) (by omega)
      rw [e1, e2] at *
      omega
    have K := Lib.hid (And.intro k1 k2)
    have U := Lib.hid u1
    have HE := Lib.hid hE
    clear hv h0 hk hE k1 k2 u1 u2 u3 hne ho
    go_enter Tryd.func6, Tryd.ntmps6
    go_wp2_with fail
    refine (awake20_any _ hT).mono ?_
    rintro e w1 ⟨rfl, c1⟩
    go_wp2_with fail
    refine (meets_any _ _ _ _ _).mono ?_
    rintro e w' ⟨rfl, rfl⟩
    go_wp2_with fail
    refine (rank_any _ _ _ _ _ (hT.below c1)).mono ?_
    rw [K.out.1, K.out.2]
    rintro e w2 ⟨rfl, c2⟩
    go_wp2_with fail
    refine (unrank_yes _ _ _ _ hs hr _ ((hT.below c1).below c2)).mono ?_
    rw [U.out]
    rintro e w3 ⟨rfl, c3⟩
    go_wp2_with fail
    refine (power_any _ (by omega) _).mono ?_
    rintro e w' ⟨rfl, rfl⟩
    go_wp2_with fail
    go_ret
    exact ⟨rfl, (c1.trans (c2.mono c1.size)).trans (c3.mono (Nat.le_trans c1.size c2.size))⟩
  · have hm' : meetB a bits x y = false := by simpa using hm
    clear hm
    go_enter Tryd.func6, Tryd.ntmps6
    go_wp2_with fail
    refine (awake20_any _ hT).mono ?_
    rintro e w1 ⟨rfl, c1⟩
    go_wp2_with fail
    refine (meets_any _ _ _ _ _).mono ?_
    rintro e w' ⟨rfl, rfl⟩
    go_wp2_with fail
    all_goals go_ret
    all_goals exact ⟨rfl, c1⟩
theorem evals_walk (a : BitVec 64) (bits : Int) (x y : BitVec 64) (w : World) (hT : Tab w) :
    Calls Tryd.prog 4 #[.int .u64 (ui a), .int .i64 bits, .int .u64 (ui x), .int .u64 (ui y)] w fun e w' => e = .returned (.bool true) ∧ Below w.heap.size w w' := by
  by_cases h0 : errB a bits = 0
  · obtain ⟨b1, b2, b3⟩ := errB_ok h0
    have hq : (errB a bits != 0) = false := by rw [h0]; rfl
    have hv : evalB a bits x = topB (a * x) bits := by unfold evalB; rw [if_pos h0]
    by_cases hx : (x == y) = true
    · have hE : meetE a bits x y = 15 := by unfold meetE; rw [if_pos h0, if_pos (by simpa using hx)]
      have hE1 : (meetE a bits x y == 15) = true := by rw [hE]; rfl
      have hB : meetB a bits x y = false := by unfold meetB; rw [hE]; rfl
      clear h0 hE
      go_enter Tryd.func4, Tryd.ntmps4
      go_wp2_with fail
      refine (awake20_any _ hT).mono ?_
      rintro e w1 ⟨rfl, c1⟩
      go_wp2_with fail
      refine (eval_any _ _ _ _).mono ?_
      rintro e w' ⟨rfl, rfl⟩
      go_wp2_with fail
      refine (meets_any _ _ _ _ _).mono ?_
      rintro e w' ⟨rfl, rfl⟩
      go_wp2_with fail
      refine (refcheck_any _ _ _).mono ?_
      rintro e w' ⟨rfl, rfl⟩
      go_wp2_with fail
      refine (check_any _ _ _).mono ?_
      rintro e w' ⟨rfl, rfl⟩
      go_wp2_with fail
      refine (bound_any _ _).mono ?_
      rintro e w2 ⟨rfl, c2⟩
      go_wp2_with fail
      refine (refbound_any _ _).mono ?_
      rintro e w3 ⟨rfl, c3⟩
      go_wp2_with fail
      refine (reftop_any _ _ b1 b2 _).mono ?_
      rintro e w' ⟨rfl, rfl⟩
      go_wp2_with fail
      go_ret
      exact ⟨rfl, (c1.trans (c2.mono c1.size)).trans (c3.mono (Nat.le_trans c1.size c2.size))⟩
    · have hx' : (x == y) = false := by simpa using hx
      have hE : meetE a bits x y = 0 := by unfold meetE; rw [if_pos h0, if_neg (by simpa using hx)]
      have hE1 : (meetE a bits x y == 0) = true := by rw [hE]; rfl
      have hB : meetB a bits x y = (topB (a * x) bits == topB (a * y) bits) := by
        unfold meetB; rw [hE]; unfold evalB; rw [if_pos h0, if_pos h0]; rfl
      have HB := Lib.hid hB
      clear h0 hE hx hB
      go_enter Tryd.func4, Tryd.ntmps4
      go_wp2_with fail
      refine (awake20_any _ hT).mono ?_
      rintro e w1 ⟨rfl, c1⟩
      go_wp2_with fail
      refine (eval_any _ _ _ _).mono ?_
      rintro e w' ⟨rfl, rfl⟩
      go_wp2_with fail
      refine (meets_any _ _ _ _ _).mono ?_
      rintro e w' ⟨rfl, rfl⟩
      go_wp2_with fail
      refine (refcheck_any _ _ _).mono ?_
      rintro e w' ⟨rfl, rfl⟩
      go_wp2_with fail
      refine (check_any _ _ _).mono ?_
      rintro e w' ⟨rfl, rfl⟩
      go_wp2_with fail
      refine (bound_any _ _).mono ?_
      rintro e w2 ⟨rfl, c2⟩
      go_wp2_with fail
      refine (refbound_any _ _).mono ?_
      rintro e w3 ⟨rfl, c3⟩
      go_wp2_with fail
      refine (reftop_any _ _ b1 b2 _).mono ?_
      rintro e w' ⟨rfl, rfl⟩
      go_wp2_with fail
      refine (reftop_any _ _ b1 b2 _).mono ?_
      rintro e w' ⟨rfl, rfl⟩
      go_wp2_with fail
      refine (reftop_any _ _ b1 b2 _).mono ?_
      rintro e w' ⟨rfl, rfl⟩
      go_wp2_with fail
      go_ret
      exact ⟨ret_b (a := (meetB a bits x y == (topB (a * x) bits == topB (a * y) bits))) (by rw [HB.out]; simp), (c1.trans (c2.mono c1.size)).trans (c3.mono (Nat.le_trans c1.size c2.size))⟩
  · have hq : (errB a bits != 0) = true := by simpa using h0
    have hE : meetE a bits x y = errB a bits := by unfold meetE; rw [if_neg h0]
    have hB : meetB a bits x y = false := by unfold meetB; rw [hE, decide_eq_false h0]; rfl
    have hv : evalB a bits x = 0#64 := by unfold evalB; rw [if_neg h0]; rfl
    have h00 : (ui 0#64 == 0) = true := rfl
    clear h0
    go_enter Tryd.func4, Tryd.ntmps4
    go_wp2_with fail
    refine (awake20_any _ hT).mono ?_
    rintro e w1 ⟨rfl, c1⟩
    go_wp2_with fail
    refine (eval_any _ _ _ _).mono ?_
    rintro e w' ⟨rfl, rfl⟩
    go_wp2_with fail
    refine (meets_any _ _ _ _ _).mono ?_
    rintro e w' ⟨rfl, rfl⟩
    go_wp2_with fail
    refine (refcheck_any _ _ _).mono ?_
    rintro e w' ⟨rfl, rfl⟩
    go_wp2_with fail
    refine (check_any _ _ _).mono ?_
    rintro e w' ⟨rfl, rfl⟩
    go_wp2_with fail
    refine (bound_any _ _).mono ?_
    rintro e w2 ⟨rfl, c2⟩
    go_wp2_with fail
    refine (refbound_any _ _).mono ?_
    rintro e w3 ⟨rfl, c3⟩
    go_wp2_with fail
    go_ret
    exact ⟨rfl, (c1.trans (c2.mono c1.size)).trans (c3.mono (Nat.le_trans c1.size c2.size))⟩
theorem below3 {w w1 w2 w3 : World} (c1 : Below w.heap.size w w1) (c2 : Below w1.heap.size w1 w2) (c3 : Below w2.heap.size w2 w3) : Below w.heap.size w w3 :=
  (c1.trans (c2.mono c1.size)).trans (c3.mono (Nat.le_trans c1.size c2.size))
theorem unranks_walk (r : BitVec 64) (bits : Int) (x y : BitVec 64) (w : World) (hT : Tab w) :
    Calls Tryd.prog 5 #[.int .u64 (ui r), .int .i64 bits, .int .u64 (ui x), .int .u64 (ui y)] w fun e w' => e = .returned (.bool true) ∧ Below w.heap.size w w' := by
  by_cases h : someB bits (x - y) = true ∧ r.toNat < 2 ^ (64 - bits.toNat)
  · obtain ⟨hs, hr⟩ := h
    obtain ⟨u1, u2⟩ := rank_of_unrank hs (mul_oddInv _ (someB_sizes hs).odd) hr
    obtain ⟨k1, k2⟩ := rk_some u1
    have k1' : rkW (unrankB (x - y) r * oddInv (oddB (x - y))) bits (x - y) = r := by
      rw [k1]; apply BitVec.eq_of_toNat_eq; rw [BitVec.toNat_ofNat, Nat.mod_eq_of_lt r.isLt]
    have hodd : (unrankB (x - y) r * oddInv (oddB (x - y)) % 2#64 == 1#64) = true := by
      rw [beq_iff_eq]; apply BitVec.eq_of_toNat_eq; rw [BitVec.toNat_umod]; exact u2
    have K := Lib.hid (And.intro k1' k2)
    have HR := Lib.hid hr
    clear u1 u2 k1 k2 k1' hr
    generalize hA : unrankB (x - y) r * oddInv (oddB (x - y)) = A at *
    have HA := Lib.hid hA
    clear hA
    go_enter Tryd.func5, Tryd.ntmps5
    go_wp2_with fail
    refine (awake20_any _ hT).mono ?_
    rintro e w1 ⟨rfl, c1⟩
    go_wp2_with fail
    refine (unrank_yes _ _ _ _ hs HR.out _ (hT.below c1)).mono ?_
    rw [HA.out]
    rintro e w2 ⟨rfl, c2⟩
    go_wp2_with fail
    refine (refrank_any _ _ _ _ _).mono ?_
    rw [K.out.1, K.out.2]
    rintro e w3 ⟨rfl, rfl⟩
    go_wp2_with fail
    go_ret
    exact ⟨rfl, c1.trans (c2.mono c1.size)⟩
  · have h00 : (ui 0#64 == 0) = true := rfl
    by_cases h1 : 1 ≤ bits
    · by_cases h2 : bits ≤ 64
      · by_cases hx : (x == y) = true
        · have hx2 : (x != y) = false := by show (!(x == y)) = false; rw [hx]; rfl
          have h' := Lib.hid h
          clear h
          go_enter Tryd.func5, Tryd.ntmps5
          go_wp2_with fail
          refine (awake20_any _ hT).mono ?_
          rintro e w1 ⟨rfl, c1⟩
          go_wp2_with fail
          refine (unrank_no _ _ _ _ h'.out _ (hT.below c1)).mono ?_
          rintro e w2 ⟨rfl, c2⟩
          go_wp2_with fail
          go_ret
          exact ⟨rfl, c1.trans (c2.mono c1.size)⟩
        · have hx1 : (x == y) = false := by simpa using hx
          have hx2 : (x != y) = true := by show (!(x == y)) = true; rw [hx1]; rfl
          have hz : x - y ≠ 0 := by intro e; apply hx; rw [beq_iff_eq]; have := congrArg (· + y) e; simpa [BitVec.sub_add_cancel] using this
          have htz := (oddB_spec _ hz).2.2
          by_cases ht : (tzB (x - y) : Int) < 64 - bits
          · have hr : ui (1#64 <<< (64 - bits).toNat) ≤ ui r := by
              have hn : ¬ r.toNat < 2 ^ (64 - bits.toNat) := fun hh => h ⟨by simp only [someB, decide_eq_true_eq]; exact ⟨h1, h2, hz, ht⟩, hh⟩
              unfold ui
              rw [pow_nat _ (by omega), show (64 - bits).toNat = 64 - bits.toNat by omega]
              omega
            clear hx hz
            have h' := Lib.hid h
            clear h
            go_enter Tryd.func5, Tryd.ntmps5
            go_wp2_with fail
            refine (awake20_any _ hT).mono ?_
            rintro e w1 ⟨rfl, c1⟩
            go_wp2_with fail
            refine (unrank_no _ _ _ _ h'.out _ (hT.below c1)).mono ?_
            rintro e w2 ⟨rfl, c2⟩
            go_wp2_with fail
            refine (twos_any _ _).mono ?_
            rintro e w' ⟨rfl, rfl⟩
            go_wp2_with fail
            refine (power_any _ (by omega) _).mono ?_
            rintro e w' ⟨rfl, rfl⟩
            go_wp2_with fail
            go_ret
            exact ⟨rfl, c1.trans (c2.mono c1.size)⟩
          · clear hx hz
            have h' := Lib.hid h
            clear h
            go_enter Tryd.func5, Tryd.ntmps5
            go_wp2_with fail
            refine (awake20_any _ hT).mono ?_
            rintro e w1 ⟨rfl, c1⟩
            go_wp2_with fail
            refine (unrank_no _ _ _ _ h'.out _ (hT.below c1)).mono ?_
            rintro e w2 ⟨rfl, c2⟩
            go_wp2_with fail
            refine (twos_any _ _).mono ?_
            rintro e w' ⟨rfl, rfl⟩
            go_wp2_with fail
            go_ret
            exact ⟨rfl, c1.trans (c2.mono c1.size)⟩
      · have h' := Lib.hid h
        clear h
        go_enter Tryd.func5, Tryd.ntmps5
        go_wp2_with fail
        refine (awake20_any _ hT).mono ?_
        rintro e w1 ⟨rfl, c1⟩
        go_wp2_with fail
        refine (unrank_no _ _ _ _ h'.out _ (hT.below c1)).mono ?_
        rintro e w2 ⟨rfl, c2⟩
        go_wp2_with fail
        go_ret
        exact ⟨rfl, c1.trans (c2.mono c1.size)⟩
    · have h' := Lib.hid h
      clear h
      go_enter Tryd.func5, Tryd.ntmps5
      go_wp2_with fail
      refine (awake20_any _ hT).mono ?_
      rintro e w1 ⟨rfl, c1⟩
      go_wp2_with fail
      refine (unrank_no _ _ _ _ h'.out _ (hT.below c1)).mono ?_
      rintro e w2 ⟨rfl, c2⟩
      go_wp2_with fail
      go_ret
      exact ⟨rfl, c1.trans (c2.mono c1.size)⟩
end Go.Proofs.YtdfbabgadggdbaaDoor
