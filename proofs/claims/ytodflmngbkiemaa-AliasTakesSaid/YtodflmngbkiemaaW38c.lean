/- The walks of chapter 38's reference. No condition but its own. -/
import Derived.Test.YtodflmngbkiemaaW38b
namespace Go.Proofs.Ytodflmngbkiemaa
open Go.RowKit
theorem one_bit (w : World) : SlV (w.alloc (.cells #[.int .i64 1] 3)) (.slice (some ⟨w.heap.size, 0, none⟩) 1 1) (bvs 1 1) := by
  refine .inr ⟨_, _, _, rfl, ?_⟩
  intro i u hu
  rcases i with _ | i
  · simp [bvs, bi] at hu
    subst hu
    simp
  · simp [bvs] at hu
theorem p64 : (1 : Nat) * 2 ^ 64 = 18446744073709551616 := rfl
theorem refloss_any (n : BitVec 64) (hn : (n == 0#64) = false) (w : World) :
    Calls Try.prog 60 #[.int .u64 (ui n)] w fun e w' => ∃ v, e = .returned v ∧ SlV w' v (bvs (18446744073709551616 % n.toNat) 67) ∧ Below w.heap.size w w' := by
  have hp := pos_of_ne hn
  have hx1 := one_bit w
  have hB : Below w.heap.size w (w.alloc (.cells #[.int .i64 1] 3)) := (Below.refl _ _).alloc (Nat.le_refl _) _
  have hs := shl_any (.slice (some ⟨w.heap.size, 0, none⟩) 1 1) 1 1 (by decide) (by omega) 64 66 (by omega) (by omega) (by omega) _ hx1
  rw [show Int.toNat 64 = 64 from rfl, show Int.toNat 66 = 66 from rfl, p64] at hs
  have hsz : (w.alloc (.cells #[.int .i64 1] 3)).heap.size = w.heap.size + 1 := by simp
  go_enter Try.func60, Try.ntmps60
  go_wp2_with fail
  refine hs.mono ?_
  rintro e w1 ⟨v, rfl, hown, b1⟩
  rw [bvs_length] at hown
  have hx := SlV.of_owns hown
  have hB1 := hB.trans (b1.mono hB.size)
  clear hs hown hx1 hB b1 hsz
  go_wp2_with fail
  refine (of_any n 64 (by omega) _).mono ?_
  rintro e w2 ⟨v2, rfl, hown, b2⟩
  rw [bvs_length, show Int.toNat 64 = 64 from rfl] at hown
  have hy := SlV.of_owns hown
  have hx2 := hx.below b2
  have hB2 := hB1.trans (b2.mono hB1.size)
  clear hown hx hB1 b2
  go_wp2_with fail
  refine (div01_any v v2 18446744073709551616 n.toNat 66 64 (by decide) n.isLt hp (by omega) (by omega) (by omega) _ hx2 hy).mono ?_
  rintro e w3 ⟨q, r, rfl, hq, hr, b3⟩
  have hB3 := hB2.trans (b3.mono hB2.size)
  clear hq hy hx2 hB2 b3
  go_wp2_with fail
  go_ret
  exact ⟨_, rfl, hr, hB3⟩
theorem refLoss_any (n : BitVec 64) (w : World) :
    Calls Try.prog 34 #[.int .u64 (ui n)] w fun e w' => e = .returned (.int .u64 (ui (lossW n))) ∧ Below w.heap.size w w' := by
  by_cases h : n = 0#64
  · subst h
    have hz : (ui 0#64 == 0) = true := rfl
    go_enter Try.func34, Try.ntmps34
    go_wp2_with fail
    go_ret
    exact ⟨rfl, Below.refl _ _⟩
  · have hn : (n == 0#64) = false := by simpa using h
    have e1 := loss_of n (pos_of_ne hn)
    have E1 := Lib.hid e1
    have hlt : 18446744073709551616 % n.toNat < 2 ^ 67 := Nat.lt_of_lt_of_le (Nat.mod_lt _ (pos_of_ne hn)) (Nat.le_trans (Nat.le_of_lt n.isLt) (Nat.pow_le_pow_right (by decide) (by decide)))
    have HL := Lib.hid hlt
    clear h e1 hlt
    go_enter Try.func34, Try.ntmps34
    go_wp2_with fail
    refine (refloss_any n hn _).mono ?_
    rintro e w1 ⟨v, rfl, hv, b1⟩
    have hw := word_any v _ 67 HL.out (by omega) 0 (by omega) (by omega) _ hv
    rw [show Int.toNat 0 = 0 from rfl, Nat.pow_zero, Nat.div_one, ← E1.out] at hw
    clear hv
    go_wp2_with fail
    refine hw.mono ?_
    rintro e w' ⟨rfl, rfl⟩
    go_wp2_with fail
    go_ret
    exact ⟨rfl, b1⟩
theorem refeach_any (n : BitVec 64) (w : World) :
    Calls Try.prog 36 #[.int .u64 (ui n)] w fun e w' => e = .returned (.agg #[.int .u64 (ui (eachHiL n)), .int .u64 (ui (eachLoL n))]) ∧ Below w.heap.size w w' := by
  by_cases h : n = 0#64
  · subst h
    rw [each_zero.1, each_zero.2]
    have hz : (ui 0#64 == 0) = true := rfl
    go_enter Try.func36, Try.ntmps36
    go_wp2_with fail
    exact bodyPost_ret (v := (.agg #[.int .u64 0, .int .u64 0])) (by simp [results, Try.results36, go_sem]) rfl ⟨rfl, (Below.refl _ _).alloc (Nat.le_refl _) _⟩
  · have hn : (n == 0#64) = false := by simpa using h
    have hp := pos_of_ne hn
    have hx1 := one_bit (w.alloc (.cells #[.int .u64 0, .int .u64 0] 65))
    rw [show (w.alloc (.cells #[.int .u64 0, .int .u64 0] 65)).heap.size = w.heap.size + 1 by simp] at hx1
    have hT := (Two.new w (.int .u64 0) (.int .u64 0) 65).alloc (.cells #[.int .i64 1] 3)
    have hB : Below w.heap.size w ((w.alloc (.cells #[.int .u64 0, .int .u64 0] 65)).alloc (.cells #[.int .i64 1] 3)) := ((Below.refl _ _).alloc (Nat.le_refl _) _).alloc (by simp) _
    have hs := shl_any (.slice (some ⟨w.heap.size + 1, 0, none⟩) 1 1) 1 1 (by decide) (by omega) 64 66 (by omega) (by omega) (by omega) _ hx1
    rw [show Int.toNat 64 = 64 from rfl, show Int.toNat 66 = 66 from rfl, p64] at hs
    have hE : eachNL n < 2 ^ 66 := Nat.lt_of_le_of_lt (Nat.div_le_self _ _) (by decide)
    have hq0 : 18446744073709551616 / n.toNat = eachNL n := rfl
    have e1 : BitVec.ofNat 64 (eachNL n / 2 ^ 64) = eachHiL n := rfl
    have e2 : BitVec.ofNat 64 (eachNL n) = eachLoL n := rfl
    have E1 := Lib.hid (And.intro e1 (And.intro e2 (And.intro hE hq0)))
    clear h e1 e2 hx1 hE hq0
    go_enter Try.func36, Try.ntmps36
    go_wp2_with fail
    refine hs.mono ?_
    rintro e w1 ⟨v, rfl, hown, b1⟩
    rw [bvs_length] at hown
    have hx := SlV.of_owns hown
    have hT1 := hT.belowS b1
    have hB1 := hB.trans (b1.mono hB.size)
    clear hs hown hB b1 hT
    go_wp2_with fail
    refine (of_any n 64 (by omega) _).mono ?_
    rintro e w2 ⟨v2, rfl, hown, b2⟩
    rw [bvs_length, show Int.toNat 64 = 64 from rfl] at hown
    have hy := SlV.of_owns hown
    have hx2 := hx.below b2
    have hT2 := hT1.belowS b2
    have hB2 := hB1.trans (b2.mono hB1.size)
    clear hown hx hB1 b2 hT1
    go_wp2_with fail
    refine (div01_any v v2 18446744073709551616 n.toNat 66 64 (by decide) n.isLt hp (by omega) (by omega) (by omega) _ hx2 hy).mono ?_
    rw [E1.out.2.2.2]
    rintro e w3 ⟨q, r, rfl, hq, hr, b3⟩
    have hT3 := hT2.belowS b3
    have hB3 := hB2.trans (b3.mono hB2.size)
    clear hr hy hx2 hB2 b3 hT2
    have ht := to2_any q _ 66 E1.out.2.2.1 (by omega) _ hq
    rw [E1.out.1, E1.out.2.1] at ht
    clear hq
    go_wp2_with fail
    refine ht.mono ?_
    rintro e w4 ⟨rfl, b4⟩
    have hT4 := hT3.belowS b4
    have hB4 := hB3.trans (b4.mono hB3.size)
    have hS := hT4.set (.int .u64 (ui (eachHiL n))) (.int .u64 (ui (eachLoL n)))
    obtain ⟨d0, d1, g0, g1, hlt2⟩ := hT4
    have HS := Lib.hid hS
    clear hT3 hB3 b4 ht hS
    go_wp2_with fail
    obtain ⟨e0, e1, _, _, _⟩ := HS.out
    exact bodyPost_ret (v := (.agg #[.int .u64 (ui (eachHiL n)), .int .u64 (ui (eachLoL n))])) (by simp [results, Try.results36, go_sem, e0, e1]) rfl ⟨rfl, below_set2 hB4 (Nat.le_refl _) (Nat.le_refl _) _ _⟩
theorem reftakes_any (x n : BitVec 64) (w : World) :
    Calls Try.prog 38 #[.int .u64 (ui x), .int .u64 (ui n)] w fun e w' => e = .returned (.bool (takesL x n)) ∧ Below w.heap.size w w' := by
  by_cases h : 0 < ui n
  · have ht : takesL x n = decide (ui (lossW n) ≤ ui (x * n)) := by unfold takesL; rw [decide_eq_true h, Bool.true_and]
    have HT := Lib.hid ht
    clear ht
    go_enter Try.func38, Try.ntmps38
    go_wp2_with fail
    refine (refLoss_any _ _).mono ?_
    rintro e w1 ⟨rfl, b1⟩
    go_wp2_with fail
    go_ret
    exact ⟨ret_b HT.out.symm, b1⟩
  · have ht : takesL x n = false := by unfold takesL; rw [decide_eq_false h, Bool.false_and]
    have HT := Lib.hid ht
    clear ht
    go_enter Try.func38, Try.ntmps38
    go_wp2_with fail
    go_ret
    exact ⟨ret_b HT.out.symm, Below.refl _ _⟩
theorem reftells_any (x n : BitVec 64) (w : World) :
    Calls Try.prog 68 #[.int .u64 (ui x), .int .u64 (ui n)] w fun e w' => e = .returned (.int .u64 (ui (mulHi x n))) ∧ Below w.heap.size w w' := by
  have hxy : x.toNat * n.toNat < 2 ^ 128 := by
    have h := Nat.mul_lt_mul'' x.isLt n.isLt
    rwa [← Nat.pow_add] at h
  have e1 : BitVec.ofNat 64 (x.toNat * n.toNat / 2 ^ 64) = mulHi x n := rfl
  have E := Lib.hid (And.intro e1 hxy)
  clear e1 hxy
  go_enter Try.func68, Try.ntmps68
  go_wp2_with fail
  refine (of_any x 64 (by omega) _).mono ?_
  rintro e w1 ⟨v, rfl, hown, b1⟩
  rw [bvs_length, show Int.toNat 64 = 64 from rfl] at hown
  have hx := SlV.of_owns hown
  clear hown
  go_wp2_with fail
  refine (of_any n 64 (by omega) _).mono ?_
  rintro e w2 ⟨v2, rfl, hown, b2⟩
  rw [bvs_length, show Int.toNat 64 = 64 from rfl] at hown
  have hy := SlV.of_owns hown
  have hx2 := hx.below b2
  have hB2 := b1.trans (b2.mono b1.size)
  clear hown hx b1 b2
  have hm := mul_any v v2 _ _ 64 64 x.isLt n.isLt (by omega) (by omega) 128 (by omega) (by omega) E.out.2 _ hx2 hy
  rw [show Int.toNat 128 = 128 from rfl] at hm
  clear hx2 hy
  go_wp2_with fail
  refine hm.mono ?_
  rintro e w3 ⟨v3, rfl, hz, b3⟩
  have hB3 := hB2.trans (b3.mono hB2.size)
  have hw := word_any v3 _ 128 E.out.2 (by omega) 64 (by omega) (by omega) _ hz
  rw [show Int.toNat 64 = 64 from rfl, E.out.1] at hw
  clear hm hz b3 hB2
  go_wp2_with fail
  refine hw.mono ?_
  rintro e w' ⟨rfl, rfl⟩
  go_wp2_with fail
  go_ret
  exact ⟨rfl, hB3⟩
theorem bnd (v L m : Nat) (hv : v < 18446744073709551616) (hL : L < 18446744073709551616) (hm : m < 18446744073709551616) : L < 2 ^ 67 ∧ v * 2 ^ 64 < 2 ^ 130 ∧ v * 2 ^ 64 + L < 2 ^ 130 ∧ v * 2 ^ 64 + L + m < 2 ^ 130 := by
  rw [show (2 : Nat) ^ 64 = 18446744073709551616 from rfl, show (2 : Nat) ^ 130 = 1361129467683753853853498429727072845824 from rfl, show (2 : Nat) ^ 67 = 147573952589676412928 from rfl]
  omega
theorem retS2_out {us : List Value} {w w' : World} {e : Ending} (h : RetS2 us w e w') : ∃ v c, e = .returned (.tuple #[v, .int .i64 c]) ∧ SlV w' v us ∧ Below w.heap.size w w' := by
  obtain ⟨v, c, rfl, h, b⟩ := h
  exact ⟨v, c, rfl, SlV.of_owns h, b⟩
theorem refrank_any (x n : BitVec 64) (hn : (n == 0#64) = false) (w : World) :
    Calls Try.prog 40 #[.int .u64 (ui x), .int .u64 (ui n)] w fun e w' => e = .returned (.tuple #[.int .u64 (ui (mulHi x n)), .int .u64 (ui (rankL x n))]) ∧ Below w.heap.size w w' := by
  have hp := pos_of_ne hn
  have hr : x - BitVec.ofNat 64 (((mulHi x n).toNat * 2 ^ 64 + 18446744073709551616 % n.toNat + (n - 1#64).toNat) / n.toNat) = rankL x n := by
    rw [show (n - 1#64).toNat = n.toNat - 1 from sub_nat (by rw [show (1#64 : BitVec 64).toNat = 1 from rfl]; omega)]
    rfl
  have hv := (mulHi x n).isLt
  have hl := Nat.mod_lt 18446744073709551616 hp
  have hnl := n.isLt
  have hml := (n - 1#64).isLt
  have htl := reftells_any x n
  generalize mulHi x n = v at *
  generalize hL : 18446744073709551616 % n.toNat = L at *
  have hm1 : (n - 1#64).toNat < 18446744073709551616 := hml
  have hb := bnd v.toNat L (n - 1#64).toNat hv (by omega) hm1
  obtain ⟨hL67, hv1, hv2, hv3⟩ := hb
  have hlo := refloss_any n hn
  rw [hL] at hlo
  have HL := Lib.hid hlo
  have hdv := fun va vb w1 h1 h2 => div01_any va vb (v.toNat * 2 ^ 64 + L + (n - 1#64).toNat) n.toNat 130 64 hv3 n.isLt hp (by omega) (by omega) (by omega) w1 h1 h2
  have hqw := fun va w1 h1 => word_any va ((v.toNat * 2 ^ 64 + L + (n - 1#64).toNat) / n.toNat) 130 (Nat.lt_of_le_of_lt (Nat.div_le_self _ _) hv3) (by omega) 0 (by omega) (by omega) w1 h1
  rw [show Int.toNat 0 = 0 from rfl, Nat.pow_zero] at hqw
  simp only [Nat.div_one] at hqw
  have hsh := fun va w1 h1 => shl_any va v.toNat 64 v.isLt (by omega) 64 130 (by omega) (by omega) (by omega) w1 h1
  have ha1 := fun va vb w1 h1 h2 => add_any va vb (v.toNat * 2 ^ 64) L 130 67 hv1 hL67 (by omega) (by omega) 130 (by omega) w1 h1 h2
  have ha2 := fun va vb w1 h1 h2 => add_any va vb (v.toNat * 2 ^ 64 + L) (n - 1#64).toNat 130 64 hv2 (BitVec.isLt _) (by omega) (by omega) 130 (by omega) w1 h1 h2
  have hof1 := fun w1 => of_any v 64 (by omega) w1
  have hof2 := fun w1 => of_any (n - 1#64) 64 (by omega) w1
  have hof3 := fun w1 => of_any n 64 (by omega) w1
  rw [show Int.toNat 64 = 64 from rfl, show Int.toNat 130 = 130 from rfl] at hsh
  rw [show Int.toNat 130 = 130 from rfl] at ha1 ha2
  rw [show Int.toNat 64 = 64 from rfl] at hof1 hof2 hof3
  have HR := Lib.hid hr
  have HT := Lib.hid htl
  have HD := Lib.hid hdv
  have HQ := Lib.hid hqw
  have HS := Lib.hid hsh
  have HA := Lib.hid ha1
  have HA2 := Lib.hid ha2
  have HO1 := Lib.hid hof1
  have HO2 := Lib.hid hof2
  have HO3 := Lib.hid hof3
  clear hr htl hdv hqw hsh ha1 ha2 hof1 hof2 hof3 hlo hv hl hnl hml hm1 hL67 hv1 hv2 hv3 hL hp
  go_enter Try.func40, Try.ntmps40
  go_wp2_with fail
  refine (HT.out _).mono ?_
  rintro e w1 ⟨rfl, b1⟩
  go_wp2_with fail
  refine (HO1.out _).mono ?_
  rintro e w2 ⟨u1, rfl, hown, b2⟩
  rw [bvs_length] at hown
  have x1 := Lib.hid (SlV.of_owns hown)
  have hB2 := b1.trans (b2.mono b1.size)
  clear hown b1 b2
  go_wp2_with fail
  refine (HS.out _ _ x1.out).mono ?_
  rintro e w3 ⟨u2, rfl, hown, b3⟩
  rw [bvs_length] at hown
  have x2 := Lib.hid (SlV.of_owns hown)
  have hB3 := hB2.trans (b3.mono hB2.size)
  clear hown hB2 b3 x1
  go_wp2_with fail
  refine (HL.out _).mono ?_
  rintro e w4 ⟨u3, rfl, x3', b4⟩
  have x3 := Lib.hid x3'
  clear x3'
  have x2b := Lib.hid (x2.out.below b4)
  have hB4 := hB3.trans (b4.mono hB3.size)
  clear hB3 b4 x2
  go_wp2_with fail
  refine ((HA.out _ _ _ x2b.out x3.out).mono fun _ _ h => retS2_out h).mono ?_
  rintro e w5 ⟨u4, c4, rfl, x4', b5⟩
  have x4 := Lib.hid x4'
  clear x4'
  have hB5 := hB4.trans (b5.mono hB4.size)
  clear hB4 b5 x2b x3
  go_wp2_with fail
  refine (HO2.out _).mono ?_
  rintro e w6 ⟨u5, rfl, hown, b6⟩
  rw [bvs_length] at hown
  have x5 := Lib.hid (SlV.of_owns hown)
  have x4b := Lib.hid (x4.out.below b6)
  have hB6 := hB5.trans (b6.mono hB5.size)
  clear hown hB5 b6 x4
  go_wp2_with fail
  refine ((HA2.out _ _ _ x4b.out x5.out).mono fun _ _ h => retS2_out h).mono ?_
  rintro e w7 ⟨u6, c6, rfl, x6', b7⟩
  have x6 := Lib.hid x6'
  clear x6'
  have hB7 := hB6.trans (b7.mono hB6.size)
  clear hB6 b7 x4b x5
  go_wp2_with fail
  refine (HO3.out _).mono ?_
  rintro e w8 ⟨u7, rfl, hown, b8⟩
  rw [bvs_length] at hown
  have x7 := Lib.hid (SlV.of_owns hown)
  have x6b := Lib.hid (x6.out.below b8)
  have hB8 := hB7.trans (b8.mono hB7.size)
  clear hown hB7 b8 x6
  go_wp2_with fail
  refine (HD.out _ _ _ x6b.out x7.out).mono ?_
  rintro e w9 ⟨u8, u9, rfl, x8, _, b9⟩
  have hB9 := hB8.trans (b9.mono hB8.size)
  have hW := HQ.out _ _ x8
  clear hB8 b9 x6b x7 x8
  go_wp2_with fail
  refine hW.mono ?_
  rintro e w' ⟨rfl, rfl⟩
  go_wp2_with fail
  rw [← HR.out]
  go_ret2
  exact ⟨rfl, hB9⟩
end Go.Proofs.Ytodflmngbkiemaa
