/- The walk of chapter 6's law of the greatest common divisor. For every input. No condition but the table of trailing zeros. -/
import Derived.Test.YthiahpkodnfdcaaDoorL06b
namespace Go.Proofs.YthiahpkodnfdcaaDoor
open Go.RowKit
theorem gcd_facts (A B M X Y G : Nat) (hX : clm A M = X) (hY : clm B M = Y) (hG : gcd2 X Y = G) (hne : ¬ (X = 0 ∧ Y = 0)) :
    G ≠ 0 ∧ M ≠ 0 ∧ drem X G = 0 ∧ drem Y G = 0 ∧ drem G M = 0 := by
  have hd := gcdN_dvd (sz Y) X Y (Nat.le_refl _)
  have hg := gcdN_greatest (sz Y) X Y M (Nat.le_refl _) ⟨A, hX.symm⟩ ⟨B, hY.symm⟩
  have e : gcdN (sz Y) X Y = G := hG
  rw [e] at hd hg
  have hG0 : G ≠ 0 := by
    rintro rfl
    obtain ⟨⟨c, hc⟩, ⟨d, hd⟩⟩ := hd
    rw [clm_r0] at hc hd
    exact hne ⟨hc, hd⟩
  have hM0 : M ≠ 0 := by
    rintro rfl
    rw [clm_r0] at hX hY
    exact hne ⟨hX.symm, hY.symm⟩
  exact ⟨hG0, hM0, (dvd_iff hG0).1 hd.1, (dvd_iff hG0).1 hd.2, (dvd_iff hM0).1 hg⟩
theorem dvd_sz {G X : Nat} (h : Dvd G X) (hX : X ≠ 0) : sz G ≤ sz X := by
  obtain ⟨c, rfl⟩ := h
  have hc : c ≠ 0 := by rintro rfl; rw [clm_zero] at hX; exact hX rfl
  have hG : G ≠ 0 := by rintro rfl; rw [clm_r0] at hX; exact hX rfl
  have := sz_clm hc hG
  have : sz c ≠ 0 := fun e => hc (sz_eq_zero.1 e)
  omega
theorem clm_sz (A M k l : Nat) (hA : sz A ≤ k) (hM : sz M ≤ l) : sz (clm A M) ≤ k + l := by
  by_cases h1 : A = 0
  · rw [h1, clm_zero, sz_zero]; omega
  · by_cases h2 : M = 0
    · rw [h2, clm_r0, sz_zero]; omega
    · have := sz_clm h1 h2; omega
theorem common_long0 (v v2 v3 : Value) (xs ys ms : List (BitVec 64)) (w : World) (h : SlK w v xs) (h2 : SlK w v2 ys) (h3 : SlK w v3 ms) (hT : Tab w) (h6 : 2 < xs.length) :
    Calls Tryd.prog 4 #[v, v2, v3] w fun e w' => e = .returned (.bool true) ∧ Below w.heap.size w w' := by
  obtain ⟨ao, cap, rfl⟩ := slV_len h.1
  obtain ⟨ao2, cap2, rfl⟩ := slV_len h2.1
  obtain ⟨ao3, cap3, rfl⟩ := slV_len h3.1
  rw [vals_length, vals_length, vals_length]
  have HT := Lib.hid hT
  have q0 : (2 : Int) < (xs.length : Int) := by omega
  clear h h2 h3 hT
  go_enter Tryd.func4, Tryd.ntmps4
  go_wp2_with fail
  have hk := awake06 w HT.out
  refine hk.mono ?_
  rintro e_ w1 ⟨rfl, b1⟩
  have hb1 := b1
  clear hk  b1
  go_wp2_with fail
  go_ret
  exact ⟨rfl, hb1⟩
theorem common_long1 (v v2 v3 : Value) (xs ys ms : List (BitVec 64)) (w : World) (h : SlK w v xs) (h2 : SlK w v2 ys) (h3 : SlK w v3 ms) (hT : Tab w) (h6 : xs.length ≤ 2) (h7 : 2 < ys.length) :
    Calls Tryd.prog 4 #[v, v2, v3] w fun e w' => e = .returned (.bool true) ∧ Below w.heap.size w w' := by
  obtain ⟨ao, cap, rfl⟩ := slV_len h.1
  obtain ⟨ao2, cap2, rfl⟩ := slV_len h2.1
  obtain ⟨ao3, cap3, rfl⟩ := slV_len h3.1
  rw [vals_length, vals_length, vals_length]
  have HT := Lib.hid hT
  have q0 : ¬ (2 : Int) < (xs.length : Int) := by omega
  have q1 : (2 : Int) < (ys.length : Int) := by omega
  clear h h2 h3 hT
  go_enter Tryd.func4, Tryd.ntmps4
  go_wp2_with fail
  have hk := awake06 w HT.out
  refine hk.mono ?_
  rintro e_ w1 ⟨rfl, b1⟩
  have hb1 := b1
  clear hk  b1
  go_wp2_with fail
  go_ret
  exact ⟨rfl, hb1⟩
theorem common_long2 (v v2 v3 : Value) (xs ys ms : List (BitVec 64)) (w : World) (h : SlK w v xs) (h2 : SlK w v2 ys) (h3 : SlK w v3 ms) (hT : Tab w) (h6 : xs.length ≤ 2) (h7 : ys.length ≤ 2) (h8 : 2 < ms.length) :
    Calls Tryd.prog 4 #[v, v2, v3] w fun e w' => e = .returned (.bool true) ∧ Below w.heap.size w w' := by
  obtain ⟨ao, cap, rfl⟩ := slV_len h.1
  obtain ⟨ao2, cap2, rfl⟩ := slV_len h2.1
  obtain ⟨ao3, cap3, rfl⟩ := slV_len h3.1
  rw [vals_length, vals_length, vals_length]
  have HT := Lib.hid hT
  have q0 : ¬ (2 : Int) < (xs.length : Int) := by omega
  have q1 : ¬ (2 : Int) < (ys.length : Int) := by omega
  have q2 : (2 : Int) < (ms.length : Int) := by omega
  clear h h2 h3 hT
  go_enter Tryd.func4, Tryd.ntmps4
  go_wp2_with fail
  have hk := awake06 w HT.out
  refine hk.mono ?_
  rintro e_ w1 ⟨rfl, b1⟩
  have hb1 := b1
  clear hk  b1
  go_wp2_with fail
  go_ret
  exact ⟨rfl, hb1⟩
set_option maxRecDepth 100000 in
theorem common_zero (v v2 v3 : Value) (xs ys ms : List (BitVec 64)) (w : World) (h : SlK w v xs) (h2 : SlK w v2 ys) (h3 : SlK w v3 ms) (hT : Tab w) (h6 : xs.length ≤ 2) (h7 : ys.length ≤ 2) (h8 : ms.length ≤ 2) (h0 : clm (nv xs) (nv ms) = 0) (h1 : clm (nv ys) (nv ms) = 0) :
    Calls Tryd.prog 4 #[v, v2, v3] w fun e w' => e = .returned (.bool true) ∧ Below w.heap.size w w' := by
  obtain ⟨ao, cap, rfl⟩ := slV_len h.1
  obtain ⟨ao2, cap2, rfl⟩ := slV_len h2.1
  obtain ⟨ao3, cap3, rfl⟩ := slV_len h3.1
  rw [vals_length] at h h2 h3
  rw [vals_length, vals_length, vals_length]
  have q0 : ¬ (2 : Int) < (xs.length : Int) := by omega
  have q1 : ¬ (2 : Int) < (ys.length : Int) := by omega
  have q2 : ¬ (2 : Int) < (ms.length : Int) := by omega
  obtain ⟨A, hAe⟩ : ∃ A, nv xs = A := ⟨_, rfl⟩
  obtain ⟨B, hBe⟩ : ∃ B, nv ys = B := ⟨_, rfl⟩
  obtain ⟨M, hMe⟩ : ∃ M, nv ms = M := ⟨_, rfl⟩
  have sA := (@sz_le (nv xs) (64 * xs.length)).2 (nv_lt xs)
  have sB := (@sz_le (nv ys) (64 * ys.length)).2 (nv_lt ys)
  have sM := (@sz_le (nv ms) (64 * ms.length)).2 (nv_lt ms)
  rw [hAe] at sA
  rw [hBe] at sB
  rw [hMe] at sM
  have hMlt : M < 2 ^ (64 * ms.length) := by rw [← hMe]; exact nv_lt ms
  obtain ⟨X, hX⟩ : ∃ X, clm A M = X := ⟨_, rfl⟩
  obtain ⟨Y, hY⟩ : ∃ Y, clm B M = Y := ⟨_, rfl⟩
  obtain ⟨G, hG⟩ : ∃ G, gcd2 X Y = G := ⟨_, rfl⟩
  have sX := clm_sz A M _ _ sA sM
  have sY := clm_sz B M _ _ sB sM
  rw [hX] at sX
  rw [hY] at sY
  have HE := Lib.hid (And.intro hAe (And.intro hBe hMe))
  have HXY := Lib.hid (And.intro hX (And.intro hY hG))
  have HA := Lib.hid h
  have HB := Lib.hid h2
  have HM := Lib.hid h3
  have HT := Lib.hid hT
  have hTp := hT.1
  have lX : (cw X).length ≤ 4 := cw_len_lt (by omega)
  have lY : (cw Y).length ≤ 4 := cw_len_lt (by omega)
  rw [hAe, hMe] at h0
  rw [hBe, hMe] at h1
  have x0 : X = 0 := by rw [← hX]; exact h0
  have y0 : Y = 0 := by rw [← hY]; exact h1
  have g0 : G = 0 := by rw [← hG, x0, y0]; rfl
  have lg0 : ((cw G).length : Int) = 0 := by rw [g0, cw_zero]; rfl
  have sx0 : sz X = 0 := by rw [x0]; rfl
  have sy0 : sz Y = 0 := by rw [y0]; rfl
  have HS := Lib.hid (And.intro sx0 sy0)
  clear h h2 h3 hT hX hY hG hAe hBe hMe sA sB sM sX sY hMlt h0 h1 x0 y0 g0 sx0 sy0
  go_enter Tryd.func4, Tryd.ntmps4
  go_wp2_with fail
  have hk := awake06 w HT.out
  refine hk.mono ?_
  rintro e_ w1 ⟨rfl, b1⟩
  have fa_1 := Lib.hid (HA.out.below b1)
  have fb_1 := Lib.hid (HB.out.below b1)
  have fm_1 := Lib.hid (HM.out.below b1)
  clear HA HB HM
  have hb1 := b1
  clear hk  b1
  go_wp2_with fail
  have hk := mul_any _ _ xs ms _ fa_1.out fm_1.out (by omega) (by omega) (HT.out.belowN hb1 hTp)
  rw [HE.out.1, HE.out.2.2, HXY.out.1] at hk
  refine hk.mono ?_
  rintro e_ w2 ⟨v4, rfl, s4, b2⟩
  have fa_2 := Lib.hid (fa_1.out.below b2)
  have fb_2 := Lib.hid (fb_1.out.below b2)
  have fm_2 := Lib.hid (fm_1.out.below b2)
  clear fa_1 fb_1 fm_1
  have fx_2 := Lib.hid s4
  have hb2 := hb1.trans (b2.mono hb1.size)
  clear hk s4 hb1 b2
  go_wp2_with fail
  have hk := mul_any _ _ ys ms _ fb_2.out fm_2.out (by omega) (by omega) (HT.out.belowN hb2 hTp)
  rw [HE.out.2.1, HE.out.2.2, HXY.out.2.1] at hk
  refine hk.mono ?_
  rintro e_ w3 ⟨v5, rfl, s5, b3⟩
  have fa_3 := Lib.hid (fa_2.out.below b3)
  have fb_3 := Lib.hid (fb_2.out.below b3)
  have fm_3 := Lib.hid (fm_2.out.below b3)
  have fx_3 := Lib.hid (fx_2.out.below b3)
  clear fa_2 fb_2 fm_2 fx_2
  have fy_3 := Lib.hid s5
  have hb3 := hb2.trans (b3.mono hb2.size)
  clear hk s5 hb2 b3
  go_wp2_with fail
  have hk := gcd_any v4 v5 (cw X) (cw Y) _ fx_3.out fy_3.out (by omega) (by omega)
  rw [nv_cw, nv_cw, HXY.out.2.2] at hk
  refine hk.mono ?_
  rintro e_ w4 ⟨v6, rfl, s6, b4⟩
  obtain ⟨ao6, cap6, rfl⟩ := slV_len s6.1
  rw [vals_length] at s6 ⊢
  have fa_4 := Lib.hid (fa_3.out.below b4)
  have fb_4 := Lib.hid (fb_3.out.below b4)
  have fm_4 := Lib.hid (fm_3.out.below b4)
  have fx_4 := Lib.hid (fx_3.out.below b4)
  have fy_4 := Lib.hid (fy_3.out.below b4)
  clear fa_3 fb_3 fm_3 fx_3 fy_3
  have fg_4 := Lib.hid s6
  have hb4 := hb3.trans (b4.mono hb3.size)
  clear hk s6 hb3 b4
  go_wp2_with fail
  have hk := of_any v4 (cw X) _ fx_4.out (by omega)
  rw [nv_cw] at hk
  refine hk.mono ?_
  rintro e_ w5 ⟨u5, rfl, t5, b5⟩
  have fa_5 := Lib.hid (fa_4.out.below b5)
  have fb_5 := Lib.hid (fb_4.out.below b5)
  have fm_5 := Lib.hid (fm_4.out.below b5)
  have fx_5 := Lib.hid (fx_4.out.below b5)
  have fy_5 := Lib.hid (fy_4.out.below b5)
  have fg_5 := Lib.hid (fg_4.out.below b5)
  clear fa_4 fb_4 fm_4 fx_4 fy_4 fg_4
  have fo5_5 := Lib.hid t5
  have hb5 := hb4.trans (b5.mono hb4.size)
  clear hk t5 hb4 b5
  go_wp2_with fail
  have hk := rdeg_any _ X (64 * (cw X).length) _ fo5_5.out (by omega) (by have := nv_lt (cw X); rwa [nv_cw] at this)
  rw [HS.out.1] at hk
  refine hk.mono ?_
  rintro e_ w' ⟨rfl, rfl⟩
  clear hk
  go_wp2_with fail
  have hk := of_any v5 (cw Y) _ fy_5.out (by omega)
  rw [nv_cw] at hk
  refine hk.mono ?_
  rintro e_ w6 ⟨u6, rfl, t6, b6⟩
  have fa_6 := Lib.hid (fa_5.out.below b6)
  have fb_6 := Lib.hid (fb_5.out.below b6)
  have fm_6 := Lib.hid (fm_5.out.below b6)
  have fx_6 := Lib.hid (fx_5.out.below b6)
  have fy_6 := Lib.hid (fy_5.out.below b6)
  have fg_6 := Lib.hid (fg_5.out.below b6)
  have fo5_6 := Lib.hid (fo5_5.out.below b6)
  clear fa_5 fb_5 fm_5 fx_5 fy_5 fg_5 fo5_5
  have fo6_6 := Lib.hid t6
  have hb6 := hb5.trans (b6.mono hb5.size)
  clear hk t6 hb5 b6
  go_wp2_with fail
  have hk := rdeg_any _ Y (64 * (cw Y).length) _ fo6_6.out (by omega) (by have := nv_lt (cw Y); rwa [nv_cw] at this)
  rw [HS.out.2] at hk
  refine hk.mono ?_
  rintro e_ w' ⟨rfl, rfl⟩
  clear hk
  go_wp2_with fail
  go_ret
  exact ⟨rfl, hb6⟩
set_option maxRecDepth 100000 in
set_option maxHeartbeats 1000000 in
theorem common_x (v v2 v3 : Value) (xs ys ms : List (BitVec 64)) (w : World) (h : SlK w v xs) (h2 : SlK w v2 ys) (h3 : SlK w v3 ms) (hT : Tab w) (h6 : xs.length ≤ 2) (h7 : ys.length ≤ 2) (h8 : ms.length ≤ 2) (h0 : clm (nv xs) (nv ms) ≠ 0) :
    Calls Tryd.prog 4 #[v, v2, v3] w fun e w' => e = .returned (.bool true) ∧ Below w.heap.size w w' := by
  obtain ⟨ao, cap, rfl⟩ := slV_len h.1
  obtain ⟨ao2, cap2, rfl⟩ := slV_len h2.1
  obtain ⟨ao3, cap3, rfl⟩ := slV_len h3.1
  rw [vals_length] at h h2 h3
  rw [vals_length, vals_length, vals_length]
  have q0 : ¬ (2 : Int) < (xs.length : Int) := by omega
  have q1 : ¬ (2 : Int) < (ys.length : Int) := by omega
  have q2 : ¬ (2 : Int) < (ms.length : Int) := by omega
  obtain ⟨A, hAe⟩ : ∃ A, nv xs = A := ⟨_, rfl⟩
  obtain ⟨B, hBe⟩ : ∃ B, nv ys = B := ⟨_, rfl⟩
  obtain ⟨M, hMe⟩ : ∃ M, nv ms = M := ⟨_, rfl⟩
  have sA := (@sz_le (nv xs) (64 * xs.length)).2 (nv_lt xs)
  have sB := (@sz_le (nv ys) (64 * ys.length)).2 (nv_lt ys)
  have sM := (@sz_le (nv ms) (64 * ms.length)).2 (nv_lt ms)
  rw [hAe] at sA
  rw [hBe] at sB
  rw [hMe] at sM
  have hMlt : M < 2 ^ (64 * ms.length) := by rw [← hMe]; exact nv_lt ms
  obtain ⟨X, hX⟩ : ∃ X, clm A M = X := ⟨_, rfl⟩
  obtain ⟨Y, hY⟩ : ∃ Y, clm B M = Y := ⟨_, rfl⟩
  obtain ⟨G, hG⟩ : ∃ G, gcd2 X Y = G := ⟨_, rfl⟩
  have sX := clm_sz A M _ _ sA sM
  have sY := clm_sz B M _ _ sB sM
  rw [hX] at sX
  rw [hY] at sY
  have HE := Lib.hid (And.intro hAe (And.intro hBe hMe))
  have HXY := Lib.hid (And.intro hX (And.intro hY hG))
  have HA := Lib.hid h
  have HB := Lib.hid h2
  have HM := Lib.hid h3
  have HT := Lib.hid hT
  have hTp := hT.1
  have lX : (cw X).length ≤ 4 := cw_len_lt (by omega)
  have lY : (cw Y).length ≤ 4 := cw_len_lt (by omega)
  rw [hAe, hMe] at h0
  rw [hX] at h0
  obtain ⟨g0, m0, r1, r2, r3⟩ := gcd_facts A B M X Y G hX hY hG (fun x => h0 x.1)
  have hdv := gcdN_dvd (sz Y) X Y (Nat.le_refl _)
  rw [show gcdN (sz Y) X Y = G from hG] at hdv
  have sG : sz G ≤ 64 * 4 := by have := dvd_sz hdv.1 h0; omega
  have lG : (cw G).length ≤ 4 := cw_len_lt sG
  obtain ⟨sx, hsx⟩ : ∃ s, sz X = s := ⟨_, rfl⟩
  obtain ⟨sy, hsy⟩ : ∃ s, sz Y = s := ⟨_, rfl⟩
  obtain ⟨sg, hsg⟩ : ∃ s, sz G = s := ⟨_, rfl⟩
  obtain ⟨sm, hsm⟩ : ∃ s, sz M = s := ⟨_, rfl⟩
  have p2 : ¬ (sg : Int) - 1 < 0 := by have : sz G ≠ 0 := fun e => g0 (sz_eq_zero.1 e); omega
  have p3 : ¬ (sm : Int) - 1 < 0 := by have : sz M ≠ 0 := fun e => m0 (sz_eq_zero.1 e); omega
  have p4 : (0 : Int) ≤ (sg : Int) - 1 := by omega
  have p0 : ¬ (sx : Int) - 1 < 0 := by have : sz X ≠ 0 := fun e => h0 (sz_eq_zero.1 e); omega
  have HS := Lib.hid (And.intro hsx (And.intro hsy (And.intro hsg hsm)))
  have HR := Lib.hid (And.intro r1 (And.intro r2 r3))
  have HZ := Lib.hid (And.intro g0 m0)
  have HML := Lib.hid hMlt
  clear h h2 h3 hT hX hY hG hAe hBe hMe sA sB sM sX sY sG hMlt h0 r1 r2 r3 hdv hsx hsy hsg hsm g0 m0
  go_enter Tryd.func4, Tryd.ntmps4
  go_wp2_with fail
  have hk := awake06 w HT.out
  refine hk.mono ?_
  rintro e_ w1 ⟨rfl, b1⟩
  have fa_1 := Lib.hid (HA.out.below b1)
  have fb_1 := Lib.hid (HB.out.below b1)
  have fm_1 := Lib.hid (HM.out.below b1)
  clear HA HB HM
  have hb1 := b1
  clear hk  b1
  go_wp2_with fail
  have hk := mul_any _ _ xs ms _ fa_1.out fm_1.out (by omega) (by omega) (HT.out.belowN hb1 hTp)
  rw [HE.out.1, HE.out.2.2, HXY.out.1] at hk
  refine hk.mono ?_
  rintro e_ w2 ⟨v4, rfl, s4, b2⟩
  have fa_2 := Lib.hid (fa_1.out.below b2)
  have fb_2 := Lib.hid (fb_1.out.below b2)
  have fm_2 := Lib.hid (fm_1.out.below b2)
  clear fa_1 fb_1 fm_1
  have fx_2 := Lib.hid s4
  have hb2 := hb1.trans (b2.mono hb1.size)
  clear hk s4 hb1 b2
  go_wp2_with fail
  have hk := mul_any _ _ ys ms _ fb_2.out fm_2.out (by omega) (by omega) (HT.out.belowN hb2 hTp)
  rw [HE.out.2.1, HE.out.2.2, HXY.out.2.1] at hk
  refine hk.mono ?_
  rintro e_ w3 ⟨v5, rfl, s5, b3⟩
  have fa_3 := Lib.hid (fa_2.out.below b3)
  have fb_3 := Lib.hid (fb_2.out.below b3)
  have fm_3 := Lib.hid (fm_2.out.below b3)
  have fx_3 := Lib.hid (fx_2.out.below b3)
  clear fa_2 fb_2 fm_2 fx_2
  have fy_3 := Lib.hid s5
  have hb3 := hb2.trans (b3.mono hb2.size)
  clear hk s5 hb2 b3
  go_wp2_with fail
  have hk := gcd_any v4 v5 (cw X) (cw Y) _ fx_3.out fy_3.out (by omega) (by omega)
  rw [nv_cw, nv_cw, HXY.out.2.2] at hk
  refine hk.mono ?_
  rintro e_ w4 ⟨v6, rfl, s6, b4⟩
  obtain ⟨ao6, cap6, rfl⟩ := slV_len s6.1
  rw [vals_length] at s6 ⊢
  have fa_4 := Lib.hid (fa_3.out.below b4)
  have fb_4 := Lib.hid (fb_3.out.below b4)
  have fm_4 := Lib.hid (fm_3.out.below b4)
  have fx_4 := Lib.hid (fx_3.out.below b4)
  have fy_4 := Lib.hid (fy_3.out.below b4)
  clear fa_3 fb_3 fm_3 fx_3 fy_3
  have fg_4 := Lib.hid s6
  have hb4 := hb3.trans (b4.mono hb3.size)
  clear hk s6 hb3 b4
  go_wp2_with fail
  have hk := of_any v4 (cw X) _ fx_4.out (by omega)
  rw [nv_cw] at hk
  refine hk.mono ?_
  rintro e_ w5 ⟨u5, rfl, t5, b5⟩
  have fa_5 := Lib.hid (fa_4.out.below b5)
  have fb_5 := Lib.hid (fb_4.out.below b5)
  have fm_5 := Lib.hid (fm_4.out.below b5)
  have fx_5 := Lib.hid (fx_4.out.below b5)
  have fy_5 := Lib.hid (fy_4.out.below b5)
  have fg_5 := Lib.hid (fg_4.out.below b5)
  clear fa_4 fb_4 fm_4 fx_4 fy_4 fg_4
  have fo5_5 := Lib.hid t5
  have hb5 := hb4.trans (b5.mono hb4.size)
  clear hk t5 hb4 b5
  go_wp2_with fail
  have hk := rdeg_any _ X (64 * (cw X).length) _ fo5_5.out (by omega) (by have := nv_lt (cw X); rwa [nv_cw] at this)
  rw [HS.out.1] at hk
  refine hk.mono ?_
  rintro e_ w' ⟨rfl, rfl⟩
  clear hk
  go_wp2_with fail
  have hk := of_any _ (cw G) _ fg_5.out (by omega)
  rw [nv_cw] at hk
  refine hk.mono ?_
  rintro e_ w6 ⟨u6, rfl, t6, b6⟩
  have fa_6 := Lib.hid (fa_5.out.below b6)
  have fb_6 := Lib.hid (fb_5.out.below b6)
  have fm_6 := Lib.hid (fm_5.out.below b6)
  have fx_6 := Lib.hid (fx_5.out.below b6)
  have fy_6 := Lib.hid (fy_5.out.below b6)
  have fg_6 := Lib.hid (fg_5.out.below b6)
  have fo5_6 := Lib.hid (fo5_5.out.below b6)
  clear fa_5 fb_5 fm_5 fx_5 fy_5 fg_5 fo5_5
  have fo6_6 := Lib.hid t6
  have hb6 := hb5.trans (b6.mono hb5.size)
  clear hk t6 hb5 b6
  go_wp2_with fail
  have hk := rdeg_any _ G (64 * (cw G).length) _ fo6_6.out (by omega) (by have := nv_lt (cw G); rwa [nv_cw] at this)
  rw [HS.out.2.2.1] at hk
  refine hk.mono ?_
  rintro e_ w' ⟨rfl, rfl⟩
  clear hk
  go_wp2_with fail
  have hk := of_any _ ms _ fm_6.out (by omega)
  rw [HE.out.2.2] at hk
  refine hk.mono ?_
  rintro e_ w7 ⟨u7, rfl, t7, b7⟩
  have fa_7 := Lib.hid (fa_6.out.below b7)
  have fb_7 := Lib.hid (fb_6.out.below b7)
  have fm_7 := Lib.hid (fm_6.out.below b7)
  have fx_7 := Lib.hid (fx_6.out.below b7)
  have fy_7 := Lib.hid (fy_6.out.below b7)
  have fg_7 := Lib.hid (fg_6.out.below b7)
  have fo5_7 := Lib.hid (fo5_6.out.below b7)
  have fo6_7 := Lib.hid (fo6_6.out.below b7)
  clear fa_6 fb_6 fm_6 fx_6 fy_6 fg_6 fo5_6 fo6_6
  have fo7_7 := Lib.hid t7
  have hb7 := hb6.trans (b7.mono hb6.size)
  clear hk t7 hb6 b7
  go_wp2_with fail
  have hk := rdeg_any _ M (64 * ms.length) _ fo7_7.out (by omega) HML.out
  rw [HS.out.2.2.2] at hk
  refine hk.mono ?_
  rintro e_ w' ⟨rfl, rfl⟩
  clear hk
  go_wp2_with fail
  have hk := of_any v4 (cw X) _ fx_7.out (by omega)
  rw [nv_cw] at hk
  refine hk.mono ?_
  rintro e_ w8 ⟨u8, rfl, t8, b8⟩
  have fa_8 := Lib.hid (fa_7.out.below b8)
  have fb_8 := Lib.hid (fb_7.out.below b8)
  have fm_8 := Lib.hid (fm_7.out.below b8)
  have fx_8 := Lib.hid (fx_7.out.below b8)
  have fy_8 := Lib.hid (fy_7.out.below b8)
  have fg_8 := Lib.hid (fg_7.out.below b8)
  have fo5_8 := Lib.hid (fo5_7.out.below b8)
  have fo6_8 := Lib.hid (fo6_7.out.below b8)
  have fo7_8 := Lib.hid (fo7_7.out.below b8)
  clear fa_7 fb_7 fm_7 fx_7 fy_7 fg_7 fo5_7 fo6_7 fo7_7
  have dar_8 := Lib.hid t8
  have hb8 := hb7.trans (b8.mono hb7.size)
  clear hk t8 hb7 b8
  go_wp2_with fail
  have hk := of_any _ (cw G) _ fg_8.out (by omega)
  rw [nv_cw] at hk
  refine hk.mono ?_
  rintro e_ w9 ⟨u9, rfl, t9, b9⟩
  have fa_9 := Lib.hid (fa_8.out.below b9)
  have fb_9 := Lib.hid (fb_8.out.below b9)
  have fm_9 := Lib.hid (fm_8.out.below b9)
  have fx_9 := Lib.hid (fx_8.out.below b9)
  have fy_9 := Lib.hid (fy_8.out.below b9)
  have fg_9 := Lib.hid (fg_8.out.below b9)
  have fo5_9 := Lib.hid (fo5_8.out.below b9)
  have fo6_9 := Lib.hid (fo6_8.out.below b9)
  have fo7_9 := Lib.hid (fo7_8.out.below b9)
  have dar_9 := Lib.hid (dar_8.out.below b9)
  clear fa_8 fb_8 fm_8 fx_8 fy_8 fg_8 fo5_8 fo6_8 fo7_8 dar_8
  have dbr_9 := Lib.hid t9
  have hb9 := hb8.trans (b9.mono hb8.size)
  clear hk t9 hb8 b9
  go_wp2_with fail
  have hk := rdivide_any _ _ X (64 * (cw X).length) G (64 * (cw G).length) _ dar_9.out dbr_9.out (by omega) (by omega) (by have := nv_lt (cw X); rwa [nv_cw] at this) (by have := nv_lt (cw G); rwa [nv_cw] at this) HZ.out.1
  refine hk.mono ?_
  rintro e_ w10 ⟨v8r, l8r, v9r, rfl, s8r, k8r, m8r, s9r, k9r, b10⟩
  rw [HR.out.1] at s9r k9r
  have Kr := Lib.hid k9r
  clear k9r s8r k8r m8r
  have fa_10 := Lib.hid (fa_9.out.below b10)
  have fb_10 := Lib.hid (fb_9.out.below b10)
  have fm_10 := Lib.hid (fm_9.out.below b10)
  have fx_10 := Lib.hid (fx_9.out.below b10)
  have fy_10 := Lib.hid (fy_9.out.below b10)
  have fg_10 := Lib.hid (fg_9.out.below b10)
  have fo5_10 := Lib.hid (fo5_9.out.below b10)
  have fo6_10 := Lib.hid (fo6_9.out.below b10)
  have fo7_10 := Lib.hid (fo7_9.out.below b10)
  have dar_10 := Lib.hid (dar_9.out.below b10)
  have dbr_10 := Lib.hid (dbr_9.out.below b10)
  clear fa_9 fb_9 fm_9 fx_9 fy_9 fg_9 fo5_9 fo6_9 fo7_9 dar_9 dbr_9
  have rrr_10 := Lib.hid s9r
  have hb10 := hb9.trans (b10.mono hb9.size)
  clear hk s9r hb9 b10
  go_wp2_with fail
  have hk := of_any v5 (cw Y) _ fy_10.out (by omega)
  rw [nv_cw] at hk
  refine hk.mono ?_
  rintro e_ w11 ⟨u11, rfl, t11, b11⟩
  have fa_11 := Lib.hid (fa_10.out.below b11)
  have fb_11 := Lib.hid (fb_10.out.below b11)
  have fm_11 := Lib.hid (fm_10.out.below b11)
  have fx_11 := Lib.hid (fx_10.out.below b11)
  have fy_11 := Lib.hid (fy_10.out.below b11)
  have fg_11 := Lib.hid (fg_10.out.below b11)
  have fo5_11 := Lib.hid (fo5_10.out.below b11)
  have fo6_11 := Lib.hid (fo6_10.out.below b11)
  have fo7_11 := Lib.hid (fo7_10.out.below b11)
  have dar_11 := Lib.hid (dar_10.out.below b11)
  have dbr_11 := Lib.hid (dbr_10.out.below b11)
  have rrr_11 := Lib.hid (rrr_10.out.below b11)
  clear fa_10 fb_10 fm_10 fx_10 fy_10 fg_10 fo5_10 fo6_10 fo7_10 dar_10 dbr_10 rrr_10
  have das_11 := Lib.hid t11
  have hb11 := hb10.trans (b11.mono hb10.size)
  clear hk t11 hb10 b11
  go_wp2_with fail
  have hk := of_any _ (cw G) _ fg_11.out (by omega)
  rw [nv_cw] at hk
  refine hk.mono ?_
  rintro e_ w12 ⟨u12, rfl, t12, b12⟩
  have fa_12 := Lib.hid (fa_11.out.below b12)
  have fb_12 := Lib.hid (fb_11.out.below b12)
  have fm_12 := Lib.hid (fm_11.out.below b12)
  have fx_12 := Lib.hid (fx_11.out.below b12)
  have fy_12 := Lib.hid (fy_11.out.below b12)
  have fg_12 := Lib.hid (fg_11.out.below b12)
  have fo5_12 := Lib.hid (fo5_11.out.below b12)
  have fo6_12 := Lib.hid (fo6_11.out.below b12)
  have fo7_12 := Lib.hid (fo7_11.out.below b12)
  have dar_12 := Lib.hid (dar_11.out.below b12)
  have dbr_12 := Lib.hid (dbr_11.out.below b12)
  have rrr_12 := Lib.hid (rrr_11.out.below b12)
  have das_12 := Lib.hid (das_11.out.below b12)
  clear fa_11 fb_11 fm_11 fx_11 fy_11 fg_11 fo5_11 fo6_11 fo7_11 dar_11 dbr_11 rrr_11 das_11
  have dbs_12 := Lib.hid t12
  have hb12 := hb11.trans (b12.mono hb11.size)
  clear hk t12 hb11 b12
  go_wp2_with fail
  have hk := rdivide_any _ _ Y (64 * (cw Y).length) G (64 * (cw G).length) _ das_12.out dbs_12.out (by omega) (by omega) (by have := nv_lt (cw Y); rwa [nv_cw] at this) (by have := nv_lt (cw G); rwa [nv_cw] at this) HZ.out.1
  refine hk.mono ?_
  rintro e_ w13 ⟨v8s, l8s, v9s, rfl, s8s, k8s, m8s, s9s, k9s, b13⟩
  rw [HR.out.2.1] at s9s k9s
  have Ks := Lib.hid k9s
  clear k9s s8s k8s m8s
  have fa_13 := Lib.hid (fa_12.out.below b13)
  have fb_13 := Lib.hid (fb_12.out.below b13)
  have fm_13 := Lib.hid (fm_12.out.below b13)
  have fx_13 := Lib.hid (fx_12.out.below b13)
  have fy_13 := Lib.hid (fy_12.out.below b13)
  have fg_13 := Lib.hid (fg_12.out.below b13)
  have fo5_13 := Lib.hid (fo5_12.out.below b13)
  have fo6_13 := Lib.hid (fo6_12.out.below b13)
  have fo7_13 := Lib.hid (fo7_12.out.below b13)
  have dar_13 := Lib.hid (dar_12.out.below b13)
  have dbr_13 := Lib.hid (dbr_12.out.below b13)
  have rrr_13 := Lib.hid (rrr_12.out.below b13)
  have das_13 := Lib.hid (das_12.out.below b13)
  have dbs_13 := Lib.hid (dbs_12.out.below b13)
  clear fa_12 fb_12 fm_12 fx_12 fy_12 fg_12 fo5_12 fo6_12 fo7_12 dar_12 dbr_12 rrr_12 das_12 dbs_12
  have rrs_13 := Lib.hid s9s
  have hb13 := hb12.trans (b13.mono hb12.size)
  clear hk s9s hb12 b13
  go_wp2_with fail
  have hk := of_any _ (cw G) _ fg_13.out (by omega)
  rw [nv_cw] at hk
  refine hk.mono ?_
  rintro e_ w14 ⟨u14, rfl, t14, b14⟩
  have fa_14 := Lib.hid (fa_13.out.below b14)
  have fb_14 := Lib.hid (fb_13.out.below b14)
  have fm_14 := Lib.hid (fm_13.out.below b14)
  have fx_14 := Lib.hid (fx_13.out.below b14)
  have fy_14 := Lib.hid (fy_13.out.below b14)
  have fg_14 := Lib.hid (fg_13.out.below b14)
  have fo5_14 := Lib.hid (fo5_13.out.below b14)
  have fo6_14 := Lib.hid (fo6_13.out.below b14)
  have fo7_14 := Lib.hid (fo7_13.out.below b14)
  have dar_14 := Lib.hid (dar_13.out.below b14)
  have dbr_14 := Lib.hid (dbr_13.out.below b14)
  have rrr_14 := Lib.hid (rrr_13.out.below b14)
  have das_14 := Lib.hid (das_13.out.below b14)
  have dbs_14 := Lib.hid (dbs_13.out.below b14)
  have rrs_14 := Lib.hid (rrs_13.out.below b14)
  clear fa_13 fb_13 fm_13 fx_13 fy_13 fg_13 fo5_13 fo6_13 fo7_13 dar_13 dbr_13 rrr_13 das_13 dbs_13 rrs_13
  have dat_14 := Lib.hid t14
  have hb14 := hb13.trans (b14.mono hb13.size)
  clear hk t14 hb13 b14
  go_wp2_with fail
  have hk := of_any _ ms _ fm_14.out (by omega)
  rw [HE.out.2.2] at hk
  refine hk.mono ?_
  rintro e_ w15 ⟨u15, rfl, t15, b15⟩
  have fa_15 := Lib.hid (fa_14.out.below b15)
  have fb_15 := Lib.hid (fb_14.out.below b15)
  have fm_15 := Lib.hid (fm_14.out.below b15)
  have fx_15 := Lib.hid (fx_14.out.below b15)
  have fy_15 := Lib.hid (fy_14.out.below b15)
  have fg_15 := Lib.hid (fg_14.out.below b15)
  have fo5_15 := Lib.hid (fo5_14.out.below b15)
  have fo6_15 := Lib.hid (fo6_14.out.below b15)
  have fo7_15 := Lib.hid (fo7_14.out.below b15)
  have dar_15 := Lib.hid (dar_14.out.below b15)
  have dbr_15 := Lib.hid (dbr_14.out.below b15)
  have rrr_15 := Lib.hid (rrr_14.out.below b15)
  have das_15 := Lib.hid (das_14.out.below b15)
  have dbs_15 := Lib.hid (dbs_14.out.below b15)
  have rrs_15 := Lib.hid (rrs_14.out.below b15)
  have dat_15 := Lib.hid (dat_14.out.below b15)
  clear fa_14 fb_14 fm_14 fx_14 fy_14 fg_14 fo5_14 fo6_14 fo7_14 dar_14 dbr_14 rrr_14 das_14 dbs_14 rrs_14 dat_14
  have dbt_15 := Lib.hid t15
  have hb15 := hb14.trans (b15.mono hb14.size)
  clear hk t15 hb14 b15
  go_wp2_with fail
  have hk := rdivide_any _ _ G (64 * (cw G).length) M (64 * ms.length) _ dat_15.out dbt_15.out (by omega) (by omega) (by have := nv_lt (cw G); rwa [nv_cw] at this) HML.out HZ.out.2
  refine hk.mono ?_
  rintro e_ w16 ⟨v8t, l8t, v9t, rfl, s8t, k8t, m8t, s9t, k9t, b16⟩
  rw [HR.out.2.2] at s9t k9t
  have Kt := Lib.hid k9t
  clear k9t s8t k8t m8t
  have fa_16 := Lib.hid (fa_15.out.below b16)
  have fb_16 := Lib.hid (fb_15.out.below b16)
  have fm_16 := Lib.hid (fm_15.out.below b16)
  have fx_16 := Lib.hid (fx_15.out.below b16)
  have fy_16 := Lib.hid (fy_15.out.below b16)
  have fg_16 := Lib.hid (fg_15.out.below b16)
  have fo5_16 := Lib.hid (fo5_15.out.below b16)
  have fo6_16 := Lib.hid (fo6_15.out.below b16)
  have fo7_16 := Lib.hid (fo7_15.out.below b16)
  have dar_16 := Lib.hid (dar_15.out.below b16)
  have dbr_16 := Lib.hid (dbr_15.out.below b16)
  have rrr_16 := Lib.hid (rrr_15.out.below b16)
  have das_16 := Lib.hid (das_15.out.below b16)
  have dbs_16 := Lib.hid (dbs_15.out.below b16)
  have rrs_16 := Lib.hid (rrs_15.out.below b16)
  have dat_16 := Lib.hid (dat_15.out.below b16)
  have dbt_16 := Lib.hid (dbt_15.out.below b16)
  clear fa_15 fb_15 fm_15 fx_15 fy_15 fg_15 fo5_15 fo6_15 fo7_15 dar_15 dbr_15 rrr_15 das_15 dbs_15 rrs_15 dat_15 dbt_15
  have rrt_16 := Lib.hid s9t
  have hb16 := hb15.trans (b16.mono hb15.size)
  clear hk s9t hb15 b16
  go_wp2_with fail
  have hk := rdeg_any _ 0 (64 * (cw X).length) _ rrr_16.out (by omega) Kr.out
  rw [sz_zero] at hk
  refine hk.mono ?_
  rintro e_ w' ⟨rfl, rfl⟩
  clear hk
  go_wp2_with fail
  have hk := rdeg_any _ 0 (64 * (cw Y).length) _ rrs_16.out (by omega) Ks.out
  rw [sz_zero] at hk
  refine hk.mono ?_
  rintro e_ w' ⟨rfl, rfl⟩
  clear hk
  go_wp2_with fail
  have hk := rdeg_any _ 0 (64 * (cw G).length) _ rrt_16.out (by omega) Kt.out
  rw [sz_zero] at hk
  refine hk.mono ?_
  rintro e_ w' ⟨rfl, rfl⟩
  clear hk
  go_wp2_with fail
  have hk := deg_any _ (cw G) _ fg_16.out (by omega)
  rw [nv_cw, HS.out.2.2.1] at hk
  refine hk.mono ?_
  rintro e_ w' ⟨rfl, rfl⟩
  clear hk
  go_wp2_with fail
  go_ret
  exact ⟨rfl, hb16⟩
set_option maxRecDepth 100000 in
set_option maxHeartbeats 1000000 in
theorem common_y (v v2 v3 : Value) (xs ys ms : List (BitVec 64)) (w : World) (h : SlK w v xs) (h2 : SlK w v2 ys) (h3 : SlK w v3 ms) (hT : Tab w) (h6 : xs.length ≤ 2) (h7 : ys.length ≤ 2) (h8 : ms.length ≤ 2) (h0 : clm (nv xs) (nv ms) = 0) (h1 : clm (nv ys) (nv ms) ≠ 0) :
    Calls Tryd.prog 4 #[v, v2, v3] w fun e w' => e = .returned (.bool true) ∧ Below w.heap.size w w' := by
  obtain ⟨ao, cap, rfl⟩ := slV_len h.1
  obtain ⟨ao2, cap2, rfl⟩ := slV_len h2.1
  obtain ⟨ao3, cap3, rfl⟩ := slV_len h3.1
  rw [vals_length] at h h2 h3
  rw [vals_length, vals_length, vals_length]
  have q0 : ¬ (2 : Int) < (xs.length : Int) := by omega
  have q1 : ¬ (2 : Int) < (ys.length : Int) := by omega
  have q2 : ¬ (2 : Int) < (ms.length : Int) := by omega
  obtain ⟨A, hAe⟩ : ∃ A, nv xs = A := ⟨_, rfl⟩
  obtain ⟨B, hBe⟩ : ∃ B, nv ys = B := ⟨_, rfl⟩
  obtain ⟨M, hMe⟩ : ∃ M, nv ms = M := ⟨_, rfl⟩
  have sA := (@sz_le (nv xs) (64 * xs.length)).2 (nv_lt xs)
  have sB := (@sz_le (nv ys) (64 * ys.length)).2 (nv_lt ys)
  have sM := (@sz_le (nv ms) (64 * ms.length)).2 (nv_lt ms)
  rw [hAe] at sA
  rw [hBe] at sB
  rw [hMe] at sM
  have hMlt : M < 2 ^ (64 * ms.length) := by rw [← hMe]; exact nv_lt ms
  obtain ⟨X, hX⟩ : ∃ X, clm A M = X := ⟨_, rfl⟩
  obtain ⟨Y, hY⟩ : ∃ Y, clm B M = Y := ⟨_, rfl⟩
  obtain ⟨G, hG⟩ : ∃ G, gcd2 X Y = G := ⟨_, rfl⟩
  have sX := clm_sz A M _ _ sA sM
  have sY := clm_sz B M _ _ sB sM
  rw [hX] at sX
  rw [hY] at sY
  have HE := Lib.hid (And.intro hAe (And.intro hBe hMe))
  have HXY := Lib.hid (And.intro hX (And.intro hY hG))
  have HA := Lib.hid h
  have HB := Lib.hid h2
  have HM := Lib.hid h3
  have HT := Lib.hid hT
  have hTp := hT.1
  have lX : (cw X).length ≤ 4 := cw_len_lt (by omega)
  have lY : (cw Y).length ≤ 4 := cw_len_lt (by omega)
  rw [hAe, hMe] at h0
  rw [hX] at h0
  rw [hBe, hMe] at h1
  rw [hY] at h1
  obtain ⟨g0, m0, r1, r2, r3⟩ := gcd_facts A B M X Y G hX hY hG (fun x => h1 x.2)
  have hdv := gcdN_dvd (sz Y) X Y (Nat.le_refl _)
  rw [show gcdN (sz Y) X Y = G from hG] at hdv
  have sG : sz G ≤ 64 * 4 := by have := dvd_sz hdv.2 h1; omega
  have lG : (cw G).length ≤ 4 := cw_len_lt sG
  obtain ⟨sx, hsx⟩ : ∃ s, sz X = s := ⟨_, rfl⟩
  obtain ⟨sy, hsy⟩ : ∃ s, sz Y = s := ⟨_, rfl⟩
  obtain ⟨sg, hsg⟩ : ∃ s, sz G = s := ⟨_, rfl⟩
  obtain ⟨sm, hsm⟩ : ∃ s, sz M = s := ⟨_, rfl⟩
  have p2 : ¬ (sg : Int) - 1 < 0 := by have : sz G ≠ 0 := fun e => g0 (sz_eq_zero.1 e); omega
  have p3 : ¬ (sm : Int) - 1 < 0 := by have : sz M ≠ 0 := fun e => m0 (sz_eq_zero.1 e); omega
  have p4 : (0 : Int) ≤ (sg : Int) - 1 := by omega
  have p0 : (sx : Int) - 1 < 0 := by rw [h0, sz_zero] at hsx; omega
  have p1 : ¬ (sy : Int) - 1 < 0 := by have : sz Y ≠ 0 := fun e => h1 (sz_eq_zero.1 e); omega
  have HS := Lib.hid (And.intro hsx (And.intro hsy (And.intro hsg hsm)))
  have HR := Lib.hid (And.intro r1 (And.intro r2 r3))
  have HZ := Lib.hid (And.intro g0 m0)
  have HML := Lib.hid hMlt
  clear h h2 h3 hT hX hY hG hAe hBe hMe sA sB sM sX sY sG hMlt h0 r1 r2 r3 hdv hsx hsy hsg hsm g0 m0 h1
  go_enter Tryd.func4, Tryd.ntmps4
  go_wp2_with fail
  have hk := awake06 w HT.out
  refine hk.mono ?_
  rintro e_ w1 ⟨rfl, b1⟩
  have fa_1 := Lib.hid (HA.out.below b1)
  have fb_1 := Lib.hid (HB.out.below b1)
  have fm_1 := Lib.hid (HM.out.below b1)
  clear HA HB HM
  have hb1 := b1
  clear hk  b1
  go_wp2_with fail
  have hk := mul_any _ _ xs ms _ fa_1.out fm_1.out (by omega) (by omega) (HT.out.belowN hb1 hTp)
  rw [HE.out.1, HE.out.2.2, HXY.out.1] at hk
  refine hk.mono ?_
  rintro e_ w2 ⟨v4, rfl, s4, b2⟩
  have fa_2 := Lib.hid (fa_1.out.below b2)
  have fb_2 := Lib.hid (fb_1.out.below b2)
  have fm_2 := Lib.hid (fm_1.out.below b2)
  clear fa_1 fb_1 fm_1
  have fx_2 := Lib.hid s4
  have hb2 := hb1.trans (b2.mono hb1.size)
  clear hk s4 hb1 b2
  go_wp2_with fail
  have hk := mul_any _ _ ys ms _ fb_2.out fm_2.out (by omega) (by omega) (HT.out.belowN hb2 hTp)
  rw [HE.out.2.1, HE.out.2.2, HXY.out.2.1] at hk
  refine hk.mono ?_
  rintro e_ w3 ⟨v5, rfl, s5, b3⟩
  have fa_3 := Lib.hid (fa_2.out.below b3)
  have fb_3 := Lib.hid (fb_2.out.below b3)
  have fm_3 := Lib.hid (fm_2.out.below b3)
  have fx_3 := Lib.hid (fx_2.out.below b3)
  clear fa_2 fb_2 fm_2 fx_2
  have fy_3 := Lib.hid s5
  have hb3 := hb2.trans (b3.mono hb2.size)
  clear hk s5 hb2 b3
  go_wp2_with fail
  have hk := gcd_any v4 v5 (cw X) (cw Y) _ fx_3.out fy_3.out (by omega) (by omega)
  rw [nv_cw, nv_cw, HXY.out.2.2] at hk
  refine hk.mono ?_
  rintro e_ w4 ⟨v6, rfl, s6, b4⟩
  obtain ⟨ao6, cap6, rfl⟩ := slV_len s6.1
  rw [vals_length] at s6 ⊢
  have fa_4 := Lib.hid (fa_3.out.below b4)
  have fb_4 := Lib.hid (fb_3.out.below b4)
  have fm_4 := Lib.hid (fm_3.out.below b4)
  have fx_4 := Lib.hid (fx_3.out.below b4)
  have fy_4 := Lib.hid (fy_3.out.below b4)
  clear fa_3 fb_3 fm_3 fx_3 fy_3
  have fg_4 := Lib.hid s6
  have hb4 := hb3.trans (b4.mono hb3.size)
  clear hk s6 hb3 b4
  go_wp2_with fail
  have hk := of_any v4 (cw X) _ fx_4.out (by omega)
  rw [nv_cw] at hk
  refine hk.mono ?_
  rintro e_ w5 ⟨u5, rfl, t5, b5⟩
  have fa_5 := Lib.hid (fa_4.out.below b5)
  have fb_5 := Lib.hid (fb_4.out.below b5)
  have fm_5 := Lib.hid (fm_4.out.below b5)
  have fx_5 := Lib.hid (fx_4.out.below b5)
  have fy_5 := Lib.hid (fy_4.out.below b5)
  have fg_5 := Lib.hid (fg_4.out.below b5)
  clear fa_4 fb_4 fm_4 fx_4 fy_4 fg_4
  have fo5_5 := Lib.hid t5
  have hb5 := hb4.trans (b5.mono hb4.size)
  clear hk t5 hb4 b5
  go_wp2_with fail
  have hk := rdeg_any _ X (64 * (cw X).length) _ fo5_5.out (by omega) (by have := nv_lt (cw X); rwa [nv_cw] at this)
  rw [HS.out.1] at hk
  refine hk.mono ?_
  rintro e_ w' ⟨rfl, rfl⟩
  clear hk
  go_wp2_with fail
  have hk := of_any v5 (cw Y) _ fy_5.out (by omega)
  rw [nv_cw] at hk
  refine hk.mono ?_
  rintro e_ w6 ⟨u6, rfl, t6, b6⟩
  have fa_6 := Lib.hid (fa_5.out.below b6)
  have fb_6 := Lib.hid (fb_5.out.below b6)
  have fm_6 := Lib.hid (fm_5.out.below b6)
  have fx_6 := Lib.hid (fx_5.out.below b6)
  have fy_6 := Lib.hid (fy_5.out.below b6)
  have fg_6 := Lib.hid (fg_5.out.below b6)
  have fo5_6 := Lib.hid (fo5_5.out.below b6)
  clear fa_5 fb_5 fm_5 fx_5 fy_5 fg_5 fo5_5
  have fo6_6 := Lib.hid t6
  have hb6 := hb5.trans (b6.mono hb5.size)
  clear hk t6 hb5 b6
  go_wp2_with fail
  have hk := rdeg_any _ Y (64 * (cw Y).length) _ fo6_6.out (by omega) (by have := nv_lt (cw Y); rwa [nv_cw] at this)
  rw [HS.out.2.1] at hk
  refine hk.mono ?_
  rintro e_ w' ⟨rfl, rfl⟩
  clear hk
  go_wp2_with fail
  have hk := of_any _ (cw G) _ fg_6.out (by omega)
  rw [nv_cw] at hk
  refine hk.mono ?_
  rintro e_ w7 ⟨u7, rfl, t7, b7⟩
  have fa_7 := Lib.hid (fa_6.out.below b7)
  have fb_7 := Lib.hid (fb_6.out.below b7)
  have fm_7 := Lib.hid (fm_6.out.below b7)
  have fx_7 := Lib.hid (fx_6.out.below b7)
  have fy_7 := Lib.hid (fy_6.out.below b7)
  have fg_7 := Lib.hid (fg_6.out.below b7)
  have fo5_7 := Lib.hid (fo5_6.out.below b7)
  have fo6_7 := Lib.hid (fo6_6.out.below b7)
  clear fa_6 fb_6 fm_6 fx_6 fy_6 fg_6 fo5_6 fo6_6
  have fo7_7 := Lib.hid t7
  have hb7 := hb6.trans (b7.mono hb6.size)
  clear hk t7 hb6 b7
  go_wp2_with fail
  have hk := rdeg_any _ G (64 * (cw G).length) _ fo7_7.out (by omega) (by have := nv_lt (cw G); rwa [nv_cw] at this)
  rw [HS.out.2.2.1] at hk
  refine hk.mono ?_
  rintro e_ w' ⟨rfl, rfl⟩
  clear hk
  go_wp2_with fail
  have hk := of_any _ ms _ fm_7.out (by omega)
  rw [HE.out.2.2] at hk
  refine hk.mono ?_
  rintro e_ w8 ⟨u8, rfl, t8, b8⟩
  have fa_8 := Lib.hid (fa_7.out.below b8)
  have fb_8 := Lib.hid (fb_7.out.below b8)
  have fm_8 := Lib.hid (fm_7.out.below b8)
  have fx_8 := Lib.hid (fx_7.out.below b8)
  have fy_8 := Lib.hid (fy_7.out.below b8)
  have fg_8 := Lib.hid (fg_7.out.below b8)
  have fo5_8 := Lib.hid (fo5_7.out.below b8)
  have fo6_8 := Lib.hid (fo6_7.out.below b8)
  have fo7_8 := Lib.hid (fo7_7.out.below b8)
  clear fa_7 fb_7 fm_7 fx_7 fy_7 fg_7 fo5_7 fo6_7 fo7_7
  have fo8_8 := Lib.hid t8
  have hb8 := hb7.trans (b8.mono hb7.size)
  clear hk t8 hb7 b8
  go_wp2_with fail
  have hk := rdeg_any _ M (64 * ms.length) _ fo8_8.out (by omega) HML.out
  rw [HS.out.2.2.2] at hk
  refine hk.mono ?_
  rintro e_ w' ⟨rfl, rfl⟩
  clear hk
  go_wp2_with fail
  have hk := of_any v4 (cw X) _ fx_8.out (by omega)
  rw [nv_cw] at hk
  refine hk.mono ?_
  rintro e_ w9 ⟨u9, rfl, t9, b9⟩
  have fa_9 := Lib.hid (fa_8.out.below b9)
  have fb_9 := Lib.hid (fb_8.out.below b9)
  have fm_9 := Lib.hid (fm_8.out.below b9)
  have fx_9 := Lib.hid (fx_8.out.below b9)
  have fy_9 := Lib.hid (fy_8.out.below b9)
  have fg_9 := Lib.hid (fg_8.out.below b9)
  have fo5_9 := Lib.hid (fo5_8.out.below b9)
  have fo6_9 := Lib.hid (fo6_8.out.below b9)
  have fo7_9 := Lib.hid (fo7_8.out.below b9)
  have fo8_9 := Lib.hid (fo8_8.out.below b9)
  clear fa_8 fb_8 fm_8 fx_8 fy_8 fg_8 fo5_8 fo6_8 fo7_8 fo8_8
  have dar_9 := Lib.hid t9
  have hb9 := hb8.trans (b9.mono hb8.size)
  clear hk t9 hb8 b9
  go_wp2_with fail
  have hk := of_any _ (cw G) _ fg_9.out (by omega)
  rw [nv_cw] at hk
  refine hk.mono ?_
  rintro e_ w10 ⟨u10, rfl, t10, b10⟩
  have fa_10 := Lib.hid (fa_9.out.below b10)
  have fb_10 := Lib.hid (fb_9.out.below b10)
  have fm_10 := Lib.hid (fm_9.out.below b10)
  have fx_10 := Lib.hid (fx_9.out.below b10)
  have fy_10 := Lib.hid (fy_9.out.below b10)
  have fg_10 := Lib.hid (fg_9.out.below b10)
  have fo5_10 := Lib.hid (fo5_9.out.below b10)
  have fo6_10 := Lib.hid (fo6_9.out.below b10)
  have fo7_10 := Lib.hid (fo7_9.out.below b10)
  have fo8_10 := Lib.hid (fo8_9.out.below b10)
  have dar_10 := Lib.hid (dar_9.out.below b10)
  clear fa_9 fb_9 fm_9 fx_9 fy_9 fg_9 fo5_9 fo6_9 fo7_9 fo8_9 dar_9
  have dbr_10 := Lib.hid t10
  have hb10 := hb9.trans (b10.mono hb9.size)
  clear hk t10 hb9 b10
  go_wp2_with fail
  have hk := rdivide_any _ _ X (64 * (cw X).length) G (64 * (cw G).length) _ dar_10.out dbr_10.out (by omega) (by omega) (by have := nv_lt (cw X); rwa [nv_cw] at this) (by have := nv_lt (cw G); rwa [nv_cw] at this) HZ.out.1
  refine hk.mono ?_
  rintro e_ w11 ⟨v8r, l8r, v9r, rfl, s8r, k8r, m8r, s9r, k9r, b11⟩
  rw [HR.out.1] at s9r k9r
  have Kr := Lib.hid k9r
  clear k9r s8r k8r m8r
  have fa_11 := Lib.hid (fa_10.out.below b11)
  have fb_11 := Lib.hid (fb_10.out.below b11)
  have fm_11 := Lib.hid (fm_10.out.below b11)
  have fx_11 := Lib.hid (fx_10.out.below b11)
  have fy_11 := Lib.hid (fy_10.out.below b11)
  have fg_11 := Lib.hid (fg_10.out.below b11)
  have fo5_11 := Lib.hid (fo5_10.out.below b11)
  have fo6_11 := Lib.hid (fo6_10.out.below b11)
  have fo7_11 := Lib.hid (fo7_10.out.below b11)
  have fo8_11 := Lib.hid (fo8_10.out.below b11)
  have dar_11 := Lib.hid (dar_10.out.below b11)
  have dbr_11 := Lib.hid (dbr_10.out.below b11)
  clear fa_10 fb_10 fm_10 fx_10 fy_10 fg_10 fo5_10 fo6_10 fo7_10 fo8_10 dar_10 dbr_10
  have rrr_11 := Lib.hid s9r
  have hb11 := hb10.trans (b11.mono hb10.size)
  clear hk s9r hb10 b11
  go_wp2_with fail
  have hk := of_any v5 (cw Y) _ fy_11.out (by omega)
  rw [nv_cw] at hk
  refine hk.mono ?_
  rintro e_ w12 ⟨u12, rfl, t12, b12⟩
  have fa_12 := Lib.hid (fa_11.out.below b12)
  have fb_12 := Lib.hid (fb_11.out.below b12)
  have fm_12 := Lib.hid (fm_11.out.below b12)
  have fx_12 := Lib.hid (fx_11.out.below b12)
  have fy_12 := Lib.hid (fy_11.out.below b12)
  have fg_12 := Lib.hid (fg_11.out.below b12)
  have fo5_12 := Lib.hid (fo5_11.out.below b12)
  have fo6_12 := Lib.hid (fo6_11.out.below b12)
  have fo7_12 := Lib.hid (fo7_11.out.below b12)
  have fo8_12 := Lib.hid (fo8_11.out.below b12)
  have dar_12 := Lib.hid (dar_11.out.below b12)
  have dbr_12 := Lib.hid (dbr_11.out.below b12)
  have rrr_12 := Lib.hid (rrr_11.out.below b12)
  clear fa_11 fb_11 fm_11 fx_11 fy_11 fg_11 fo5_11 fo6_11 fo7_11 fo8_11 dar_11 dbr_11 rrr_11
  have das_12 := Lib.hid t12
  have hb12 := hb11.trans (b12.mono hb11.size)
  clear hk t12 hb11 b12
  go_wp2_with fail
  have hk := of_any _ (cw G) _ fg_12.out (by omega)
  rw [nv_cw] at hk
  refine hk.mono ?_
  rintro e_ w13 ⟨u13, rfl, t13, b13⟩
  have fa_13 := Lib.hid (fa_12.out.below b13)
  have fb_13 := Lib.hid (fb_12.out.below b13)
  have fm_13 := Lib.hid (fm_12.out.below b13)
  have fx_13 := Lib.hid (fx_12.out.below b13)
  have fy_13 := Lib.hid (fy_12.out.below b13)
  have fg_13 := Lib.hid (fg_12.out.below b13)
  have fo5_13 := Lib.hid (fo5_12.out.below b13)
  have fo6_13 := Lib.hid (fo6_12.out.below b13)
  have fo7_13 := Lib.hid (fo7_12.out.below b13)
  have fo8_13 := Lib.hid (fo8_12.out.below b13)
  have dar_13 := Lib.hid (dar_12.out.below b13)
  have dbr_13 := Lib.hid (dbr_12.out.below b13)
  have rrr_13 := Lib.hid (rrr_12.out.below b13)
  have das_13 := Lib.hid (das_12.out.below b13)
  clear fa_12 fb_12 fm_12 fx_12 fy_12 fg_12 fo5_12 fo6_12 fo7_12 fo8_12 dar_12 dbr_12 rrr_12 das_12
  have dbs_13 := Lib.hid t13
  have hb13 := hb12.trans (b13.mono hb12.size)
  clear hk t13 hb12 b13
  go_wp2_with fail
  have hk := rdivide_any _ _ Y (64 * (cw Y).length) G (64 * (cw G).length) _ das_13.out dbs_13.out (by omega) (by omega) (by have := nv_lt (cw Y); rwa [nv_cw] at this) (by have := nv_lt (cw G); rwa [nv_cw] at this) HZ.out.1
  refine hk.mono ?_
  rintro e_ w14 ⟨v8s, l8s, v9s, rfl, s8s, k8s, m8s, s9s, k9s, b14⟩
  rw [HR.out.2.1] at s9s k9s
  have Ks := Lib.hid k9s
  clear k9s s8s k8s m8s
  have fa_14 := Lib.hid (fa_13.out.below b14)
  have fb_14 := Lib.hid (fb_13.out.below b14)
  have fm_14 := Lib.hid (fm_13.out.below b14)
  have fx_14 := Lib.hid (fx_13.out.below b14)
  have fy_14 := Lib.hid (fy_13.out.below b14)
  have fg_14 := Lib.hid (fg_13.out.below b14)
  have fo5_14 := Lib.hid (fo5_13.out.below b14)
  have fo6_14 := Lib.hid (fo6_13.out.below b14)
  have fo7_14 := Lib.hid (fo7_13.out.below b14)
  have fo8_14 := Lib.hid (fo8_13.out.below b14)
  have dar_14 := Lib.hid (dar_13.out.below b14)
  have dbr_14 := Lib.hid (dbr_13.out.below b14)
  have rrr_14 := Lib.hid (rrr_13.out.below b14)
  have das_14 := Lib.hid (das_13.out.below b14)
  have dbs_14 := Lib.hid (dbs_13.out.below b14)
  clear fa_13 fb_13 fm_13 fx_13 fy_13 fg_13 fo5_13 fo6_13 fo7_13 fo8_13 dar_13 dbr_13 rrr_13 das_13 dbs_13
  have rrs_14 := Lib.hid s9s
  have hb14 := hb13.trans (b14.mono hb13.size)
  clear hk s9s hb13 b14
  go_wp2_with fail
  have hk := of_any _ (cw G) _ fg_14.out (by omega)
  rw [nv_cw] at hk
  refine hk.mono ?_
  rintro e_ w15 ⟨u15, rfl, t15, b15⟩
  have fa_15 := Lib.hid (fa_14.out.below b15)
  have fb_15 := Lib.hid (fb_14.out.below b15)
  have fm_15 := Lib.hid (fm_14.out.below b15)
  have fx_15 := Lib.hid (fx_14.out.below b15)
  have fy_15 := Lib.hid (fy_14.out.below b15)
  have fg_15 := Lib.hid (fg_14.out.below b15)
  have fo5_15 := Lib.hid (fo5_14.out.below b15)
  have fo6_15 := Lib.hid (fo6_14.out.below b15)
  have fo7_15 := Lib.hid (fo7_14.out.below b15)
  have fo8_15 := Lib.hid (fo8_14.out.below b15)
  have dar_15 := Lib.hid (dar_14.out.below b15)
  have dbr_15 := Lib.hid (dbr_14.out.below b15)
  have rrr_15 := Lib.hid (rrr_14.out.below b15)
  have das_15 := Lib.hid (das_14.out.below b15)
  have dbs_15 := Lib.hid (dbs_14.out.below b15)
  have rrs_15 := Lib.hid (rrs_14.out.below b15)
  clear fa_14 fb_14 fm_14 fx_14 fy_14 fg_14 fo5_14 fo6_14 fo7_14 fo8_14 dar_14 dbr_14 rrr_14 das_14 dbs_14 rrs_14
  have dat_15 := Lib.hid t15
  have hb15 := hb14.trans (b15.mono hb14.size)
  clear hk t15 hb14 b15
  go_wp2_with fail
  have hk := of_any _ ms _ fm_15.out (by omega)
  rw [HE.out.2.2] at hk
  refine hk.mono ?_
  rintro e_ w16 ⟨u16, rfl, t16, b16⟩
  have fa_16 := Lib.hid (fa_15.out.below b16)
  have fb_16 := Lib.hid (fb_15.out.below b16)
  have fm_16 := Lib.hid (fm_15.out.below b16)
  have fx_16 := Lib.hid (fx_15.out.below b16)
  have fy_16 := Lib.hid (fy_15.out.below b16)
  have fg_16 := Lib.hid (fg_15.out.below b16)
  have fo5_16 := Lib.hid (fo5_15.out.below b16)
  have fo6_16 := Lib.hid (fo6_15.out.below b16)
  have fo7_16 := Lib.hid (fo7_15.out.below b16)
  have fo8_16 := Lib.hid (fo8_15.out.below b16)
  have dar_16 := Lib.hid (dar_15.out.below b16)
  have dbr_16 := Lib.hid (dbr_15.out.below b16)
  have rrr_16 := Lib.hid (rrr_15.out.below b16)
  have das_16 := Lib.hid (das_15.out.below b16)
  have dbs_16 := Lib.hid (dbs_15.out.below b16)
  have rrs_16 := Lib.hid (rrs_15.out.below b16)
  have dat_16 := Lib.hid (dat_15.out.below b16)
  clear fa_15 fb_15 fm_15 fx_15 fy_15 fg_15 fo5_15 fo6_15 fo7_15 fo8_15 dar_15 dbr_15 rrr_15 das_15 dbs_15 rrs_15 dat_15
  have dbt_16 := Lib.hid t16
  have hb16 := hb15.trans (b16.mono hb15.size)
  clear hk t16 hb15 b16
  go_wp2_with fail
  have hk := rdivide_any _ _ G (64 * (cw G).length) M (64 * ms.length) _ dat_16.out dbt_16.out (by omega) (by omega) (by have := nv_lt (cw G); rwa [nv_cw] at this) HML.out HZ.out.2
  refine hk.mono ?_
  rintro e_ w17 ⟨v8t, l8t, v9t, rfl, s8t, k8t, m8t, s9t, k9t, b17⟩
  rw [HR.out.2.2] at s9t k9t
  have Kt := Lib.hid k9t
  clear k9t s8t k8t m8t
  have fa_17 := Lib.hid (fa_16.out.below b17)
  have fb_17 := Lib.hid (fb_16.out.below b17)
  have fm_17 := Lib.hid (fm_16.out.below b17)
  have fx_17 := Lib.hid (fx_16.out.below b17)
  have fy_17 := Lib.hid (fy_16.out.below b17)
  have fg_17 := Lib.hid (fg_16.out.below b17)
  have fo5_17 := Lib.hid (fo5_16.out.below b17)
  have fo6_17 := Lib.hid (fo6_16.out.below b17)
  have fo7_17 := Lib.hid (fo7_16.out.below b17)
  have fo8_17 := Lib.hid (fo8_16.out.below b17)
  have dar_17 := Lib.hid (dar_16.out.below b17)
  have dbr_17 := Lib.hid (dbr_16.out.below b17)
  have rrr_17 := Lib.hid (rrr_16.out.below b17)
  have das_17 := Lib.hid (das_16.out.below b17)
  have dbs_17 := Lib.hid (dbs_16.out.below b17)
  have rrs_17 := Lib.hid (rrs_16.out.below b17)
  have dat_17 := Lib.hid (dat_16.out.below b17)
  have dbt_17 := Lib.hid (dbt_16.out.below b17)
  clear fa_16 fb_16 fm_16 fx_16 fy_16 fg_16 fo5_16 fo6_16 fo7_16 fo8_16 dar_16 dbr_16 rrr_16 das_16 dbs_16 rrs_16 dat_16 dbt_16
  have rrt_17 := Lib.hid s9t
  have hb17 := hb16.trans (b17.mono hb16.size)
  clear hk s9t hb16 b17
  go_wp2_with fail
  have hk := rdeg_any _ 0 (64 * (cw X).length) _ rrr_17.out (by omega) Kr.out
  rw [sz_zero] at hk
  refine hk.mono ?_
  rintro e_ w' ⟨rfl, rfl⟩
  clear hk
  go_wp2_with fail
  have hk := rdeg_any _ 0 (64 * (cw Y).length) _ rrs_17.out (by omega) Ks.out
  rw [sz_zero] at hk
  refine hk.mono ?_
  rintro e_ w' ⟨rfl, rfl⟩
  clear hk
  go_wp2_with fail
  have hk := rdeg_any _ 0 (64 * (cw G).length) _ rrt_17.out (by omega) Kt.out
  rw [sz_zero] at hk
  refine hk.mono ?_
  rintro e_ w' ⟨rfl, rfl⟩
  clear hk
  go_wp2_with fail
  have hk := deg_any _ (cw G) _ fg_17.out (by omega)
  rw [nv_cw, HS.out.2.2.1] at hk
  refine hk.mono ?_
  rintro e_ w' ⟨rfl, rfl⟩
  clear hk
  go_wp2_with fail
  go_ret
  exact ⟨rfl, hb17⟩
theorem common_law (v : Value) (xs : List (BitVec 64)) (v2 : Value) (ys : List (BitVec 64)) (v3 : Value) (ms : List (BitVec 64)) (w : World) (hx : SlV w v (vals xs)) (_hl : xs.length ≤ 9223372036854775807) (hc : CapOk v) (hx2 : SlV w v2 (vals ys)) (_hl2 : ys.length ≤ 9223372036854775807) (hc2 : CapOk v2) (hx3 : SlV w v3 (vals ms)) (_hl3 : ms.length ≤ 9223372036854775807) (hc3 : CapOk v3) (hT : Tab w) :
    Calls Tryd.prog 4 #[v, v2, v3] w fun e w' => e = .returned (.bool true) ∧ Below w.heap.size w w' := by
  by_cases h6 : xs.length ≤ 2
  · by_cases h7 : ys.length ≤ 2
    · by_cases h8 : ms.length ≤ 2
      · by_cases h0 : clm (nv xs) (nv ms) = 0
        · by_cases h1 : clm (nv ys) (nv ms) = 0
          · exact common_zero v v2 v3 xs ys ms w ⟨hx, hc⟩ ⟨hx2, hc2⟩ ⟨hx3, hc3⟩ hT h6 h7 h8 h0 h1
          · exact common_y v v2 v3 xs ys ms w ⟨hx, hc⟩ ⟨hx2, hc2⟩ ⟨hx3, hc3⟩ hT h6 h7 h8 h0 h1
        · exact common_x v v2 v3 xs ys ms w ⟨hx, hc⟩ ⟨hx2, hc2⟩ ⟨hx3, hc3⟩ hT h6 h7 h8 h0
      · exact common_long2 v v2 v3 xs ys ms w ⟨hx, hc⟩ ⟨hx2, hc2⟩ ⟨hx3, hc3⟩ hT h6 h7 (by omega)
    · exact common_long1 v v2 v3 xs ys ms w ⟨hx, hc⟩ ⟨hx2, hc2⟩ ⟨hx3, hc3⟩ hT h6 (by omega)
  · exact common_long0 v v2 v3 xs ys ms w ⟨hx, hc⟩ ⟨hx2, hc2⟩ ⟨hx3, hc3⟩ hT (by omega)
end Go.Proofs.YthiahpkodnfdcaaDoor
