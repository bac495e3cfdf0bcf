/- The walk of chapter 6's law of division. For every input. No condition but the table of trailing zeros. -/
import Derived.Test.YthiahpkodnfdcaaDoorL06
import Derived.Test.YthiahpkodnfdcaaDoorG10
namespace Go.Proofs.YthiahpkodnfdcaaDoor
open Go.RowKit
theorem cw_len6 {N k : Nat} (h : sz N ≤ 64 * k) : (cw N).length ≤ k := cw_len_lt h
theorem divs_longa (v v2 : Value) (xs ms : List (BitVec 64)) (w : World) (h : SlK w v xs) (h2 : SlK w v2 ms) (hl : xs.length ≤ 9223372036854775807) (hT : Tab w) (h6 : ¬ xs.length ≤ 6) :
    Calls Tryd.prog 6 #[v, v2] w fun e w' => e = .returned (.bool true) ∧ Below w.heap.size w w' := by
  have H := Lib.hid (And.intro h h2)
  have HT := Lib.hid hT
  have h6' := decide_eq_false h6
  clear h h2 hT
  go_enter Tryd.func6, Tryd.ntmps6
  go_wp2_with fail
  have hk := awake06 w HT.out
  refine hk.mono ?_
  rintro e_ w1 ⟨rfl, b1⟩
  have hb1 := b1
  clear hk  b1
  go_wp2_with fail
  have hk := short_any v xs _ (H.out.1.below hb1) hl
  rw [h6'] at hk
  refine hk.mono ?_
  rintro e_ w' ⟨rfl, rfl⟩
  clear hk
  go_wp2_with fail
  go_ret
  exact ⟨rfl, hb1⟩
theorem divs_longb (v v2 : Value) (xs ms : List (BitVec 64)) (w : World) (h : SlK w v xs) (h2 : SlK w v2 ms) (hl : xs.length ≤ 9223372036854775807) (hl2 : ms.length ≤ 9223372036854775807) (hT : Tab w) (h6 : xs.length ≤ 6) (h7 : ¬ ms.length ≤ 6) :
    Calls Tryd.prog 6 #[v, v2] w fun e w' => e = .returned (.bool true) ∧ Below w.heap.size w w' := by
  have H := Lib.hid (And.intro h h2)
  have HT := Lib.hid hT
  have h6' := decide_eq_true h6
  have h7' := decide_eq_false h7
  clear h h2 hT
  go_enter Tryd.func6, Tryd.ntmps6
  go_wp2_with fail
  have hk := awake06 w HT.out
  refine hk.mono ?_
  rintro e_ w1 ⟨rfl, b1⟩
  have hb1 := b1
  clear hk  b1
  go_wp2_with fail
  have hk := short_any v xs _ (H.out.1.below hb1) hl
  rw [h6'] at hk
  refine hk.mono ?_
  rintro e_ w' ⟨rfl, rfl⟩
  clear hk
  go_wp2_with fail
  have hk := short_any v2 ms _ (H.out.2.below hb1) hl2
  rw [h7'] at hk
  refine hk.mono ?_
  rintro e_ w' ⟨rfl, rfl⟩
  clear hk
  go_wp2_with fail
  go_ret
  exact ⟨rfl, hb1⟩
theorem divs_zero (v v2 : Value) (xs ms : List (BitVec 64)) (w : World) (h : SlK w v xs) (h2 : SlK w v2 ms) (hT : Tab w) (h6 : xs.length ≤ 6) (h7 : ms.length ≤ 6) (hz : nv ms = 0) :
    Calls Tryd.prog 6 #[v, v2] w fun e w' => e = .returned (.bool true) ∧ Below w.heap.size w w' := by
  have hTp := hT.1
  have HT := Lib.hid hT
  have h6' := decide_eq_true h6
  have h7' := decide_eq_true h7
  have HZ := Lib.hid hz
  have HA := Lib.hid h
  have HM := Lib.hid h2
  clear h h2 hT hz
  go_enter Tryd.func6, Tryd.ntmps6
  go_wp2_with fail
  have hk := awake06 w HT.out
  refine hk.mono ?_
  rintro e_ w1 ⟨rfl, b1⟩
  have fa_1 := Lib.hid (HA.out.below b1)
  have fm_1 := Lib.hid (HM.out.below b1)
  clear HA HM
  have hb1 := b1
  clear hk  b1
  go_wp2_with fail
  have hk := short_any v xs _ fa_1.out (by omega)
  rw [h6'] at hk
  refine hk.mono ?_
  rintro e_ w' ⟨rfl, rfl⟩
  clear hk
  go_wp2_with fail
  have hk := short_any v2 ms _ fm_1.out (by omega)
  rw [h7'] at hk
  refine hk.mono ?_
  rintro e_ w' ⟨rfl, rfl⟩
  clear hk
  go_wp2_with fail
  have hk := div_zero v v2 ms _ fm_1.out (by omega) HZ.out
  refine hk.mono ?_
  rintro e_ w2 ⟨v3, rfl, s3, b2⟩
  obtain ⟨ao3, cap3, rfl⟩ := slV_len s3.1
  have fa_2 := Lib.hid (fa_1.out.below b2)
  have fm_2 := Lib.hid (fm_1.out.below b2)
  clear fa_1 fm_1
  have fq_2 := Lib.hid s3
  have hb2 := hb1.trans (b2.mono hb1.size)
  clear hk s3 hb1 b2
  go_wp2_with fail
  have hk := mod_zero v v2 ms _ fm_2.out (by omega) HZ.out
  refine hk.mono ?_
  rintro e_ w3 ⟨v4, rfl, s4, b3⟩
  obtain ⟨ao4, cap4, rfl⟩ := slV_len s4.1
  have fa_3 := Lib.hid (fa_2.out.below b3)
  have fm_3 := Lib.hid (fm_2.out.below b3)
  have fq_3 := Lib.hid (fq_2.out.below b3)
  clear fa_2 fm_2 fq_2
  have fr_3 := Lib.hid s4
  have hb3 := hb2.trans (b3.mono hb2.size)
  clear hk s4 hb2 b3
  go_wp2_with fail
  have hk := of_any v2 ms _ fm_3.out (by omega)
  refine hk.mono ?_
  rintro e_ w4 ⟨v5, rfl, s5, b4⟩
  have fa_4 := Lib.hid (fa_3.out.below b4)
  have fm_4 := Lib.hid (fm_3.out.below b4)
  have fq_4 := Lib.hid (fq_3.out.below b4)
  have fr_4 := Lib.hid (fr_3.out.below b4)
  clear fa_3 fm_3 fq_3 fr_3
  have fo_4 := Lib.hid s5
  have hb4 := hb3.trans (b4.mono hb3.size)
  clear hk s5 hb3 b4
  go_wp2_with fail
  have hk := rdeg_any _ (nv ms) (64 * ms.length) _ fo_4.out (by omega) (nv_lt ms)
  rw [HZ.out, sz_zero] at hk
  refine hk.mono ?_
  rintro e_ w' ⟨rfl, rfl⟩
  clear hk
  go_wp2_with fail
  go_ret
  exact ⟨rfl, hb4⟩
set_option maxRecDepth 100000 in
theorem divs_good (v v2 : Value) (xs ms : List (BitVec 64)) (w : World) (h : SlK w v xs) (h2 : SlK w v2 ms) (hT : Tab w) (h6 : xs.length ≤ 6) (h7 : ms.length ≤ 6) (hz : nv ms ≠ 0) :
    Calls Tryd.prog 6 #[v, v2] w fun e w' => e = .returned (.bool true) ∧ Below w.heap.size w w' := by
  have hTp := hT.1
  have HT := Lib.hid hT
  have h6' := decide_eq_true h6
  have h7' := decide_eq_true h7
  have HZ := Lib.hid hz
  have HA := Lib.hid h
  have HM := Lib.hid h2
  have hA := nv_lt xs
  have hM := nv_lt ms
  obtain ⟨A, hAe⟩ : ∃ A, nv xs = A := ⟨_, rfl⟩
  obtain ⟨M, hMe⟩ : ∃ M, nv ms = M := ⟨_, rfl⟩
  rw [hAe] at hA
  rw [hMe] at hM hz
  have hback := div_back A M
  have hrl := rem_lt A M hz
  have hsA := sz_le.2 hA
  have hsM := sz_le.2 hM
  obtain ⟨q, hq⟩ : ∃ q, dquo A M = q := ⟨_, rfl⟩
  obtain ⟨r, hr⟩ : ∃ r, drem A M = r := ⟨_, rfl⟩
  rw [hq, hr] at hback
  rw [hr] at hrl
  have hsq : sz q ≤ 64 * 6 + 1 := by
    by_cases hq0 : q = 0
    · rw [hq0, sz_zero]; omega
    · have h1 := sz_clm hq0 hz
      have hr2 : clm q M = A ^^^ r := by rw [← hback, Nat.xor_assoc, Nat.xor_self, Nat.xor_zero]
      have h2 := sz_xor_le A r (64 * 6) (by omega) (by omega)
      rw [← hr2] at h2
      have : sz M ≠ 0 := fun e => hz (sz_eq_zero.1 e)
      omega
  have hlq : (cw q).length ≤ 10 := cw_len_lt (by omega)
  have hlr : (cw r).length ≤ 10 := cw_len_lt (by omega)
  obtain ⟨s, hs⟩ : ∃ s, sz M = s := ⟨_, rfl⟩
  obtain ⟨t, ht⟩ : ∃ t, sz r = t := ⟨_, rfl⟩
  have hs1 : ¬ (s : Int) - 1 < 0 := by have : sz M ≠ 0 := fun e => hz (sz_eq_zero.1 e); omega
  have hts : (t : Int) - 1 < (s : Int) - 1 := by omega
  have HE := Lib.hid (And.intro hAe hMe)
  have HQ := Lib.hid (And.intro hq hr)
  have HS := Lib.hid (And.intro hs ht)
  have HBK := Lib.hid hback
  have HLT := Lib.hid (And.intro hA (And.intro hM hz))
  have hlb : (cw (clm q M)).length ≤ 40 := by
    apply cw_len_lt
    by_cases hq0 : q = 0
    · rw [hq0, clm_zero, sz_zero]; omega
    · have h1 := sz_clm hq0 hz
      omega
  have hlA : (cw A).length ≤ 100 := cw_len_lt (by omega)
  clear h h2 hT hz hA hM hAe hMe hback hrl hsA hsM hsq hs ht hq hr
  go_enter Tryd.func6, Tryd.ntmps6
  go_wp2_with fail
  have hk := awake06 w HT.out
  refine hk.mono ?_
  rintro e_ w1 ⟨rfl, b1⟩
  have fa_1 := Lib.hid (HA.out.below b1)
  have fm_1 := Lib.hid (HM.out.below b1)
  clear HA HM
  have hb1 := b1
  clear hk  b1
  go_wp2_with fail
  have hk := short_any v xs _ fa_1.out (by omega)
  rw [h6'] at hk
  refine hk.mono ?_
  rintro e_ w' ⟨rfl, rfl⟩
  clear hk
  go_wp2_with fail
  have hk := short_any v2 ms _ fm_1.out (by omega)
  rw [h7'] at hk
  refine hk.mono ?_
  rintro e_ w' ⟨rfl, rfl⟩
  clear hk
  go_wp2_with fail
  have hk := div_any v v2 xs ms _ fa_1.out fm_1.out (by omega) (by omega) HZ.out
  rw [HE.out.1, HE.out.2, HQ.out.1] at hk
  refine hk.mono ?_
  rintro e_ w2 ⟨v3, rfl, s3, b2⟩
  have fa_2 := Lib.hid (fa_1.out.below b2)
  have fm_2 := Lib.hid (fm_1.out.below b2)
  clear fa_1 fm_1
  have fq_2 := Lib.hid s3
  have hb2 := hb1.trans (b2.mono hb1.size)
  clear hk s3 hb1 b2
  go_wp2_with fail
  have hk := mod_any v v2 xs ms _ fa_2.out fm_2.out (by omega) (by omega) HZ.out
  rw [HE.out.1, HE.out.2, HQ.out.2] at hk
  refine hk.mono ?_
  rintro e_ w3 ⟨v4, rfl, s4, b3⟩
  have fa_3 := Lib.hid (fa_2.out.below b3)
  have fm_3 := Lib.hid (fm_2.out.below b3)
  have fq_3 := Lib.hid (fq_2.out.below b3)
  clear fa_2 fm_2 fq_2
  have fr_3 := Lib.hid s4
  have hb3 := hb2.trans (b3.mono hb2.size)
  clear hk s4 hb2 b3
  go_wp2_with fail
  have hk := of_any v2 ms _ fm_3.out (by omega)
  rw [HE.out.2] at hk
  refine hk.mono ?_
  rintro e_ w4 ⟨v5, rfl, s5, b4⟩
  have fa_4 := Lib.hid (fa_3.out.below b4)
  have fm_4 := Lib.hid (fm_3.out.below b4)
  have fq_4 := Lib.hid (fq_3.out.below b4)
  have fr_4 := Lib.hid (fr_3.out.below b4)
  clear fa_3 fm_3 fq_3 fr_3
  have fo_4 := Lib.hid s5
  have hb4 := hb3.trans (b4.mono hb3.size)
  clear hk s5 hb3 b4
  go_wp2_with fail
  have hk := rdeg_any _ M (64 * ms.length) _ fo_4.out (by omega) HLT.out.2.1
  rw [HS.out.1] at hk
  refine hk.mono ?_
  rintro e_ w' ⟨rfl, rfl⟩
  clear hk
  go_wp2_with fail
  have hk := of_any v xs _ fa_4.out (by omega)
  rw [HE.out.1] at hk
  refine hk.mono ?_
  rintro e_ w5 ⟨v6, rfl, s6, b5⟩
  have fa_5 := Lib.hid (fa_4.out.below b5)
  have fm_5 := Lib.hid (fm_4.out.below b5)
  have fq_5 := Lib.hid (fq_4.out.below b5)
  have fr_5 := Lib.hid (fr_4.out.below b5)
  have fo_5 := Lib.hid (fo_4.out.below b5)
  clear fa_4 fm_4 fq_4 fr_4 fo_4
  have fp_5 := Lib.hid s6
  have hb5 := hb4.trans (b5.mono hb4.size)
  clear hk s6 hb4 b5
  go_wp2_with fail
  have hk := of_any v2 ms _ fm_5.out (by omega)
  rw [HE.out.2] at hk
  refine hk.mono ?_
  rintro e_ w6 ⟨v7, rfl, s7, b6⟩
  have fa_6 := Lib.hid (fa_5.out.below b6)
  have fm_6 := Lib.hid (fm_5.out.below b6)
  have fq_6 := Lib.hid (fq_5.out.below b6)
  have fr_6 := Lib.hid (fr_5.out.below b6)
  have fo_6 := Lib.hid (fo_5.out.below b6)
  have fp_6 := Lib.hid (fp_5.out.below b6)
  clear fa_5 fm_5 fq_5 fr_5 fo_5 fp_5
  have fo2_6 := Lib.hid s7
  have hb6 := hb5.trans (b6.mono hb5.size)
  clear hk s7 hb5 b6
  go_wp2_with fail
  have hk := rdivide_any v6 v7 A (64 * xs.length) M (64 * ms.length) _ fp_6.out fo2_6.out (by omega) (by omega) HLT.out.1 HLT.out.2.1 HLT.out.2.2
  refine hk.mono ?_
  rintro e_ w7 ⟨v8, l8, v9, rfl, s8, k8, m8, s9, k9, b7⟩
  rw [HQ.out.1] at s8 k8
  rw [HQ.out.2] at s9 k9
  have K8 := Lib.hid (And.intro k8 k9)
  clear k8 k9
  have fa_7 := Lib.hid (fa_6.out.below b7)
  have fm_7 := Lib.hid (fm_6.out.below b7)
  have fq_7 := Lib.hid (fq_6.out.below b7)
  have fr_7 := Lib.hid (fr_6.out.below b7)
  have fo_7 := Lib.hid (fo_6.out.below b7)
  have fp_7 := Lib.hid (fp_6.out.below b7)
  have fo2_7 := Lib.hid (fo2_6.out.below b7)
  clear fa_6 fm_6 fq_6 fr_6 fo_6 fp_6 fo2_6
  have gq_7 := Lib.hid s8
  have gr_7 := Lib.hid s9
  have hb7 := hb6.trans (b7.mono hb6.size)
  clear hk s8 s9 hb6 b7
  go_wp2_with fail
  have hk := mul_any v3 v2 (cw q) ms _ fq_7.out fm_7.out (by omega) (by omega) (HT.out.belowN hb7 hTp)
  rw [nv_cw, HE.out.2] at hk
  refine hk.mono ?_
  rintro e_ w8 ⟨v10, rfl, s10, b8⟩
  have fa_8 := Lib.hid (fa_7.out.below b8)
  have fm_8 := Lib.hid (fm_7.out.below b8)
  have fq_8 := Lib.hid (fq_7.out.below b8)
  have fr_8 := Lib.hid (fr_7.out.below b8)
  have fo_8 := Lib.hid (fo_7.out.below b8)
  have fp_8 := Lib.hid (fp_7.out.below b8)
  have fo2_8 := Lib.hid (fo2_7.out.below b8)
  have gq_8 := Lib.hid (gq_7.out.below b8)
  have gr_8 := Lib.hid (gr_7.out.below b8)
  clear fa_7 fm_7 fq_7 fr_7 fo_7 fp_7 fo2_7 gq_7 gr_7
  have gm_8 := Lib.hid s10
  have hb8 := hb7.trans (b8.mono hb7.size)
  clear hk s10 hb7 b8
  go_wp2_with fail
  have hk := add_any v10 v4 (cw (clm q M)) (cw r) _ gm_8.out fr_8.out (by omega) (by omega)
  rw [nv_cw, nv_cw, HBK.out] at hk
  refine hk.mono ?_
  rintro e_ w9 ⟨v11, rfl, s11, b9⟩
  have fa_9 := Lib.hid (fa_8.out.below b9)
  have fm_9 := Lib.hid (fm_8.out.below b9)
  have fq_9 := Lib.hid (fq_8.out.below b9)
  have fr_9 := Lib.hid (fr_8.out.below b9)
  have fo_9 := Lib.hid (fo_8.out.below b9)
  have fp_9 := Lib.hid (fp_8.out.below b9)
  have fo2_9 := Lib.hid (fo2_8.out.below b9)
  have gq_9 := Lib.hid (gq_8.out.below b9)
  have gr_9 := Lib.hid (gr_8.out.below b9)
  have gm_9 := Lib.hid (gm_8.out.below b9)
  clear fa_8 fm_8 fq_8 fr_8 fo_8 fp_8 fo2_8 gq_8 gr_8 gm_8
  have gb_9 := Lib.hid s11
  have hb9 := hb8.trans (b9.mono hb8.size)
  clear hk s11 hb8 b9
  go_wp2_with fail
  have hk := words06 v3 v8 (cw q) q l8 _ fq_9.out gq_9.out (by omega) (by omega) K8.out.1
  rw [decide_eq_true rfl] at hk
  refine hk.mono ?_
  rintro e_ w10 ⟨rfl, b10⟩
  have fa_10 := Lib.hid (fa_9.out.below b10)
  have fm_10 := Lib.hid (fm_9.out.below b10)
  have fq_10 := Lib.hid (fq_9.out.below b10)
  have fr_10 := Lib.hid (fr_9.out.below b10)
  have fo_10 := Lib.hid (fo_9.out.below b10)
  have fp_10 := Lib.hid (fp_9.out.below b10)
  have fo2_10 := Lib.hid (fo2_9.out.below b10)
  have gq_10 := Lib.hid (gq_9.out.below b10)
  have gr_10 := Lib.hid (gr_9.out.below b10)
  have gm_10 := Lib.hid (gm_9.out.below b10)
  have gb_10 := Lib.hid (gb_9.out.below b10)
  clear fa_9 fm_9 fq_9 fr_9 fo_9 fp_9 fo2_9 gq_9 gr_9 gm_9 gb_9
  have hb10 := hb9.trans (b10.mono hb9.size)
  clear hk  hb9 b10
  go_wp2_with fail
  have hk := words06 v4 v9 (cw r) r (64 * xs.length) _ fr_10.out gr_10.out (by omega) (by omega) K8.out.2
  rw [decide_eq_true rfl] at hk
  refine hk.mono ?_
  rintro e_ w11 ⟨rfl, b11⟩
  have fa_11 := Lib.hid (fa_10.out.below b11)
  have fm_11 := Lib.hid (fm_10.out.below b11)
  have fq_11 := Lib.hid (fq_10.out.below b11)
  have fr_11 := Lib.hid (fr_10.out.below b11)
  have fo_11 := Lib.hid (fo_10.out.below b11)
  have fp_11 := Lib.hid (fp_10.out.below b11)
  have fo2_11 := Lib.hid (fo2_10.out.below b11)
  have gq_11 := Lib.hid (gq_10.out.below b11)
  have gr_11 := Lib.hid (gr_10.out.below b11)
  have gm_11 := Lib.hid (gm_10.out.below b11)
  have gb_11 := Lib.hid (gb_10.out.below b11)
  clear fa_10 fm_10 fq_10 fr_10 fo_10 fp_10 fo2_10 gq_10 gr_10 gm_10 gb_10
  have hb11 := hb10.trans (b11.mono hb10.size)
  clear hk  hb10 b11
  go_wp2_with fail
  have hk := trim_any v xs _ fa_11.out (by omega)
  rw [HE.out.1] at hk
  refine hk.mono ?_
  rintro e_ w12 ⟨v12, rfl, s12, _, b12⟩
  have fa_12 := Lib.hid (fa_11.out.below b12)
  have fm_12 := Lib.hid (fm_11.out.below b12)
  have fq_12 := Lib.hid (fq_11.out.below b12)
  have fr_12 := Lib.hid (fr_11.out.below b12)
  have fo_12 := Lib.hid (fo_11.out.below b12)
  have fp_12 := Lib.hid (fp_11.out.below b12)
  have fo2_12 := Lib.hid (fo2_11.out.below b12)
  have gq_12 := Lib.hid (gq_11.out.below b12)
  have gr_12 := Lib.hid (gr_11.out.below b12)
  have gm_12 := Lib.hid (gm_11.out.below b12)
  have gb_12 := Lib.hid (gb_11.out.below b12)
  clear fa_11 fm_11 fq_11 fr_11 fo_11 fp_11 fo2_11 gq_11 gr_11 gm_11 gb_11
  have gt_12 := Lib.hid s12
  have hb12 := hb11.trans (b12.mono hb11.size)
  clear hk s12 hb11 b12
  go_wp2_with fail
  have hk := words_any v11 v12 (cw A) (cw A) _ gb_12.out.1 gt_12.out.1 (by omega) (by omega)
  rw [decide_eq_true rfl] at hk
  refine hk.mono ?_
  rintro e_ w13 ⟨rfl, b13⟩
  have fa_13 := Lib.hid (fa_12.out.below b13)
  have fm_13 := Lib.hid (fm_12.out.below b13)
  have fq_13 := Lib.hid (fq_12.out.below b13)
  have fr_13 := Lib.hid (fr_12.out.below b13)
  have fo_13 := Lib.hid (fo_12.out.below b13)
  have fp_13 := Lib.hid (fp_12.out.below b13)
  have fo2_13 := Lib.hid (fo2_12.out.below b13)
  have gq_13 := Lib.hid (gq_12.out.below b13)
  have gr_13 := Lib.hid (gr_12.out.below b13)
  have gm_13 := Lib.hid (gm_12.out.below b13)
  have gb_13 := Lib.hid (gb_12.out.below b13)
  have gt_13 := Lib.hid (gt_12.out.below b13)
  clear fa_12 fm_12 fq_12 fr_12 fo_12 fp_12 fo2_12 gq_12 gr_12 gm_12 gb_12 gt_12
  have hb13 := hb12.trans (b13.mono hb12.size)
  clear hk  hb12 b13
  go_wp2_with fail
  have hk := deg_any v4 (cw r) _ fr_13.out (by omega)
  rw [nv_cw, HS.out.2] at hk
  refine hk.mono ?_
  rintro e_ w' ⟨rfl, rfl⟩
  clear hk
  go_wp2_with fail
  have hk := deg_any v2 ms _ fm_13.out (by omega)
  rw [HE.out.2, HS.out.1] at hk
  refine hk.mono ?_
  rintro e_ w' ⟨rfl, rfl⟩
  clear hk
  go_wp2_with fail
  go_ret
  exact ⟨rfl, hb13⟩
theorem divs_law (v : Value) (xs : List (BitVec 64)) (v2 : Value) (ms : List (BitVec 64)) (w : World) (hx : SlV w v (vals xs)) (hl : xs.length ≤ 9223372036854775807) (hc : CapOk v) (hx2 : SlV w v2 (vals ms)) (hl2 : ms.length ≤ 9223372036854775807) (hc2 : CapOk v2) (hT : Tab w) :
    Calls Tryd.prog 6 #[v, v2] w fun e w' => e = .returned (.bool true) ∧ Below w.heap.size w w' := by
  by_cases h6 : xs.length ≤ 6
  · by_cases h7 : ms.length ≤ 6
    · by_cases hz : nv ms = 0
      · exact divs_zero v v2 xs ms w ⟨hx, hc⟩ ⟨hx2, hc2⟩ hT h6 h7 hz
      · exact divs_good v v2 xs ms w ⟨hx, hc⟩ ⟨hx2, hc2⟩ hT h6 h7 hz
    · exact divs_longb v v2 xs ms w ⟨hx, hc⟩ ⟨hx2, hc2⟩ hl hl2 hT h6 h7
  · exact divs_longa v v2 xs ms w ⟨hx, hc⟩ ⟨hx2, hc2⟩ hl hT h6
end Go.Proofs.YthiahpkodnfdcaaDoor
