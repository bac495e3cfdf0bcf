/- The walk of chapter 6's law of reckoning. For every input. No condition but the table of trailing zeros. -/
import Derived.Test.YthiahpkodnfdcaaDoorL06
import Derived.Test.YthiahpkodnfdcaaDoorG10
namespace Go.Proofs.YthiahpkodnfdcaaDoor
open Go.RowKit
theorem slk_cell0 {w : World} {b o n cap : Nat} {xs : List (BitVec 64)} (h : SlK w (.slice (some ⟨b, o, none⟩) n cap) xs) (hp : 0 < xs.length) : w.cell? ⟨b, o, none⟩ = some (.int .u64 (ui xs[0])) := by
  rcases h.cases with ⟨rfl, _⟩ | ⟨_, b', o', cap', e, _, hc⟩
  · simp at hp
  · injection e with e1 _ _
    injection e1 with e1
    injection e1 with e1 e2 _
    subst e1 e2
    exact hc 0 hp
theorem nv_bit0 (xs : List (BitVec 64)) (hp : 0 < xs.length) (i : Nat) (hi : i < 64) : (nv xs).testBit i = xs[0].toNat.testBit i := by
  rw [nv_bit, Nat.div_eq_of_lt hi, Nat.mod_eq_of_lt hi, getD_at _ _ _ hp]
/-- the first word's bits -/
theorem BL.cut0 {w : World} {v : Value} {A : Nat} {xs : List (BitVec 64)} (h : BL w v A (64 * xs.length)) (hA : nv xs = A) (hp : 0 < xs.length) :
    ∃ b o cp, v = .slice (some ⟨b, o, none⟩) (64 * xs.length) cp ∧ (64 : Int) ≤ (cp : Int) ∧ BL w (.slice (some ⟨b, o, none⟩) 64 cp) xs[0].toNat 64 := by
  obtain ⟨b, o, cp, e, hn, hc⟩ := h.cells (by omega)
  refine ⟨b, o, cp, e, by omega, BL.mk' (by omega) (fun i hi => ?_)⟩
  rw [hc i (by omega), ← hA, nv_bit0 xs hp i hi]
theorem lit2_slk (w : World) (x y : BitVec 64) : SlK (w.alloc (.cells #[.int .u64 (ui x), .int .u64 (ui y)] 37)) (.slice (some ⟨w.heap.size, 0, none⟩) 2 2) [x, y] := by
  refine SlK.mk' rfl (Nat.le_refl _) (fun i hi => ?_)
  have h := (Blk.new w 37 #[.int .u64 (ui x), .int .u64 (ui y)]).cell i
  rw [Nat.zero_add, h]
  match i, hi with
  | 0, _ => rfl
  | 1, _ => rfl
theorem BL.drw {w : World} {v : Value} {N n : Nat} (h : BL w v N n) : BL w.drew v N n := h
theorem Tab.drw {w : World} (h : Tab w) : Tab w.drew := h
theorem SlK.drw {w : World} {v : Value} {xs : List (BitVec 64)} (h : SlK w v xs) : SlK w.drew v xs := h
theorem box_a {w w1 : World} {hi lo : BitVec 64} (hb : Below w.drew.heap.size w.drew w1) :
    Below w.heap.size w (w1.alloc (.cells #[.int .u64 (ui hi), .int .u64 (ui lo)] 39)) ∧ Blk (w1.alloc (.cells #[.int .u64 (ui hi), .int .u64 (ui lo)] 39)) w1.heap.size 39 #[.int .u64 (ui hi), .int .u64 (ui lo)] := by
  have h0 : Below w.heap.size w w1 := ((Below.refl _ _).drew).trans hb
  exact ⟨h0.alloc h0.size _, Blk.new _ _ _⟩
theorem box_b {w w1 : World} {hi lo : BitVec 64} {z : Obj} (P : Blk (w.alloc z) w.heap.size 39 #[.int .u64 0, .int .u64 0]) (hb : Below (w.alloc z).drew.heap.size (w.alloc z).drew w1) :
    Below w.heap.size w ((w1.setCell ⟨w.heap.size, 0, none⟩ (.int .u64 (ui hi))).setCell ⟨w.heap.size, 1, none⟩ (.int .u64 (ui lo))) ∧ Blk ((w1.setCell ⟨w.heap.size, 0, none⟩ (.int .u64 (ui hi))).setCell ⟨w.heap.size, 1, none⟩ (.int .u64 (ui lo))) w.heap.size 39 #[.int .u64 (ui hi), .int .u64 (ui lo)] := by
  have h1 : Below w.heap.size w (w.alloc z).drew := (below_new w z).drew
  have h0 : Below w.heap.size w w1 := h1.trans (hb.mono h1.size)
  exact ⟨(h0.setCell (p := ⟨w.heap.size, 0, none⟩) (Nat.le_refl _) _).setCell (p := ⟨w.heap.size, 1, none⟩) (Nat.le_refl _) _, ((P.drew.belowS hb).set_ 0 _).set_ 1 _⟩
theorem nv_two (a b : BitVec 64) : nv [clLo a b, clHi a b] = clm a.toNat b.toNat := by
  have := cl128_of (clm_lt a b)
  unfold cl128 at this
  unfold nv nv nv clLo clHi
  omega
theorem recks_longa (v v2 : Value) (xs ms : List (BitVec 64)) (w : World) (h : SlK w v xs) (h2 : SlK w v2 ms) (hl : xs.length ≤ 9223372036854775807) (hT : Tab w) (h6 : ¬ xs.length ≤ 6) :
    Calls Tryd.prog 5 #[v, v2] w fun e w' => e = .returned (.bool true) ∧ Below w.heap.size w w' := by
  have H := Lib.hid (And.intro h h2)
  have HT := Lib.hid hT
  have h6' := decide_eq_false h6
  clear h h2 hT
  go_enter Tryd.func5, Tryd.ntmps5
  go_wp2_with fail
  have hk := awake06 w HT.out
  refine hk.mono ?_
  rintro e_ w1 ⟨rfl, b1⟩
  have hb1 := b1
  clear hk  b1
  go_wp2_with fail
  have hk := short_any v xs _ (H.out.1.below hb1) hl
  rw [h6'] at hk
  refine hk.mono ?_
  rintro e_ w' ⟨rfl, rfl⟩
  clear hk
  go_wp2_with fail
  go_ret
  exact ⟨rfl, hb1⟩
theorem recks_longb (v v2 : Value) (xs ms : List (BitVec 64)) (w : World) (h : SlK w v xs) (h2 : SlK w v2 ms) (hl : xs.length ≤ 9223372036854775807) (hl2 : ms.length ≤ 9223372036854775807) (hT : Tab w) (h6 : xs.length ≤ 6) (h7 : ¬ ms.length ≤ 6) :
    Calls Tryd.prog 5 #[v, v2] w fun e w' => e = .returned (.bool true) ∧ Below w.heap.size w w' := by
  have H := Lib.hid (And.intro h h2)
  have HT := Lib.hid hT
  have h6' := decide_eq_true h6
  have h7' := decide_eq_false h7
  clear h h2 hT
  go_enter Tryd.func5, Tryd.ntmps5
  go_wp2_with fail
  have hk := awake06 w HT.out
  refine hk.mono ?_
  rintro e_ w1 ⟨rfl, b1⟩
  have hb1 := b1
  clear hk  b1
  go_wp2_with fail
  have hk := short_any v xs _ (H.out.1.below hb1) hl
  rw [h6'] at hk
  refine hk.mono ?_
  rintro e_ w' ⟨rfl, rfl⟩
  clear hk
  go_wp2_with fail
  have hk := short_any v2 ms _ (H.out.2.below hb1) hl2
  rw [h7'] at hk
  refine hk.mono ?_
  rintro e_ w' ⟨rfl, rfl⟩
  clear hk
  go_wp2_with fail
  go_ret
  exact ⟨rfl, hb1⟩
theorem recks_nil0 (v v2 : Value) (xs ys : List (BitVec 64)) (w : World) (h : SlK w v xs) (h2 : SlK w v2 ys) (hT : Tab w) (h6 : xs.length ≤ 6) (h7 : ys.length ≤ 6) (h8 : xs.length = 0) :
    Calls Tryd.prog 5 #[v, v2] w fun e w' => e = .returned (.bool true) ∧ Below w.heap.size w w' := by
  obtain ⟨ao, cap, rfl⟩ := slV_len h.1
  obtain ⟨ao2, cap2, rfl⟩ := slV_len h2.1
  rw [vals_length] at h h2
  rw [vals_length, vals_length]
  have hTp := hT.1
  have HT := Lib.hid hT
  have h6' := decide_eq_true h6
  have h7' := decide_eq_true h7
  have HA := Lib.hid h
  have HM := Lib.hid h2
  have hA := nv_lt xs
  have hM := nv_lt ys
  obtain ⟨A, hAe⟩ : ∃ A, nv xs = A := ⟨_, rfl⟩
  obtain ⟨M, hMe⟩ : ∃ M, nv ys = M := ⟨_, rfl⟩
  rw [hAe] at hA
  rw [hMe] at hM
  have hsA := sz_le.2 hA
  have hsM := sz_le.2 hM
  have hxl : sz (A ^^^ M) ≤ 64 * 6 := sz_xor_le A M (64 * 6) (by omega) (by omega)
  have hcl : sz (clm A M) ≤ 64 * 12 := by
    by_cases h1 : A = 0
    · rw [h1, clm_zero, sz_zero]; omega
    · by_cases h2 : M = 0
      · rw [h2, clm_r0, sz_zero]; omega
      · have := sz_clm h1 h2; omega
  have hlx : (cw (A ^^^ M)).length ≤ 12 := cw_len_lt (by omega)
  have hlc : (cw (clm A M)).length ≤ 12 := cw_len_lt (by omega)
  have hxor : A ^^^ M < 2 ^ max (64 * xs.length) (64 * ys.length) := by
    refine Nat.xor_lt_two_pow ?_ ?_
    · exact Nat.lt_of_lt_of_le hA (Nat.pow_le_pow_right (by decide) (by omega))
    · exact Nat.lt_of_lt_of_le hM (Nat.pow_le_pow_right (by decide) (by omega))
  have HE := Lib.hid (And.intro hAe hMe)
  have HLT := Lib.hid (And.intro hA (And.intro hM hxor))
  have HQ := Lib.hid (show (xs.length : Int) = 0 by omega)
  clear h h2 hT hA hM hAe hMe hsA hsM hxl hcl hxor
  clear h8
  go_enter Tryd.func5, Tryd.ntmps5
  go_wp2_with fail
  have hk := awake06 w HT.out
  refine hk.mono ?_
  rintro e_ w1 ⟨rfl, b1⟩
  have fa_1 := Lib.hid (HA.out.below b1)
  have fm_1 := Lib.hid (HM.out.below b1)
  clear HA HM
  have hb1 := b1
  clear hk  b1
  go_wp2_with fail
  have hk := short_any _ xs _ fa_1.out (by omega)
  rw [h6'] at hk
  refine hk.mono ?_
  rintro e_ w' ⟨rfl, rfl⟩
  clear hk
  go_wp2_with fail
  have hk := short_any _ ys _ fm_1.out (by omega)
  rw [h7'] at hk
  refine hk.mono ?_
  rintro e_ w' ⟨rfl, rfl⟩
  clear hk
  go_wp2_with fail
  have hk := of_any _ xs _ fa_1.out (by omega)
  rw [HE.out.1] at hk
  refine hk.mono ?_
  rintro e_ w2 ⟨v3, rfl, s3, b2⟩
  have fa_2 := Lib.hid (fa_1.out.below b2)
  have fm_2 := Lib.hid (fm_1.out.below b2)
  clear fa_1 fm_1
  have fp_2 := Lib.hid s3
  have hb2 := hb1.trans (b2.mono hb1.size)
  clear hk s3 hb1 b2
  go_wp2_with fail
  have hk := of_any _ ys _ fm_2.out (by omega)
  rw [HE.out.2] at hk
  refine hk.mono ?_
  rintro e_ w3 ⟨v4, rfl, s4, b3⟩
  have fa_3 := Lib.hid (fa_2.out.below b3)
  have fm_3 := Lib.hid (fm_2.out.below b3)
  have fp_3 := Lib.hid (fp_2.out.below b3)
  clear fa_2 fm_2 fp_2
  have fo_3 := Lib.hid s4
  have hb3 := hb2.trans (b3.mono hb2.size)
  clear hk s4 hb2 b3
  go_wp2_with fail
  have hk := add_any _ _ xs ys _ fa_3.out fm_3.out (by omega) (by omega)
  rw [HE.out.1, HE.out.2] at hk
  refine hk.mono ?_
  rintro e_ w4 ⟨v5, rfl, s5, b4⟩
  have fa_4 := Lib.hid (fa_3.out.below b4)
  have fm_4 := Lib.hid (fm_3.out.below b4)
  have fp_4 := Lib.hid (fp_3.out.below b4)
  have fo_4 := Lib.hid (fo_3.out.below b4)
  clear fa_3 fm_3 fp_3 fo_3
  have ga_4 := Lib.hid s5
  have hb4 := hb3.trans (b4.mono hb3.size)
  clear hk s5 hb3 b4
  go_wp2_with fail
  have hk := radd_any v3 v4 A (64 * xs.length) M (64 * ys.length) _ fp_4.out fo_4.out (by omega) (by omega) HLT.out.1 HLT.out.2.1
  refine hk.mono ?_
  rintro e_ w5 ⟨v6, rfl, s6, b5⟩
  have fa_5 := Lib.hid (fa_4.out.below b5)
  have fm_5 := Lib.hid (fm_4.out.below b5)
  have fp_5 := Lib.hid (fp_4.out.below b5)
  have fo_5 := Lib.hid (fo_4.out.below b5)
  have ga_5 := Lib.hid (ga_4.out.below b5)
  clear fa_4 fm_4 fp_4 fo_4 ga_4
  have gb_5 := Lib.hid s6
  have hb5 := hb4.trans (b5.mono hb4.size)
  clear hk s6 hb4 b5
  go_wp2_with fail
  have hk := words06 v5 v6 (cw (A ^^^ M)) (A ^^^ M) (max (64 * xs.length) (64 * ys.length)) _ ga_5.out gb_5.out (by omega) (by omega) HLT.out.2.2
  rw [decide_eq_true rfl] at hk
  refine hk.mono ?_
  rintro e_ w6 ⟨rfl, b6⟩
  have fa_6 := Lib.hid (fa_5.out.below b6)
  have fm_6 := Lib.hid (fm_5.out.below b6)
  have fp_6 := Lib.hid (fp_5.out.below b6)
  have fo_6 := Lib.hid (fo_5.out.below b6)
  have ga_6 := Lib.hid (ga_5.out.below b6)
  have gb_6 := Lib.hid (gb_5.out.below b6)
  clear fa_5 fm_5 fp_5 fo_5 ga_5 gb_5
  have hb6 := hb5.trans (b6.mono hb5.size)
  clear hk  hb5 b6
  go_wp2_with fail
  have hk := mul_any _ _ xs ys _ fa_6.out fm_6.out (by omega) (by omega) (HT.out.belowN hb6 hTp)
  rw [HE.out.1, HE.out.2] at hk
  refine hk.mono ?_
  rintro e_ w7 ⟨v7, rfl, s7, b7⟩
  have fa_7 := Lib.hid (fa_6.out.below b7)
  have fm_7 := Lib.hid (fm_6.out.below b7)
  have fp_7 := Lib.hid (fp_6.out.below b7)
  have fo_7 := Lib.hid (fo_6.out.below b7)
  have ga_7 := Lib.hid (ga_6.out.below b7)
  have gb_7 := Lib.hid (gb_6.out.below b7)
  clear fa_6 fm_6 fp_6 fo_6 ga_6 gb_6
  have gm_7 := Lib.hid s7
  have hb7 := hb6.trans (b7.mono hb6.size)
  clear hk s7 hb6 b7
  go_wp2_with fail
  have hk := rmul_any v3 v4 A (64 * xs.length) M (64 * ys.length) _ fp_7.out fo_7.out (by omega) (by omega) HLT.out.1 HLT.out.2.1
  refine hk.mono ?_
  rintro e_ w8 ⟨v8, l8, rfl, s8, k8, m8, b8⟩
  have K8 := Lib.hid k8
  clear k8
  have fa_8 := Lib.hid (fa_7.out.below b8)
  have fm_8 := Lib.hid (fm_7.out.below b8)
  have fp_8 := Lib.hid (fp_7.out.below b8)
  have fo_8 := Lib.hid (fo_7.out.below b8)
  have ga_8 := Lib.hid (ga_7.out.below b8)
  have gb_8 := Lib.hid (gb_7.out.below b8)
  have gm_8 := Lib.hid (gm_7.out.below b8)
  clear fa_7 fm_7 fp_7 fo_7 ga_7 gb_7 gm_7
  have gn_8 := Lib.hid s8
  have hb8 := hb7.trans (b8.mono hb7.size)
  clear hk s8 hb7 b8
  go_wp2_with fail
  have hk := words06 v7 v8 (cw (clm A M)) (clm A M) l8 _ gm_8.out gn_8.out (by omega) (by omega) K8.out
  rw [decide_eq_true rfl] at hk
  refine hk.mono ?_
  rintro e_ w9 ⟨rfl, b9⟩
  have fa_9 := Lib.hid (fa_8.out.below b9)
  have fm_9 := Lib.hid (fm_8.out.below b9)
  have fp_9 := Lib.hid (fp_8.out.below b9)
  have fo_9 := Lib.hid (fo_8.out.below b9)
  have ga_9 := Lib.hid (ga_8.out.below b9)
  have gb_9 := Lib.hid (gb_8.out.below b9)
  have gm_9 := Lib.hid (gm_8.out.below b9)
  have gn_9 := Lib.hid (gn_8.out.below b9)
  clear fa_8 fm_8 fp_8 fo_8 ga_8 gb_8 gm_8 gn_8
  have hb9 := hb8.trans (b9.mono hb8.size)
  clear hk  hb8 b9
  have q1 := HQ.out
  go_wp2_with fail
  go_ret
  exact ⟨rfl, hb9⟩
theorem recks_nil1 (v v2 : Value) (xs ys : List (BitVec 64)) (w : World) (h : SlK w v xs) (h2 : SlK w v2 ys) (hT : Tab w) (h6 : xs.length ≤ 6) (h7 : ys.length ≤ 6) (h8 : 0 < xs.length) (h9 : ys.length = 0) :
    Calls Tryd.prog 5 #[v, v2] w fun e w' => e = .returned (.bool true) ∧ Below w.heap.size w w' := by
  obtain ⟨ao, cap, rfl⟩ := slV_len h.1
  obtain ⟨ao2, cap2, rfl⟩ := slV_len h2.1
  rw [vals_length] at h h2
  rw [vals_length, vals_length]
  have hTp := hT.1
  have HT := Lib.hid hT
  have h6' := decide_eq_true h6
  have h7' := decide_eq_true h7
  have HA := Lib.hid h
  have HM := Lib.hid h2
  have hA := nv_lt xs
  have hM := nv_lt ys
  obtain ⟨A, hAe⟩ : ∃ A, nv xs = A := ⟨_, rfl⟩
  obtain ⟨M, hMe⟩ : ∃ M, nv ys = M := ⟨_, rfl⟩
  rw [hAe] at hA
  rw [hMe] at hM
  have hsA := sz_le.2 hA
  have hsM := sz_le.2 hM
  have hxl : sz (A ^^^ M) ≤ 64 * 6 := sz_xor_le A M (64 * 6) (by omega) (by omega)
  have hcl : sz (clm A M) ≤ 64 * 12 := by
    by_cases h1 : A = 0
    · rw [h1, clm_zero, sz_zero]; omega
    · by_cases h2 : M = 0
      · rw [h2, clm_r0, sz_zero]; omega
      · have := sz_clm h1 h2; omega
  have hlx : (cw (A ^^^ M)).length ≤ 12 := cw_len_lt (by omega)
  have hlc : (cw (clm A M)).length ≤ 12 := cw_len_lt (by omega)
  have hxor : A ^^^ M < 2 ^ max (64 * xs.length) (64 * ys.length) := by
    refine Nat.xor_lt_two_pow ?_ ?_
    · exact Nat.lt_of_lt_of_le hA (Nat.pow_le_pow_right (by decide) (by omega))
    · exact Nat.lt_of_lt_of_le hM (Nat.pow_le_pow_right (by decide) (by omega))
  have HE := Lib.hid (And.intro hAe hMe)
  have HLT := Lib.hid (And.intro hA (And.intro hM hxor))
  have q0 : ((xs.length : Int) == 0) = false := beq_eq_false_iff_ne.2 (by omega)
  have HQ := Lib.hid (show (ys.length : Int) = 0 by omega)
  clear h h2 hT hA hM hAe hMe hsA hsM hxl hcl hxor
  clear h8 h9
  go_enter Tryd.func5, Tryd.ntmps5
  go_wp2_with fail
  have hk := awake06 w HT.out
  refine hk.mono ?_
  rintro e_ w1 ⟨rfl, b1⟩
  have fa_1 := Lib.hid (HA.out.below b1)
  have fm_1 := Lib.hid (HM.out.below b1)
  clear HA HM
  have hb1 := b1
  clear hk  b1
  go_wp2_with fail
  have hk := short_any _ xs _ fa_1.out (by omega)
  rw [h6'] at hk
  refine hk.mono ?_
  rintro e_ w' ⟨rfl, rfl⟩
  clear hk
  go_wp2_with fail
  have hk := short_any _ ys _ fm_1.out (by omega)
  rw [h7'] at hk
  refine hk.mono ?_
  rintro e_ w' ⟨rfl, rfl⟩
  clear hk
  go_wp2_with fail
  have hk := of_any _ xs _ fa_1.out (by omega)
  rw [HE.out.1] at hk
  refine hk.mono ?_
  rintro e_ w2 ⟨v3, rfl, s3, b2⟩
  have fa_2 := Lib.hid (fa_1.out.below b2)
  have fm_2 := Lib.hid (fm_1.out.below b2)
  clear fa_1 fm_1
  have fp_2 := Lib.hid s3
  have hb2 := hb1.trans (b2.mono hb1.size)
  clear hk s3 hb1 b2
  go_wp2_with fail
  have hk := of_any _ ys _ fm_2.out (by omega)
  rw [HE.out.2] at hk
  refine hk.mono ?_
  rintro e_ w3 ⟨v4, rfl, s4, b3⟩
  have fa_3 := Lib.hid (fa_2.out.below b3)
  have fm_3 := Lib.hid (fm_2.out.below b3)
  have fp_3 := Lib.hid (fp_2.out.below b3)
  clear fa_2 fm_2 fp_2
  have fo_3 := Lib.hid s4
  have hb3 := hb2.trans (b3.mono hb2.size)
  clear hk s4 hb2 b3
  go_wp2_with fail
  have hk := add_any _ _ xs ys _ fa_3.out fm_3.out (by omega) (by omega)
  rw [HE.out.1, HE.out.2] at hk
  refine hk.mono ?_
  rintro e_ w4 ⟨v5, rfl, s5, b4⟩
  have fa_4 := Lib.hid (fa_3.out.below b4)
  have fm_4 := Lib.hid (fm_3.out.below b4)
  have fp_4 := Lib.hid (fp_3.out.below b4)
  have fo_4 := Lib.hid (fo_3.out.below b4)
  clear fa_3 fm_3 fp_3 fo_3
  have ga_4 := Lib.hid s5
  have hb4 := hb3.trans (b4.mono hb3.size)
  clear hk s5 hb3 b4
  go_wp2_with fail
  have hk := radd_any v3 v4 A (64 * xs.length) M (64 * ys.length) _ fp_4.out fo_4.out (by omega) (by omega) HLT.out.1 HLT.out.2.1
  refine hk.mono ?_
  rintro e_ w5 ⟨v6, rfl, s6, b5⟩
  have fa_5 := Lib.hid (fa_4.out.below b5)
  have fm_5 := Lib.hid (fm_4.out.below b5)
  have fp_5 := Lib.hid (fp_4.out.below b5)
  have fo_5 := Lib.hid (fo_4.out.below b5)
  have ga_5 := Lib.hid (ga_4.out.below b5)
  clear fa_4 fm_4 fp_4 fo_4 ga_4
  have gb_5 := Lib.hid s6
  have hb5 := hb4.trans (b5.mono hb4.size)
  clear hk s6 hb4 b5
  go_wp2_with fail
  have hk := words06 v5 v6 (cw (A ^^^ M)) (A ^^^ M) (max (64 * xs.length) (64 * ys.length)) _ ga_5.out gb_5.out (by omega) (by omega) HLT.out.2.2
  rw [decide_eq_true rfl] at hk
  refine hk.mono ?_
  rintro e_ w6 ⟨rfl, b6⟩
  have fa_6 := Lib.hid (fa_5.out.below b6)
  have fm_6 := Lib.hid (fm_5.out.below b6)
  have fp_6 := Lib.hid (fp_5.out.below b6)
  have fo_6 := Lib.hid (fo_5.out.below b6)
  have ga_6 := Lib.hid (ga_5.out.below b6)
  have gb_6 := Lib.hid (gb_5.out.below b6)
  clear fa_5 fm_5 fp_5 fo_5 ga_5 gb_5
  have hb6 := hb5.trans (b6.mono hb5.size)
  clear hk  hb5 b6
  go_wp2_with fail
  have hk := mul_any _ _ xs ys _ fa_6.out fm_6.out (by omega) (by omega) (HT.out.belowN hb6 hTp)
  rw [HE.out.1, HE.out.2] at hk
  refine hk.mono ?_
  rintro e_ w7 ⟨v7, rfl, s7, b7⟩
  have fa_7 := Lib.hid (fa_6.out.below b7)
  have fm_7 := Lib.hid (fm_6.out.below b7)
  have fp_7 := Lib.hid (fp_6.out.below b7)
  have fo_7 := Lib.hid (fo_6.out.below b7)
  have ga_7 := Lib.hid (ga_6.out.below b7)
  have gb_7 := Lib.hid (gb_6.out.below b7)
  clear fa_6 fm_6 fp_6 fo_6 ga_6 gb_6
  have gm_7 := Lib.hid s7
  have hb7 := hb6.trans (b7.mono hb6.size)
  clear hk s7 hb6 b7
  go_wp2_with fail
  have hk := rmul_any v3 v4 A (64 * xs.length) M (64 * ys.length) _ fp_7.out fo_7.out (by omega) (by omega) HLT.out.1 HLT.out.2.1
  refine hk.mono ?_
  rintro e_ w8 ⟨v8, l8, rfl, s8, k8, m8, b8⟩
  have K8 := Lib.hid k8
  clear k8
  have fa_8 := Lib.hid (fa_7.out.below b8)
  have fm_8 := Lib.hid (fm_7.out.below b8)
  have fp_8 := Lib.hid (fp_7.out.below b8)
  have fo_8 := Lib.hid (fo_7.out.below b8)
  have ga_8 := Lib.hid (ga_7.out.below b8)
  have gb_8 := Lib.hid (gb_7.out.below b8)
  have gm_8 := Lib.hid (gm_7.out.below b8)
  clear fa_7 fm_7 fp_7 fo_7 ga_7 gb_7 gm_7
  have gn_8 := Lib.hid s8
  have hb8 := hb7.trans (b8.mono hb7.size)
  clear hk s8 hb7 b8
  go_wp2_with fail
  have hk := words06 v7 v8 (cw (clm A M)) (clm A M) l8 _ gm_8.out gn_8.out (by omega) (by omega) K8.out
  rw [decide_eq_true rfl] at hk
  refine hk.mono ?_
  rintro e_ w9 ⟨rfl, b9⟩
  have fa_9 := Lib.hid (fa_8.out.below b9)
  have fm_9 := Lib.hid (fm_8.out.below b9)
  have fp_9 := Lib.hid (fp_8.out.below b9)
  have fo_9 := Lib.hid (fo_8.out.below b9)
  have ga_9 := Lib.hid (ga_8.out.below b9)
  have gb_9 := Lib.hid (gb_8.out.below b9)
  have gm_9 := Lib.hid (gm_8.out.below b9)
  have gn_9 := Lib.hid (gn_8.out.below b9)
  clear fa_8 fm_8 fp_8 fo_8 ga_8 gb_8 gm_8 gn_8
  have hb9 := hb8.trans (b9.mono hb8.size)
  clear hk  hb8 b9
  have q1 := HQ.out
  go_wp2_with fail
  go_ret
  exact ⟨rfl, hb9⟩
set_option maxHeartbeats 2000000 in
theorem recks_pos (v v2 : Value) (xs ys : List (BitVec 64)) (w : World) (h : SlK w v xs) (h2 : SlK w v2 ys) (hT : Tab w) (h6 : xs.length ≤ 6) (h7 : ys.length ≤ 6) (h8 : 0 < xs.length) (h9 : 0 < ys.length) :
    Calls Tryd.prog 5 #[v, v2] w fun e w' => e = .returned (.bool true) ∧ Below w.heap.size w w' := by
  rcases h.cases with ⟨rfl, _⟩ | ⟨_, b, o, cap, rfl, hcap, _⟩
  · simp at h8
  rcases h2.cases with ⟨rfl, _⟩ | ⟨_, b2, o2, cap2, rfl, hcap2, _⟩
  · simp at h9
  have hTp := hT.1
  have HT := Lib.hid hT
  have h6' := decide_eq_true h6
  have h7' := decide_eq_true h7
  have HA := Lib.hid h
  have HM := Lib.hid h2
  have hA := nv_lt xs
  have hM := nv_lt ys
  obtain ⟨A, hAe⟩ : ∃ A, nv xs = A := ⟨_, rfl⟩
  obtain ⟨M, hMe⟩ : ∃ M, nv ys = M := ⟨_, rfl⟩
  rw [hAe] at hA
  rw [hMe] at hM
  have hsA := sz_le.2 hA
  have hsM := sz_le.2 hM
  have hxl : sz (A ^^^ M) ≤ 64 * 6 := sz_xor_le A M (64 * 6) (by omega) (by omega)
  have hcl : sz (clm A M) ≤ 64 * 12 := by
    by_cases h1 : A = 0
    · rw [h1, clm_zero, sz_zero]; omega
    · by_cases h2 : M = 0
      · rw [h2, clm_r0, sz_zero]; omega
      · have := sz_clm h1 h2; omega
  have hlx : (cw (A ^^^ M)).length ≤ 12 := cw_len_lt (by omega)
  have hlc : (cw (clm A M)).length ≤ 12 := cw_len_lt (by omega)
  have hxor : A ^^^ M < 2 ^ max (64 * xs.length) (64 * ys.length) := by
    refine Nat.xor_lt_two_pow ?_ ?_
    · exact Nat.lt_of_lt_of_le hA (Nat.pow_le_pow_right (by decide) (by omega))
    · exact Nat.lt_of_lt_of_le hM (Nat.pow_le_pow_right (by decide) (by omega))
  have HE := Lib.hid (And.intro hAe hMe)
  have HLT := Lib.hid (And.intro hA (And.intro hM hxor))
  have q0 : ((xs.length : Int) == 0) = false := beq_eq_false_iff_ne.2 (by omega)
  have q1 : ((ys.length : Int) == 0) = false := beq_eq_false_iff_ne.2 (by omega)
  have q2 : (0 : Int) < (xs.length : Int) := by omega
  have q3 : (0 : Int) < (ys.length : Int) := by omega
  obtain ⟨x, hx⟩ : ∃ x, xs[0] = x := ⟨_, rfl⟩
  obtain ⟨y, hy⟩ : ∃ y, ys[0] = y := ⟨_, rfl⟩
  have HXY := Lib.hid (And.intro hx hy)
  have H89 := Lib.hid (And.intro h8 h9)
  clear h h2 hT hA hM hAe hMe hsA hsM hxl hcl hxor
  clear hx hy h8 h9 hcap hcap2
  go_enter Tryd.func5, Tryd.ntmps5
  go_wp2_with fail
  have hk := awake06 w HT.out
  refine hk.mono ?_
  rintro e_ w1 ⟨rfl, b1⟩
  have fa_1 := Lib.hid (HA.out.below b1)
  have fm_1 := Lib.hid (HM.out.below b1)
  clear HA HM
  have hb1 := b1
  clear hk  b1
  go_wp2_with fail
  have hk := short_any _ xs _ fa_1.out (by omega)
  rw [h6'] at hk
  refine hk.mono ?_
  rintro e_ w' ⟨rfl, rfl⟩
  clear hk
  go_wp2_with fail
  have hk := short_any _ ys _ fm_1.out (by omega)
  rw [h7'] at hk
  refine hk.mono ?_
  rintro e_ w' ⟨rfl, rfl⟩
  clear hk
  go_wp2_with fail
  have hk := of_any _ xs _ fa_1.out (by omega)
  rw [HE.out.1] at hk
  refine hk.mono ?_
  rintro e_ w2 ⟨v3, rfl, s3, b2⟩
  have fa_2 := Lib.hid (fa_1.out.below b2)
  have fm_2 := Lib.hid (fm_1.out.below b2)
  clear fa_1 fm_1
  have fp_2 := Lib.hid s3
  have hb2 := hb1.trans (b2.mono hb1.size)
  clear hk s3 hb1 b2
  go_wp2_with fail
  have hk := of_any _ ys _ fm_2.out (by omega)
  rw [HE.out.2] at hk
  refine hk.mono ?_
  rintro e_ w3 ⟨v4, rfl, s4, b3⟩
  have fa_3 := Lib.hid (fa_2.out.below b3)
  have fm_3 := Lib.hid (fm_2.out.below b3)
  have fp_3 := Lib.hid (fp_2.out.below b3)
  clear fa_2 fm_2 fp_2
  have fo_3 := Lib.hid s4
  have hb3 := hb2.trans (b3.mono hb2.size)
  clear hk s4 hb2 b3
  go_wp2_with fail
  have hk := add_any _ _ xs ys _ fa_3.out fm_3.out (by omega) (by omega)
  rw [HE.out.1, HE.out.2] at hk
  refine hk.mono ?_
  rintro e_ w4 ⟨v5, rfl, s5, b4⟩
  have fa_4 := Lib.hid (fa_3.out.below b4)
  have fm_4 := Lib.hid (fm_3.out.below b4)
  have fp_4 := Lib.hid (fp_3.out.below b4)
  have fo_4 := Lib.hid (fo_3.out.below b4)
  clear fa_3 fm_3 fp_3 fo_3
  have ga_4 := Lib.hid s5
  have hb4 := hb3.trans (b4.mono hb3.size)
  clear hk s5 hb3 b4
  go_wp2_with fail
  have hk := radd_any v3 v4 A (64 * xs.length) M (64 * ys.length) _ fp_4.out fo_4.out (by omega) (by omega) HLT.out.1 HLT.out.2.1
  refine hk.mono ?_
  rintro e_ w5 ⟨v6, rfl, s6, b5⟩
  have fa_5 := Lib.hid (fa_4.out.below b5)
  have fm_5 := Lib.hid (fm_4.out.below b5)
  have fp_5 := Lib.hid (fp_4.out.below b5)
  have fo_5 := Lib.hid (fo_4.out.below b5)
  have ga_5 := Lib.hid (ga_4.out.below b5)
  clear fa_4 fm_4 fp_4 fo_4 ga_4
  have gb_5 := Lib.hid s6
  have hb5 := hb4.trans (b5.mono hb4.size)
  clear hk s6 hb4 b5
  go_wp2_with fail
  have hk := words06 v5 v6 (cw (A ^^^ M)) (A ^^^ M) (max (64 * xs.length) (64 * ys.length)) _ ga_5.out gb_5.out (by omega) (by omega) HLT.out.2.2
  rw [decide_eq_true rfl] at hk
  refine hk.mono ?_
  rintro e_ w6 ⟨rfl, b6⟩
  have fa_6 := Lib.hid (fa_5.out.below b6)
  have fm_6 := Lib.hid (fm_5.out.below b6)
  have fp_6 := Lib.hid (fp_5.out.below b6)
  have fo_6 := Lib.hid (fo_5.out.below b6)
  have ga_6 := Lib.hid (ga_5.out.below b6)
  have gb_6 := Lib.hid (gb_5.out.below b6)
  clear fa_5 fm_5 fp_5 fo_5 ga_5 gb_5
  have hb6 := hb5.trans (b6.mono hb5.size)
  clear hk  hb5 b6
  go_wp2_with fail
  have hk := mul_any _ _ xs ys _ fa_6.out fm_6.out (by omega) (by omega) (HT.out.belowN hb6 hTp)
  rw [HE.out.1, HE.out.2] at hk
  refine hk.mono ?_
  rintro e_ w7 ⟨v7, rfl, s7, b7⟩
  have fa_7 := Lib.hid (fa_6.out.below b7)
  have fm_7 := Lib.hid (fm_6.out.below b7)
  have fp_7 := Lib.hid (fp_6.out.below b7)
  have fo_7 := Lib.hid (fo_6.out.below b7)
  have ga_7 := Lib.hid (ga_6.out.below b7)
  have gb_7 := Lib.hid (gb_6.out.below b7)
  clear fa_6 fm_6 fp_6 fo_6 ga_6 gb_6
  have gm_7 := Lib.hid s7
  have hb7 := hb6.trans (b7.mono hb6.size)
  clear hk s7 hb6 b7
  go_wp2_with fail
  have hk := rmul_any v3 v4 A (64 * xs.length) M (64 * ys.length) _ fp_7.out fo_7.out (by omega) (by omega) HLT.out.1 HLT.out.2.1
  refine hk.mono ?_
  rintro e_ w8 ⟨v8, l8, rfl, s8, k8, m8, b8⟩
  have K8 := Lib.hid k8
  clear k8
  have fa_8 := Lib.hid (fa_7.out.below b8)
  have fm_8 := Lib.hid (fm_7.out.below b8)
  have fp_8 := Lib.hid (fp_7.out.below b8)
  have fo_8 := Lib.hid (fo_7.out.below b8)
  have ga_8 := Lib.hid (ga_7.out.below b8)
  have gb_8 := Lib.hid (gb_7.out.below b8)
  have gm_8 := Lib.hid (gm_7.out.below b8)
  clear fa_7 fm_7 fp_7 fo_7 ga_7 gb_7 gm_7
  have gn_8 := Lib.hid s8
  have hb8 := hb7.trans (b8.mono hb7.size)
  clear hk s8 hb7 b8
  go_wp2_with fail
  have hk := words06 v7 v8 (cw (clm A M)) (clm A M) l8 _ gm_8.out gn_8.out (by omega) (by omega) K8.out
  rw [decide_eq_true rfl] at hk
  refine hk.mono ?_
  rintro e_ w9 ⟨rfl, b9⟩
  have fa_9 := Lib.hid (fa_8.out.below b9)
  have fm_9 := Lib.hid (fm_8.out.below b9)
  have fp_9 := Lib.hid (fp_8.out.below b9)
  have fo_9 := Lib.hid (fo_8.out.below b9)
  have ga_9 := Lib.hid (ga_8.out.below b9)
  have gb_9 := Lib.hid (gb_8.out.below b9)
  have gm_9 := Lib.hid (gm_8.out.below b9)
  have gn_9 := Lib.hid (gn_8.out.below b9)
  clear fa_8 fm_8 fp_8 fo_8 ga_8 gb_8 gm_8 gn_8
  have hb9 := hb8.trans (b9.mono hb8.size)
  clear hk  hb8 b9
  have c0 := slk_cell0 fa_9.out H89.out.1
  have c1 := slk_cell0 fm_9.out H89.out.2
  rw [HXY.out.1] at c0
  rw [HXY.out.2] at c1
  have l0 : b < w9.heap.size := World.block_lt_of_cell? w9 _ c0
  have l1 : b2 < w9.heap.size := World.block_lt_of_cell? w9 _ c1
  have l2 : b ≠ w9.heap.size := by omega
  have l3 : b2 ≠ w9.heap.size := by omega
  obtain ⟨b3, o3, cp3, rfl, u3, d3⟩ := BL.cut0 fp_9.out HE.out.1 H89.out.1
  obtain ⟨b4, o4, cp4, rfl, u4, d4⟩ := BL.cut0 fo_9.out HE.out.2 H89.out.2
  rw [HXY.out.1] at d3
  rw [HXY.out.2] at d4
  have HD := Lib.hid (And.intro d3 d4)
  have ht := HT.out.belowN hb9 hTp
  have HT1 := Lib.hid (And.intro (Tab.drw ht) (Tab.drw (ht.alloc (.cells #[.int .u64 0, .int .u64 0] 39))))
  have hb9B := Lib.hid hb9
  have HP0 := Lib.hid (Blk.new w9 39 #[.int .u64 0, .int .u64 0])
  clear d3 d4 hb9 ht
  go_wp2_with fail
  go_cut [7] (fun s7 wx => ∃ g, s7 = .pointer (some ⟨g, 0, none⟩) ∧ Below w9.heap.size w9 wx ∧ Blk wx g 39 #[.int .u64 (ui (clHi x y)), .int .u64 (ui (clLo x y))])
  case first =>
    go_region_with (first
      | (go_at_call 22; first | (refine (clmul_any x y _ HT1.out.1).mono ?_; rintro e_ w20 ⟨rfl, b20⟩; have hb920 := Lib.hid b20; clear b20) | (refine (clmul_any x y _ HT1.out.2).mono ?_; rintro e_ w20 ⟨rfl, b20⟩; obtain ⟨p0, p1⟩ := u128_cells (HP0.out.drew.belowS b20); have f0 := (HP0.out.drew.belowS b20).frozen 0; have f1 := (HP0.out.drew.belowS b20).frozen 1; have hb920 := Lib.hid b20; clear b20)))
    all_goals go_step
    all_goals (rename_i hJ hK; refine hK _ _ (Met.intro (hJ _ _ ?_)); (repeat apply Exists.intro); refine ⟨?_, rfl⟩)
    all_goals first | exact ⟨_, rfl, box_a hb920.out⟩ | exact ⟨_, rfl, box_b HP0.out hb920.out⟩
  case rest =>
    obtain ⟨g, rfl, bx, px⟩ := hcut
    have hbc := hb9B.out.trans (bx.mono hb9B.out.size)
    have hlb := below_new wc (.cells #[.int .u64 (ui (clLo x y)), .int .u64 (ui (clHi x y))] 37)
    have HD2 := Lib.hid (And.intro ((HD.out.1.below bx).below hlb) ((HD.out.2.below bx).below hlb))
    obtain ⟨p0, p1⟩ := u128_cells px
    have htr := trim_any _ [clLo x y, clHi x y] _ (SlK.drw (lit2_slk wc (clLo x y) (clHi x y))) (by simp)
    rw [nv_two] at htr
    have HTR := Lib.hid htr
    have hbd := (hbc.trans (hlb.mono hbc.size)).drew
    have hlq : (cw (clm x.toNat y.toNat)).length ≤ 2 := cw_len_lt ((sz_le.2 (clm_lt x y)))
    clear bx px HD HP0 HT1 c0 c1 l0 l1 l2 l3 htr hbc hlb
    go_wp2_with fail
    go_region_with (first
      | (go_at_call 15; refine HTR.out.mono ?_; rintro e_ w21 ⟨v21, rfl, s21, _, b21⟩; have H21 := Lib.hid (And.intro s21 (And.intro ((BL.drw HD2.out.1).below b21) ((BL.drw HD2.out.2).below b21))); have hb21 := hbd.trans (b21.mono hbd.size); clear s21 b21 hbd HD2 HTR)
      | (go_at_call 21; refine (rmul_any _ _ x.toNat 64 y.toNat 64 _ H21.out.2.1 H21.out.2.2 (by decide) (by decide) x.isLt y.isLt).mono ?_; rintro e_ w22 ⟨v22, n22, rfl, s22, k22, m22, b22⟩; have H22 := Lib.hid (And.intro (H21.out.1.below b22) (And.intro s22 (And.intro k22 m22))); have hb22 := hb21.trans (b22.mono hb21.size); clear s22 k22 m22 b22 hb21 H21)
      | (go_at_call 14; have hk := words06 v21 v22 (cw (clm x.toNat y.toNat)) (clm x.toNat y.toNat) n22 _ H22.out.1 H22.out.2.1 (by omega) (by have := H22.out.2.2.2; omega) H22.out.2.2.1; rw [decide_eq_true rfl] at hk; refine hk.mono ?_; rintro e_ w23 ⟨rfl, b23⟩; have hb23 := hb22.trans (b23.mono hb22.size); clear hk b23 hb22 H22))
    all_goals go_wp2_with fail
    all_goals go_ret
    all_goals exact ⟨rfl, hb23⟩
theorem recks_law (v : Value) (xs : List (BitVec 64)) (v2 : Value) (ys : List (BitVec 64)) (w : World) (hx : SlV w v (vals xs)) (hl : xs.length ≤ 9223372036854775807) (hc : CapOk v) (hx2 : SlV w v2 (vals ys)) (hl2 : ys.length ≤ 9223372036854775807) (hc2 : CapOk v2) (hT : Tab w) :
    Calls Tryd.prog 5 #[v, v2] w fun e w' => e = .returned (.bool true) ∧ Below w.heap.size w w' := by
  by_cases h6 : xs.length ≤ 6
  · by_cases h7 : ys.length ≤ 6
    · rcases Nat.eq_zero_or_pos xs.length with h8 | h8
      · exact recks_nil0 v v2 xs ys w ⟨hx, hc⟩ ⟨hx2, hc2⟩ hT h6 h7 h8
      · rcases Nat.eq_zero_or_pos ys.length with h9 | h9
        · exact recks_nil1 v v2 xs ys w ⟨hx, hc⟩ ⟨hx2, hc2⟩ hT h6 h7 h8 h9
        · exact recks_pos v v2 xs ys w ⟨hx, hc⟩ ⟨hx2, hc2⟩ hT h6 h7 h8 h9
    · exact recks_longb v v2 xs ys w ⟨hx, hc⟩ ⟨hx2, hc2⟩ hl hl2 hT h6 h7
  · exact recks_longa v v2 xs ys w ⟨hx, hc⟩ ⟨hx2, hc2⟩ hl hT h6
end Go.Proofs.YthiahpkodnfdcaaDoor
