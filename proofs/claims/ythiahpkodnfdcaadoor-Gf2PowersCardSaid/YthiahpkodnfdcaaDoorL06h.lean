/- The walk of chapter 6's law of powers. For every input. No condition but the table of trailing zeros. -/
import Derived.Test.YthiahpkodnfdcaaDoorL06g
namespace Go.Proofs.YthiahpkodnfdcaaDoor
open Go.RowKit
/-- a number of four words in its variable -/
def B4 (w : World) (g : Nat) (s : S4) : Prop := Blk w g 45 #[.int .u64 (ui s.a), .int .u64 (ui s.b), .int .u64 (ui s.c), .int .u64 (ui s.d)]
theorem B4.below {w w' : World} {g : Nat} {s : S4} (h : B4 w g s) (hb : Below w.heap.size w w') : B4 w' g s := Blk.belowS h hb
theorem B4.new (w : World) (s : S4) : B4 (w.alloc (c4 s)) w.heap.size s := Blk.new _ _ _
theorem of4_nat (m : Nat) (hm : m ≤ 150) (w : World) : Calls Tryd.prog 29 #[.int .u64 (m : Int)] w fun e w' => ∃ q, e = .returned (u4 q) ∧ nv (ls q) = m ∧ Below w.heap.size w w' := by
  have hk := of4_any (BitVec.ofNat 64 m) w
  have hu : (BitVec.ofNat 64 m).toNat = m := by rw [BitVec.toNat_ofNat]; exact Nat.mod_eq_of_lt (by omega)
  have hn : nv (ls ⟨BitVec.ofNat 64 m, 0#64, 0#64, 0#64⟩) = m := by
    unfold ls nv nv nv nv nv
    rw [hu]
    rfl
  rw [show (Value.int .u64 (m : Int)) = .int .u64 (ui (BitVec.ofNat 64 m)) by rw [ui_toNat, hu]]
  refine hk.mono ?_
  rintro e w' ⟨rfl, hb⟩
  exact ⟨_, rfl, hn, hb⟩
theorem one_bl6 (w : World) : BL (w.alloc (.cells #[.bool true] 4)) (.slice (some ⟨w.heap.size, 0, none⟩) 1 1) 1 1 := one_bl w
theorem boxes (w : World) (s t : S4) : Below w.heap.size w ((w.alloc (c4 s)).alloc (c4 t)) := ((Below.refl _ _).alloc (Nat.le_refl _) _).alloc (by rw [size_alloc]; omega) _
theorem powers_long (v : Value) (ms : List (BitVec 64)) (s t : S4) (n : Int) (w : World) (h : SlK w v ms) (hT : Tab w) (h3 : 3 < ms.length) :
    Calls Tryd.prog 7 #[v, u4 s, u4 t, .int .i64 n] w fun e w' => e = .returned (.bool true) ∧ Below w.heap.size w w' := by
  obtain ⟨ao, cap, rfl⟩ := slV_len h.1
  rw [vals_length] at h
  rw [vals_length]
  have hTp := hT.1
  have hbb := boxes w s t
  have HT := Lib.hid hT
  have HM := Lib.hid (h.below hbb)
  have H5 := Lib.hid ((B4.new w s).below (below_new _ (c4 t)))
  have H6 := Lib.hid (show B4 ((w.alloc (c4 s)).alloc (c4 t)) (w.heap.size + 1) t by have := B4.new (w.alloc (c4 s)) t; rw [size_alloc] at this; exact this)
  have q0 : (3 : Int) < (ms.length : Int) := by omega
  clear h hT
  go_enter Tryd.func7, Tryd.ntmps7
  go_wp2_with fail
  have hk := awake06 _ (HT.out.belowN hbb hTp)
  refine hk.mono ?_
  rintro e_ w1 ⟨rfl, b1⟩
  have fm_1 := Lib.hid (HM.out.below b1)
  have b5_1 := Lib.hid (H5.out.below b1)
  have b6_1 := Lib.hid (H6.out.below b1)
  clear HM H5 H6
  have hb1 := hbb.trans (b1.mono hbb.size)
  clear hk  hbb b1
  go_wp2_with fail
  go_ret
  exact ⟨rfl, hb1⟩
theorem powers_zero (v : Value) (ms : List (BitVec 64)) (s t : S4) (n : Int) (w : World) (h : SlK w v ms) (hT : Tab w) (h3 : ms.length ≤ 3) (hz : nv ms = 0) :
    Calls Tryd.prog 7 #[v, u4 s, u4 t, .int .i64 n] w fun e w' => e = .returned (.bool true) ∧ Below w.heap.size w w' := by
  obtain ⟨ao, cap, rfl⟩ := slV_len h.1
  rw [vals_length] at h
  rw [vals_length]
  have hTp := hT.1
  have hbb := boxes w s t
  have HT := Lib.hid hT
  have HM := Lib.hid (h.below hbb)
  have H5 := Lib.hid ((B4.new w s).below (below_new _ (c4 t)))
  have H6 := Lib.hid (show B4 ((w.alloc (c4 s)).alloc (c4 t)) (w.heap.size + 1) t by have := B4.new (w.alloc (c4 s)) t; rw [size_alloc] at this; exact this)
  have q0 : ¬ (3 : Int) < (ms.length : Int) := by omega
  have HZ := Lib.hid hz
  clear h hT hz
  go_enter Tryd.func7, Tryd.ntmps7
  go_wp2_with fail
  have hk := awake06 _ (HT.out.belowN hbb hTp)
  refine hk.mono ?_
  rintro e_ w1 ⟨rfl, b1⟩
  have fm_1 := Lib.hid (HM.out.below b1)
  have b5_1 := Lib.hid (H5.out.below b1)
  have b6_1 := Lib.hid (H6.out.below b1)
  clear HM H5 H6
  have hb1 := hbb.trans (b1.mono hbb.size)
  clear hk  hbb b1
  obtain ⟨d0, d1, d2, d3⟩ := u4_cells b5_1.out
  go_wp2_with fail
  have hk := powx_zero s _ ms _ fm_1.out (by omega) HZ.out
  refine hk.mono ?_
  rintro e_ w2 ⟨rfl, b2⟩
  clear d0 d1 d2 d3
  have fm_2 := Lib.hid (fm_1.out.below b2)
  have b5_2 := Lib.hid (b5_1.out.below b2)
  have b6_2 := Lib.hid (b6_1.out.below b2)
  clear fm_1 b5_1 b6_1
  have hb2 := hb1.trans (b2.mono hb1.size)
  clear hk  hb1 b2
  go_wp2_with fail
  have hk := of_any _ ms _ fm_2.out (by omega)
  refine hk.mono ?_
  rintro e_ w3 ⟨v5, rfl, s5, b3⟩
  have fm_3 := Lib.hid (fm_2.out.below b3)
  have b5_3 := Lib.hid (b5_2.out.below b3)
  have b6_3 := Lib.hid (b6_2.out.below b3)
  clear fm_2 b5_2 b6_2
  have fo_3 := Lib.hid s5
  have hb3 := hb2.trans (b3.mono hb2.size)
  clear hk s5 hb2 b3
  go_wp2_with fail
  have hk := rdeg_any _ (nv ms) (64 * ms.length) _ fo_3.out (by omega) (nv_lt ms)
  rw [HZ.out, sz_zero] at hk
  refine hk.mono ?_
  rintro e_ w' ⟨rfl, rfl⟩
  clear hk
  go_wp2_with fail
  go_ret
  exact ⟨rfl, hb3⟩
set_option maxRecDepth 100000 in
set_option maxHeartbeats 1000000 in
theorem powers_lo (v : Value) (ms : List (BitVec 64)) (s t : S4) (n : Int) (w : World) (h : SlK w v ms) (hT : Tab w) (hn : n < 0) (h3 : ms.length ≤ 3) (hz : nv ms ≠ 0) :
    Calls Tryd.prog 7 #[v, u4 s, u4 t, .int .i64 n] w fun e w' => e = .returned (.bool true) ∧ Below w.heap.size w w' := by
  obtain ⟨ao, cap, rfl⟩ := slV_len h.1
  rw [vals_length] at h
  rw [vals_length]
  have hTp := hT.1
  have hbb := boxes w s t
  have HT := Lib.hid hT
  have HM := Lib.hid (h.below hbb)
  have H5 := Lib.hid ((B4.new w s).below (below_new _ (c4 t)))
  have H6 := Lib.hid (show B4 ((w.alloc (c4 s)).alloc (c4 t)) (w.heap.size + 1) t by have := B4.new (w.alloc (c4 s)) t; rw [size_alloc] at this; exact this)
  have q0 : ¬ (3 : Int) < (ms.length : Int) := by omega
  have hMl := nv_lt ms
  have hsum := fun c d => pow_add_rem c d (nv ms) hz
  have hlen := fun n => rem_lt (2 ^ n) (nv ms) hz
  have hsM := (@sz_le (nv ms) (64 * ms.length)).2 hMl
  obtain ⟨M, hM⟩ : ∃ M, nv ms = M := ⟨_, rfl⟩
  obtain ⟨P, hP⟩ : ∃ P : Nat → Nat, ∀ n, drem (2 ^ n) (nv ms) = P n := ⟨_, fun _ => rfl⟩
  simp only [hP] at hsum hlen
  have hl : ∀ n, (cw (P n)).length ≤ 100 := fun n => by have := hlen n; exact cw_len_lt (by omega)
  have HL := Lib.hid hl
  obtain ⟨C, hC⟩ : ∃ C, nv (ls s) = C := ⟨_, rfl⟩
  obtain ⟨D, hD⟩ : ∃ D, nv (ls t) = D := ⟨_, rfl⟩
  have hx1 : drem (2 ^ nv (ls s)) (nv ms) = P C := by rw [hP, hC]
  have hx2 : drem (2 ^ nv (ls t)) (nv ms) = P D := by rw [hP, hD]
  obtain ⟨X1, e1⟩ : ∃ X1, P C = X1 := ⟨_, rfl⟩
  obtain ⟨X2, e2⟩ : ∃ X2, P D = X2 := ⟨_, rfl⟩
  have hs12 := hsum C D
  rw [e1, e2] at hs12
  rw [e1] at hx1
  rw [e2] at hx2
  have l1 := hl C
  have l2 := hl D
  rw [e1] at l1
  rw [e2] at l2
  have HCD := Lib.hid (And.intro hC hD)
  have HS12 := Lib.hid hs12
  have HX1 := Lib.hid hx1
  have HX2 := Lib.hid hx2
  have HP := Lib.hid hP
  have HME := Lib.hid hM
  have HZ := Lib.hid hz
  obtain ⟨sM, hsm⟩ : ∃ k, sz (nv ms) = k := ⟨_, rfl⟩
  have hsm1 : ¬ (sM : Int) - 1 < 0 := by have : sz (nv ms) ≠ 0 := fun e => hz (sz_eq_zero.1 e); omega
  have HS := Lib.hid hsm
  have m0 := hn
  clear h hT hz hMl hsum hlen hsM hM hP hl hC hD hx1 hx2 e1 e2 hs12 hsm
  go_enter Tryd.func7, Tryd.ntmps7
  go_wp2_with fail
  have hk := awake06 _ (HT.out.belowN hbb hTp)
  refine hk.mono ?_
  rintro e_ w1 ⟨rfl, b1⟩
  have fm_1 := Lib.hid (HM.out.below b1)
  have b5_1 := Lib.hid (H5.out.below b1)
  have b6_1 := Lib.hid (H6.out.below b1)
  clear HM H5 H6
  have hb1 := hbb.trans (b1.mono hbb.size)
  clear hk  hbb b1
  obtain ⟨d0, d1, d2, d3⟩ := u4_cells b5_1.out
  go_wp2_with fail
  have hk := powx_any s _ ms _ fm_1.out (by omega) HZ.out (HT.out.belowN hb1 hTp)
  rw [HX1.out] at hk
  refine hk.mono ?_
  rintro e_ w2 ⟨v3, rfl, s3, b2⟩
  clear d0 d1 d2 d3
  have fm_2 := Lib.hid (fm_1.out.below b2)
  have b5_2 := Lib.hid (b5_1.out.below b2)
  have b6_2 := Lib.hid (b6_1.out.below b2)
  clear fm_1 b5_1 b6_1
  have f3_2 := Lib.hid s3
  have hb2 := hb1.trans (b2.mono hb1.size)
  clear hk s3 hb1 b2
  go_wp2_with fail
  have hk := of_any _ ms _ fm_2.out (by omega)
  refine hk.mono ?_
  rintro e_ w3 ⟨v5, rfl, s5, b3⟩
  have fm_3 := Lib.hid (fm_2.out.below b3)
  have b5_3 := Lib.hid (b5_2.out.below b3)
  have b6_3 := Lib.hid (b6_2.out.below b3)
  have f3_3 := Lib.hid (f3_2.out.below b3)
  clear fm_2 b5_2 b6_2 f3_2
  have fo_3 := Lib.hid s5
  have hb3 := hb2.trans (b3.mono hb2.size)
  clear hk s5 hb2 b3
  go_wp2_with fail
  have hk := rdeg_any _ (nv ms) (64 * ms.length) _ fo_3.out (by omega) (nv_lt ms)
  rw [HS.out] at hk
  refine hk.mono ?_
  rintro e_ w' ⟨rfl, rfl⟩
  clear hk
  obtain ⟨d0, d1, d2, d3⟩ := u4_cells b6_3.out
  go_wp2_with fail
  have hk := powx_any t _ ms _ fm_3.out (by omega) HZ.out (HT.out.belowN hb3 hTp)
  rw [HX2.out] at hk
  refine hk.mono ?_
  rintro e_ w4 ⟨v4, rfl, s4, b4⟩
  clear d0 d1 d2 d3
  have fm_4 := Lib.hid (fm_3.out.below b4)
  have b5_4 := Lib.hid (b5_3.out.below b4)
  have b6_4 := Lib.hid (b6_3.out.below b4)
  have f3_4 := Lib.hid (f3_3.out.below b4)
  have fo_4 := Lib.hid (fo_3.out.below b4)
  clear fm_3 b5_3 b6_3 f3_3 fo_3
  have f4_4 := Lib.hid s4
  have hb4 := hb3.trans (b4.mono hb3.size)
  clear hk s4 hb3 b4
  obtain ⟨d0, d1, d2, d3⟩ := u4_cells b5_4.out
  obtain ⟨e0, e1, e2, e3⟩ := u4_cells b6_4.out
  go_wp2_with fail
  have hk := add4_any s t w4
  refine hk.mono ?_
  rintro e_ w5 ⟨⟨cc, q, had, rfl⟩, b5⟩
  clear d0 d1 d2 d3 e0 e1 e2 e3
  have hadd := had.sum
  rw [HCD.out.1, HCD.out.2] at hadd
  have hx3 := HP.out (nv (ls q))
  have l3 := HL.out (nv (ls q))
  obtain ⟨X3, e3⟩ : ∃ X3, P (nv (ls q)) = X3 := ⟨_, rfl⟩
  rw [e3] at hx3 l3
  have HX3 := Lib.hid hx3
  have HAD := Lib.hid (And.intro hadd e3)
  have hcc := had.bound
  clear hadd hx3 e3 had
  have fm_5 := Lib.hid (fm_4.out.below b5)
  have b5_5 := Lib.hid (b5_4.out.below b5)
  have b6_5 := Lib.hid (b6_4.out.below b5)
  have f3_5 := Lib.hid (f3_4.out.below b5)
  have fo_5 := Lib.hid (fo_4.out.below b5)
  have f4_5 := Lib.hid (f4_4.out.below b5)
  clear fm_4 b5_4 b6_4 f3_4 fo_4 f4_4
  have hb5 := hb4.trans (b5.mono hb4.size)
  clear hk  hb4 b5
  by_cases hov : cc = 1
  · subst hov
    have bnao := below_new w5 (c4 q)
    have fm_ao := Lib.hid (fm_5.out.below bnao)
    have b5_ao := Lib.hid (b5_5.out.below bnao)
    have b6_ao := Lib.hid (b6_5.out.below bnao)
    have f3_ao := Lib.hid (f3_5.out.below bnao)
    have fo_ao := Lib.hid (fo_5.out.below bnao)
    have f4_ao := Lib.hid (f4_5.out.below bnao)
    clear fm_5 b5_5 b6_5 f3_5 fo_5 f4_5
    have hb_ao := hb5.trans (bnao.mono hb5.size)
    have b7_ao := Lib.hid (B4.new w5 q)
    clear bnao hb5
    go_wp2_with fail
    have hk := mulmod_any v3 v4 _ (cw X1) (cw X2) ms _ f3_ao.out f4_ao.out fm_ao.out (by omega) (by omega) (by omega) HZ.out (HT.out.belowN hb_ao hTp)
    rw [nv_cw, nv_cw] at hk
    refine hk.mono ?_
    rintro e_ w6 ⟨v6, rfl, s6, b6⟩
    have fm_6 := Lib.hid (fm_ao.out.below b6)
    have b5_6 := Lib.hid (b5_ao.out.below b6)
    have b6_6 := Lib.hid (b6_ao.out.below b6)
    have f3_6 := Lib.hid (f3_ao.out.below b6)
    have fo_6 := Lib.hid (fo_ao.out.below b6)
    have f4_6 := Lib.hid (f4_ao.out.below b6)
    have b7_6 := Lib.hid (b7_ao.out.below b6)
    clear fm_ao b5_ao b6_ao f3_ao fo_ao f4_ao b7_ao
    have f6_6 := Lib.hid s6
    have hb6 := hb_ao.trans (b6.mono hb_ao.size)
    clear hk s6 hb_ao b6
    obtain ⟨d0, d1, d2, d3⟩ := u4_cells b7_6.out
    go_wp2_with fail
    have hk := powx_any q _ ms _ fm_6.out (by omega) HZ.out (HT.out.belowN hb6 hTp)
    rw [HX3.out] at hk
    refine hk.mono ?_
    rintro e_ w7 ⟨v7, rfl, s7, b7⟩
    clear d0 d1 d2 d3
    have fm_7 := Lib.hid (fm_6.out.below b7)
    have b5_7 := Lib.hid (b5_6.out.below b7)
    have b6_7 := Lib.hid (b6_6.out.below b7)
    have f3_7 := Lib.hid (f3_6.out.below b7)
    have fo_7 := Lib.hid (fo_6.out.below b7)
    have f4_7 := Lib.hid (f4_6.out.below b7)
    have b7_7 := Lib.hid (b7_6.out.below b7)
    have f6_7 := Lib.hid (f6_6.out.below b7)
    clear fm_6 b5_6 b6_6 f3_6 fo_6 f4_6 b7_6 f6_6
    have f7_7 := Lib.hid s7
    have hb7 := hb6.trans (b7.mono hb6.size)
    clear hk s7 hb6 b7
    go_wp2_with fail
    go_ret
    exact ⟨rfl, hb7⟩
  · have hc0 : cc = 0 := by omega
    subst hc0
    have hsm : drem (clm X1 X2) (nv ms) = X3 := by
      rw [HS12.out, ← HAD.out.2]
      congr 1
      have := HAD.out.1
      omega
    have HSM := Lib.hid hsm
    clear hov hsm
    have bnan := below_new w5 (c4 q)
    have fm_an := Lib.hid (fm_5.out.below bnan)
    have b5_an := Lib.hid (b5_5.out.below bnan)
    have b6_an := Lib.hid (b6_5.out.below bnan)
    have f3_an := Lib.hid (f3_5.out.below bnan)
    have fo_an := Lib.hid (fo_5.out.below bnan)
    have f4_an := Lib.hid (f4_5.out.below bnan)
    clear fm_5 b5_5 b6_5 f3_5 fo_5 f4_5
    have hb_an := hb5.trans (bnan.mono hb5.size)
    have b7_an := Lib.hid (B4.new w5 q)
    clear bnan hb5
    go_wp2_with fail
    have hk := mulmod_any v3 v4 _ (cw X1) (cw X2) ms _ f3_an.out f4_an.out fm_an.out (by omega) (by omega) (by omega) HZ.out (HT.out.belowN hb_an hTp)
    rw [nv_cw, nv_cw] at hk
    rw [HSM.out] at hk
    refine hk.mono ?_
    rintro e_ w6 ⟨v6, rfl, s6, b6⟩
    have fm_6 := Lib.hid (fm_an.out.below b6)
    have b5_6 := Lib.hid (b5_an.out.below b6)
    have b6_6 := Lib.hid (b6_an.out.below b6)
    have f3_6 := Lib.hid (f3_an.out.below b6)
    have fo_6 := Lib.hid (fo_an.out.below b6)
    have f4_6 := Lib.hid (f4_an.out.below b6)
    have b7_6 := Lib.hid (b7_an.out.below b6)
    clear fm_an b5_an b6_an f3_an fo_an f4_an b7_an
    have f6_6 := Lib.hid s6
    have hb6 := hb_an.trans (b6.mono hb_an.size)
    clear hk s6 hb_an b6
    obtain ⟨d0, d1, d2, d3⟩ := u4_cells b7_6.out
    go_wp2_with fail
    have hk := powx_any q _ ms _ fm_6.out (by omega) HZ.out (HT.out.belowN hb6 hTp)
    rw [HX3.out] at hk
    refine hk.mono ?_
    rintro e_ w7 ⟨v7, rfl, s7, b7⟩
    clear d0 d1 d2 d3
    have fm_7 := Lib.hid (fm_6.out.below b7)
    have b5_7 := Lib.hid (b5_6.out.below b7)
    have b6_7 := Lib.hid (b6_6.out.below b7)
    have f3_7 := Lib.hid (f3_6.out.below b7)
    have fo_7 := Lib.hid (fo_6.out.below b7)
    have f4_7 := Lib.hid (f4_6.out.below b7)
    have b7_7 := Lib.hid (b7_6.out.below b7)
    have f6_7 := Lib.hid (f6_6.out.below b7)
    clear fm_6 b5_6 b6_6 f3_6 fo_6 f4_6 b7_6 f6_6
    have f7_7 := Lib.hid s7
    have hb7 := hb6.trans (b7.mono hb6.size)
    clear hk s7 hb6 b7
    go_wp2_with fail
    have hk := words_any v6 v7 (cw X3) (cw X3) _ f6_7.out.1 f7_7.out.1 (by omega) (by omega)
    rw [decide_eq_true rfl] at hk
    refine hk.mono ?_
    rintro e_ w8 ⟨rfl, b8⟩
    have fm_8 := Lib.hid (fm_7.out.below b8)
    have b5_8 := Lib.hid (b5_7.out.below b8)
    have b6_8 := Lib.hid (b6_7.out.below b8)
    have f3_8 := Lib.hid (f3_7.out.below b8)
    have fo_8 := Lib.hid (fo_7.out.below b8)
    have f4_8 := Lib.hid (f4_7.out.below b8)
    have b7_8 := Lib.hid (b7_7.out.below b8)
    have f6_8 := Lib.hid (f6_7.out.below b8)
    have f7_8 := Lib.hid (f7_7.out.below b8)
    clear fm_7 b5_7 b6_7 f3_7 fo_7 f4_7 b7_7 f6_7 f7_7
    have hb8 := hb7.trans (b8.mono hb7.size)
    clear hk  hb7 b8
    go_wp2_with fail
    go_ret
    exact ⟨rfl, hb8⟩
set_option maxRecDepth 100000 in
set_option maxHeartbeats 1000000 in
theorem powers_hi (v : Value) (ms : List (BitVec 64)) (s t : S4) (n : Int) (w : World) (h : SlK w v ms) (hT : Tab w) (hn0 : 0 ≤ n) (hn : 150 < n) (h3 : ms.length ≤ 3) (hz : nv ms ≠ 0) :
    Calls Tryd.prog 7 #[v, u4 s, u4 t, .int .i64 n] w fun e w' => e = .returned (.bool true) ∧ Below w.heap.size w w' := by
  obtain ⟨ao, cap, rfl⟩ := slV_len h.1
  rw [vals_length] at h
  rw [vals_length]
  have hTp := hT.1
  have hbb := boxes w s t
  have HT := Lib.hid hT
  have HM := Lib.hid (h.below hbb)
  have H5 := Lib.hid ((B4.new w s).below (below_new _ (c4 t)))
  have H6 := Lib.hid (show B4 ((w.alloc (c4 s)).alloc (c4 t)) (w.heap.size + 1) t by have := B4.new (w.alloc (c4 s)) t; rw [size_alloc] at this; exact this)
  have q0 : ¬ (3 : Int) < (ms.length : Int) := by omega
  have hMl := nv_lt ms
  have hsum := fun c d => pow_add_rem c d (nv ms) hz
  have hlen := fun n => rem_lt (2 ^ n) (nv ms) hz
  have hsM := (@sz_le (nv ms) (64 * ms.length)).2 hMl
  obtain ⟨M, hM⟩ : ∃ M, nv ms = M := ⟨_, rfl⟩
  obtain ⟨P, hP⟩ : ∃ P : Nat → Nat, ∀ n, drem (2 ^ n) (nv ms) = P n := ⟨_, fun _ => rfl⟩
  simp only [hP] at hsum hlen
  have hl : ∀ n, (cw (P n)).length ≤ 100 := fun n => by have := hlen n; exact cw_len_lt (by omega)
  have HL := Lib.hid hl
  obtain ⟨C, hC⟩ : ∃ C, nv (ls s) = C := ⟨_, rfl⟩
  obtain ⟨D, hD⟩ : ∃ D, nv (ls t) = D := ⟨_, rfl⟩
  have hx1 : drem (2 ^ nv (ls s)) (nv ms) = P C := by rw [hP, hC]
  have hx2 : drem (2 ^ nv (ls t)) (nv ms) = P D := by rw [hP, hD]
  obtain ⟨X1, e1⟩ : ∃ X1, P C = X1 := ⟨_, rfl⟩
  obtain ⟨X2, e2⟩ : ∃ X2, P D = X2 := ⟨_, rfl⟩
  have hs12 := hsum C D
  rw [e1, e2] at hs12
  rw [e1] at hx1
  rw [e2] at hx2
  have l1 := hl C
  have l2 := hl D
  rw [e1] at l1
  rw [e2] at l2
  have HCD := Lib.hid (And.intro hC hD)
  have HS12 := Lib.hid hs12
  have HX1 := Lib.hid hx1
  have HX2 := Lib.hid hx2
  have HP := Lib.hid hP
  have HME := Lib.hid hM
  have HZ := Lib.hid hz
  obtain ⟨sM, hsm⟩ : ∃ k, sz (nv ms) = k := ⟨_, rfl⟩
  have hsm1 : ¬ (sM : Int) - 1 < 0 := by have : sz (nv ms) ≠ 0 := fun e => hz (sz_eq_zero.1 e); omega
  have HS := Lib.hid hsm
  have m0 : ¬ n < 0 := by omega
  have m1 := hn
  clear h hT hz hMl hsum hlen hsM hM hP hl hC hD hx1 hx2 e1 e2 hs12 hsm
  go_enter Tryd.func7, Tryd.ntmps7
  go_wp2_with fail
  have hk := awake06 _ (HT.out.belowN hbb hTp)
  refine hk.mono ?_
  rintro e_ w1 ⟨rfl, b1⟩
  have fm_1 := Lib.hid (HM.out.below b1)
  have b5_1 := Lib.hid (H5.out.below b1)
  have b6_1 := Lib.hid (H6.out.below b1)
  clear HM H5 H6
  have hb1 := hbb.trans (b1.mono hbb.size)
  clear hk  hbb b1
  obtain ⟨d0, d1, d2, d3⟩ := u4_cells b5_1.out
  go_wp2_with fail
  have hk := powx_any s _ ms _ fm_1.out (by omega) HZ.out (HT.out.belowN hb1 hTp)
  rw [HX1.out] at hk
  refine hk.mono ?_
  rintro e_ w2 ⟨v3, rfl, s3, b2⟩
  clear d0 d1 d2 d3
  have fm_2 := Lib.hid (fm_1.out.below b2)
  have b5_2 := Lib.hid (b5_1.out.below b2)
  have b6_2 := Lib.hid (b6_1.out.below b2)
  clear fm_1 b5_1 b6_1
  have f3_2 := Lib.hid s3
  have hb2 := hb1.trans (b2.mono hb1.size)
  clear hk s3 hb1 b2
  go_wp2_with fail
  have hk := of_any _ ms _ fm_2.out (by omega)
  refine hk.mono ?_
  rintro e_ w3 ⟨v5, rfl, s5, b3⟩
  have fm_3 := Lib.hid (fm_2.out.below b3)
  have b5_3 := Lib.hid (b5_2.out.below b3)
  have b6_3 := Lib.hid (b6_2.out.below b3)
  have f3_3 := Lib.hid (f3_2.out.below b3)
  clear fm_2 b5_2 b6_2 f3_2
  have fo_3 := Lib.hid s5
  have hb3 := hb2.trans (b3.mono hb2.size)
  clear hk s5 hb2 b3
  go_wp2_with fail
  have hk := rdeg_any _ (nv ms) (64 * ms.length) _ fo_3.out (by omega) (nv_lt ms)
  rw [HS.out] at hk
  refine hk.mono ?_
  rintro e_ w' ⟨rfl, rfl⟩
  clear hk
  obtain ⟨d0, d1, d2, d3⟩ := u4_cells b6_3.out
  go_wp2_with fail
  have hk := powx_any t _ ms _ fm_3.out (by omega) HZ.out (HT.out.belowN hb3 hTp)
  rw [HX2.out] at hk
  refine hk.mono ?_
  rintro e_ w4 ⟨v4, rfl, s4, b4⟩
  clear d0 d1 d2 d3
  have fm_4 := Lib.hid (fm_3.out.below b4)
  have b5_4 := Lib.hid (b5_3.out.below b4)
  have b6_4 := Lib.hid (b6_3.out.below b4)
  have f3_4 := Lib.hid (f3_3.out.below b4)
  have fo_4 := Lib.hid (fo_3.out.below b4)
  clear fm_3 b5_3 b6_3 f3_3 fo_3
  have f4_4 := Lib.hid s4
  have hb4 := hb3.trans (b4.mono hb3.size)
  clear hk s4 hb3 b4
  obtain ⟨d0, d1, d2, d3⟩ := u4_cells b5_4.out
  obtain ⟨e0, e1, e2, e3⟩ := u4_cells b6_4.out
  go_wp2_with fail
  have hk := add4_any s t w4
  refine hk.mono ?_
  rintro e_ w5 ⟨⟨cc, q, had, rfl⟩, b5⟩
  clear d0 d1 d2 d3 e0 e1 e2 e3
  have hadd := had.sum
  rw [HCD.out.1, HCD.out.2] at hadd
  have hx3 := HP.out (nv (ls q))
  have l3 := HL.out (nv (ls q))
  obtain ⟨X3, e3⟩ : ∃ X3, P (nv (ls q)) = X3 := ⟨_, rfl⟩
  rw [e3] at hx3 l3
  have HX3 := Lib.hid hx3
  have HAD := Lib.hid (And.intro hadd e3)
  have hcc := had.bound
  clear hadd hx3 e3 had
  have fm_5 := Lib.hid (fm_4.out.below b5)
  have b5_5 := Lib.hid (b5_4.out.below b5)
  have b6_5 := Lib.hid (b6_4.out.below b5)
  have f3_5 := Lib.hid (f3_4.out.below b5)
  have fo_5 := Lib.hid (fo_4.out.below b5)
  have f4_5 := Lib.hid (f4_4.out.below b5)
  clear fm_4 b5_4 b6_4 f3_4 fo_4 f4_4
  have hb5 := hb4.trans (b5.mono hb4.size)
  clear hk  hb4 b5
  by_cases hov : cc = 1
  · subst hov
    have bnao := below_new w5 (c4 q)
    have fm_ao := Lib.hid (fm_5.out.below bnao)
    have b5_ao := Lib.hid (b5_5.out.below bnao)
    have b6_ao := Lib.hid (b6_5.out.below bnao)
    have f3_ao := Lib.hid (f3_5.out.below bnao)
    have fo_ao := Lib.hid (fo_5.out.below bnao)
    have f4_ao := Lib.hid (f4_5.out.below bnao)
    clear fm_5 b5_5 b6_5 f3_5 fo_5 f4_5
    have hb_ao := hb5.trans (bnao.mono hb5.size)
    have b7_ao := Lib.hid (B4.new w5 q)
    clear bnao hb5
    go_wp2_with fail
    have hk := mulmod_any v3 v4 _ (cw X1) (cw X2) ms _ f3_ao.out f4_ao.out fm_ao.out (by omega) (by omega) (by omega) HZ.out (HT.out.belowN hb_ao hTp)
    rw [nv_cw, nv_cw] at hk
    refine hk.mono ?_
    rintro e_ w6 ⟨v6, rfl, s6, b6⟩
    have fm_6 := Lib.hid (fm_ao.out.below b6)
    have b5_6 := Lib.hid (b5_ao.out.below b6)
    have b6_6 := Lib.hid (b6_ao.out.below b6)
    have f3_6 := Lib.hid (f3_ao.out.below b6)
    have fo_6 := Lib.hid (fo_ao.out.below b6)
    have f4_6 := Lib.hid (f4_ao.out.below b6)
    have b7_6 := Lib.hid (b7_ao.out.below b6)
    clear fm_ao b5_ao b6_ao f3_ao fo_ao f4_ao b7_ao
    have f6_6 := Lib.hid s6
    have hb6 := hb_ao.trans (b6.mono hb_ao.size)
    clear hk s6 hb_ao b6
    obtain ⟨d0, d1, d2, d3⟩ := u4_cells b7_6.out
    go_wp2_with fail
    have hk := powx_any q _ ms _ fm_6.out (by omega) HZ.out (HT.out.belowN hb6 hTp)
    rw [HX3.out] at hk
    refine hk.mono ?_
    rintro e_ w7 ⟨v7, rfl, s7, b7⟩
    clear d0 d1 d2 d3
    have fm_7 := Lib.hid (fm_6.out.below b7)
    have b5_7 := Lib.hid (b5_6.out.below b7)
    have b6_7 := Lib.hid (b6_6.out.below b7)
    have f3_7 := Lib.hid (f3_6.out.below b7)
    have fo_7 := Lib.hid (fo_6.out.below b7)
    have f4_7 := Lib.hid (f4_6.out.below b7)
    have b7_7 := Lib.hid (b7_6.out.below b7)
    have f6_7 := Lib.hid (f6_6.out.below b7)
    clear fm_6 b5_6 b6_6 f3_6 fo_6 f4_6 b7_6 f6_6
    have f7_7 := Lib.hid s7
    have hb7 := hb6.trans (b7.mono hb6.size)
    clear hk s7 hb6 b7
    go_wp2_with fail
    go_ret
    exact ⟨rfl, hb7⟩
  · have hc0 : cc = 0 := by omega
    subst hc0
    have hsm : drem (clm X1 X2) (nv ms) = X3 := by
      rw [HS12.out, ← HAD.out.2]
      congr 1
      have := HAD.out.1
      omega
    have HSM := Lib.hid hsm
    clear hov hsm
    have bnan := below_new w5 (c4 q)
    have fm_an := Lib.hid (fm_5.out.below bnan)
    have b5_an := Lib.hid (b5_5.out.below bnan)
    have b6_an := Lib.hid (b6_5.out.below bnan)
    have f3_an := Lib.hid (f3_5.out.below bnan)
    have fo_an := Lib.hid (fo_5.out.below bnan)
    have f4_an := Lib.hid (f4_5.out.below bnan)
    clear fm_5 b5_5 b6_5 f3_5 fo_5 f4_5
    have hb_an := hb5.trans (bnan.mono hb5.size)
    have b7_an := Lib.hid (B4.new w5 q)
    clear bnan hb5
    go_wp2_with fail
    have hk := mulmod_any v3 v4 _ (cw X1) (cw X2) ms _ f3_an.out f4_an.out fm_an.out (by omega) (by omega) (by omega) HZ.out (HT.out.belowN hb_an hTp)
    rw [nv_cw, nv_cw] at hk
    rw [HSM.out] at hk
    refine hk.mono ?_
    rintro e_ w6 ⟨v6, rfl, s6, b6⟩
    have fm_6 := Lib.hid (fm_an.out.below b6)
    have b5_6 := Lib.hid (b5_an.out.below b6)
    have b6_6 := Lib.hid (b6_an.out.below b6)
    have f3_6 := Lib.hid (f3_an.out.below b6)
    have fo_6 := Lib.hid (fo_an.out.below b6)
    have f4_6 := Lib.hid (f4_an.out.below b6)
    have b7_6 := Lib.hid (b7_an.out.below b6)
    clear fm_an b5_an b6_an f3_an fo_an f4_an b7_an
    have f6_6 := Lib.hid s6
    have hb6 := hb_an.trans (b6.mono hb_an.size)
    clear hk s6 hb_an b6
    obtain ⟨d0, d1, d2, d3⟩ := u4_cells b7_6.out
    go_wp2_with fail
    have hk := powx_any q _ ms _ fm_6.out (by omega) HZ.out (HT.out.belowN hb6 hTp)
    rw [HX3.out] at hk
    refine hk.mono ?_
    rintro e_ w7 ⟨v7, rfl, s7, b7⟩
    clear d0 d1 d2 d3
    have fm_7 := Lib.hid (fm_6.out.below b7)
    have b5_7 := Lib.hid (b5_6.out.below b7)
    have b6_7 := Lib.hid (b6_6.out.below b7)
    have f3_7 := Lib.hid (f3_6.out.below b7)
    have fo_7 := Lib.hid (fo_6.out.below b7)
    have f4_7 := Lib.hid (f4_6.out.below b7)
    have b7_7 := Lib.hid (b7_6.out.below b7)
    have f6_7 := Lib.hid (f6_6.out.below b7)
    clear fm_6 b5_6 b6_6 f3_6 fo_6 f4_6 b7_6 f6_6
    have f7_7 := Lib.hid s7
    have hb7 := hb6.trans (b7.mono hb6.size)
    clear hk s7 hb6 b7
    go_wp2_with fail
    have hk := words_any v6 v7 (cw X3) (cw X3) _ f6_7.out.1 f7_7.out.1 (by omega) (by omega)
    rw [decide_eq_true rfl] at hk
    refine hk.mono ?_
    rintro e_ w8 ⟨rfl, b8⟩
    have fm_8 := Lib.hid (fm_7.out.below b8)
    have b5_8 := Lib.hid (b5_7.out.below b8)
    have b6_8 := Lib.hid (b6_7.out.below b8)
    have f3_8 := Lib.hid (f3_7.out.below b8)
    have fo_8 := Lib.hid (fo_7.out.below b8)
    have f4_8 := Lib.hid (f4_7.out.below b8)
    have b7_8 := Lib.hid (b7_7.out.below b8)
    have f6_8 := Lib.hid (f6_7.out.below b8)
    have f7_8 := Lib.hid (f7_7.out.below b8)
    clear fm_7 b5_7 b6_7 f3_7 fo_7 f4_7 b7_7 f6_7 f7_7
    have hb8 := hb7.trans (b8.mono hb7.size)
    clear hk  hb7 b8
    go_wp2_with fail
    go_ret
    exact ⟨rfl, hb8⟩
set_option maxRecDepth 100000 in
set_option maxHeartbeats 1000000 in
theorem powers_in (v : Value) (ms : List (BitVec 64)) (s t : S4) (m : Nat) (hm : m ≤ 150) (w : World) (h : SlK w v ms) (hT : Tab w)  (h3 : ms.length ≤ 3) (hz : nv ms ≠ 0) :
    Calls Tryd.prog 7 #[v, u4 s, u4 t, .int .i64 (m : Int)] w fun e w' => e = .returned (.bool true) ∧ Below w.heap.size w w' := by
  obtain ⟨ao, cap, rfl⟩ := slV_len h.1
  rw [vals_length] at h
  rw [vals_length]
  have hTp := hT.1
  have hbb := boxes w s t
  have HT := Lib.hid hT
  have HM := Lib.hid (h.below hbb)
  have H5 := Lib.hid ((B4.new w s).below (below_new _ (c4 t)))
  have H6 := Lib.hid (show B4 ((w.alloc (c4 s)).alloc (c4 t)) (w.heap.size + 1) t by have := B4.new (w.alloc (c4 s)) t; rw [size_alloc] at this; exact this)
  have q0 : ¬ (3 : Int) < (ms.length : Int) := by omega
  have hMl := nv_lt ms
  have hsum := fun c d => pow_add_rem c d (nv ms) hz
  have hlen := fun n => rem_lt (2 ^ n) (nv ms) hz
  have hsM := (@sz_le (nv ms) (64 * ms.length)).2 hMl
  obtain ⟨M, hM⟩ : ∃ M, nv ms = M := ⟨_, rfl⟩
  obtain ⟨P, hP⟩ : ∃ P : Nat → Nat, ∀ n, drem (2 ^ n) (nv ms) = P n := ⟨_, fun _ => rfl⟩
  simp only [hP] at hsum hlen
  have hl : ∀ n, (cw (P n)).length ≤ 100 := fun n => by have := hlen n; exact cw_len_lt (by omega)
  have HL := Lib.hid hl
  obtain ⟨C, hC⟩ : ∃ C, nv (ls s) = C := ⟨_, rfl⟩
  obtain ⟨D, hD⟩ : ∃ D, nv (ls t) = D := ⟨_, rfl⟩
  have hx1 : drem (2 ^ nv (ls s)) (nv ms) = P C := by rw [hP, hC]
  have hx2 : drem (2 ^ nv (ls t)) (nv ms) = P D := by rw [hP, hD]
  obtain ⟨X1, e1⟩ : ∃ X1, P C = X1 := ⟨_, rfl⟩
  obtain ⟨X2, e2⟩ : ∃ X2, P D = X2 := ⟨_, rfl⟩
  have hs12 := hsum C D
  rw [e1, e2] at hs12
  rw [e1] at hx1
  rw [e2] at hx2
  have l1 := hl C
  have l2 := hl D
  rw [e1] at l1
  rw [e2] at l2
  have HCD := Lib.hid (And.intro hC hD)
  have HS12 := Lib.hid hs12
  have HX1 := Lib.hid hx1
  have HX2 := Lib.hid hx2
  have HP := Lib.hid hP
  have HME := Lib.hid hM
  have HZ := Lib.hid hz
  obtain ⟨sM, hsm⟩ : ∃ k, sz (nv ms) = k := ⟨_, rfl⟩
  have hsm1 : ¬ (sM : Int) - 1 < 0 := by have : sz (nv ms) ≠ 0 := fun e => hz (sz_eq_zero.1 e); omega
  have HS := Lib.hid hsm
  have hx4 : drem (2 ^ m) (nv ms) = P m := hP m
  obtain ⟨X4, e4⟩ : ∃ X4, P m = X4 := ⟨_, rfl⟩
  have l4 := hl m
  rw [e4] at hx4 l4
  have HX4 := Lib.hid hx4
  obtain ⟨A, hA⟩ : ∃ A, 2 ^ m = A := ⟨_, rfl⟩
  have hA1 : A < 2 ^ (m + 1) := by rw [← hA]; exact Nat.pow_lt_pow_right (by decide) (by omega)
  rw [hA] at hx4
  rw [hM] at hx4 hMl
  have HX5 := Lib.hid hx4
  have HA := Lib.hid hA
  have HLT := Lib.hid (And.intro hA1 (And.intro hMl (show M ≠ 0 by rw [← hM]; exact hz)))
  have m0 : ¬ (m : Int) < 0 := by omega
  have m1 : ¬ (150 : Int) < (m : Int) := by omega
  have m2 : (0 : Int) ≤ (m : Int) := by omega
  have m3 : IntKind.u64.wrap (m : Int) = (m : Int) := by simp [IntKind.wrap, IntKind.bits, IntKind.signed]; omega
  clear hx4 e4 hA hA1
  clear h hT hz hMl hsum hlen hsM hM hP hl hC hD hx1 hx2 e1 e2 hs12 hsm
  go_enter Tryd.func7, Tryd.ntmps7
  go_wp2_with fail
  have hk := awake06 _ (HT.out.belowN hbb hTp)
  refine hk.mono ?_
  rintro e_ w1 ⟨rfl, b1⟩
  have fm_1 := Lib.hid (HM.out.below b1)
  have b5_1 := Lib.hid (H5.out.below b1)
  have b6_1 := Lib.hid (H6.out.below b1)
  clear HM H5 H6
  have hb1 := hbb.trans (b1.mono hbb.size)
  clear hk  hbb b1
  obtain ⟨d0, d1, d2, d3⟩ := u4_cells b5_1.out
  go_wp2_with fail
  have hk := powx_any s _ ms _ fm_1.out (by omega) HZ.out (HT.out.belowN hb1 hTp)
  rw [HX1.out] at hk
  refine hk.mono ?_
  rintro e_ w2 ⟨v3, rfl, s3, b2⟩
  clear d0 d1 d2 d3
  have fm_2 := Lib.hid (fm_1.out.below b2)
  have b5_2 := Lib.hid (b5_1.out.below b2)
  have b6_2 := Lib.hid (b6_1.out.below b2)
  clear fm_1 b5_1 b6_1
  have f3_2 := Lib.hid s3
  have hb2 := hb1.trans (b2.mono hb1.size)
  clear hk s3 hb1 b2
  go_wp2_with fail
  have hk := of_any _ ms _ fm_2.out (by omega)
  refine hk.mono ?_
  rintro e_ w3 ⟨v5, rfl, s5, b3⟩
  have fm_3 := Lib.hid (fm_2.out.below b3)
  have b5_3 := Lib.hid (b5_2.out.below b3)
  have b6_3 := Lib.hid (b6_2.out.below b3)
  have f3_3 := Lib.hid (f3_2.out.below b3)
  clear fm_2 b5_2 b6_2 f3_2
  have fo_3 := Lib.hid s5
  have hb3 := hb2.trans (b3.mono hb2.size)
  clear hk s5 hb2 b3
  go_wp2_with fail
  have hk := rdeg_any _ (nv ms) (64 * ms.length) _ fo_3.out (by omega) (nv_lt ms)
  rw [HS.out] at hk
  refine hk.mono ?_
  rintro e_ w' ⟨rfl, rfl⟩
  clear hk
  obtain ⟨d0, d1, d2, d3⟩ := u4_cells b6_3.out
  go_wp2_with fail
  have hk := powx_any t _ ms _ fm_3.out (by omega) HZ.out (HT.out.belowN hb3 hTp)
  rw [HX2.out] at hk
  refine hk.mono ?_
  rintro e_ w4 ⟨v4, rfl, s4, b4⟩
  clear d0 d1 d2 d3
  have fm_4 := Lib.hid (fm_3.out.below b4)
  have b5_4 := Lib.hid (b5_3.out.below b4)
  have b6_4 := Lib.hid (b6_3.out.below b4)
  have f3_4 := Lib.hid (f3_3.out.below b4)
  have fo_4 := Lib.hid (fo_3.out.below b4)
  clear fm_3 b5_3 b6_3 f3_3 fo_3
  have f4_4 := Lib.hid s4
  have hb4 := hb3.trans (b4.mono hb3.size)
  clear hk s4 hb3 b4
  obtain ⟨d0, d1, d2, d3⟩ := u4_cells b5_4.out
  obtain ⟨e0, e1, e2, e3⟩ := u4_cells b6_4.out
  go_wp2_with fail
  have hk := add4_any s t w4
  refine hk.mono ?_
  rintro e_ w5 ⟨⟨cc, q, had, rfl⟩, b5⟩
  clear d0 d1 d2 d3 e0 e1 e2 e3
  have hadd := had.sum
  rw [HCD.out.1, HCD.out.2] at hadd
  have hx3 := HP.out (nv (ls q))
  have l3 := HL.out (nv (ls q))
  obtain ⟨X3, e3⟩ : ∃ X3, P (nv (ls q)) = X3 := ⟨_, rfl⟩
  rw [e3] at hx3 l3
  have HX3 := Lib.hid hx3
  have HAD := Lib.hid (And.intro hadd e3)
  have hcc := had.bound
  clear hadd hx3 e3 had
  have fm_5 := Lib.hid (fm_4.out.below b5)
  have b5_5 := Lib.hid (b5_4.out.below b5)
  have b6_5 := Lib.hid (b6_4.out.below b5)
  have f3_5 := Lib.hid (f3_4.out.below b5)
  have fo_5 := Lib.hid (fo_4.out.below b5)
  have f4_5 := Lib.hid (f4_4.out.below b5)
  clear fm_4 b5_4 b6_4 f3_4 fo_4 f4_4
  have hb5 := hb4.trans (b5.mono hb4.size)
  clear hk  hb4 b5
  by_cases hov : cc = 1
  · subst hov
    have bnao := below_new w5 (c4 q)
    have fm_ao := Lib.hid (fm_5.out.below bnao)
    have b5_ao := Lib.hid (b5_5.out.below bnao)
    have b6_ao := Lib.hid (b6_5.out.below bnao)
    have f3_ao := Lib.hid (f3_5.out.below bnao)
    have fo_ao := Lib.hid (fo_5.out.below bnao)
    have f4_ao := Lib.hid (f4_5.out.below bnao)
    clear fm_5 b5_5 b6_5 f3_5 fo_5 f4_5
    have hb_ao := hb5.trans (bnao.mono hb5.size)
    have b7_ao := Lib.hid (B4.new w5 q)
    clear bnao hb5
    go_wp2_with fail
    have hk := mulmod_any v3 v4 _ (cw X1) (cw X2) ms _ f3_ao.out f4_ao.out fm_ao.out (by omega) (by omega) (by omega) HZ.out (HT.out.belowN hb_ao hTp)
    rw [nv_cw, nv_cw] at hk
    refine hk.mono ?_
    rintro e_ w6 ⟨v6, rfl, s6, b6⟩
    have fm_6 := Lib.hid (fm_ao.out.below b6)
    have b5_6 := Lib.hid (b5_ao.out.below b6)
    have b6_6 := Lib.hid (b6_ao.out.below b6)
    have f3_6 := Lib.hid (f3_ao.out.below b6)
    have fo_6 := Lib.hid (fo_ao.out.below b6)
    have f4_6 := Lib.hid (f4_ao.out.below b6)
    have b7_6 := Lib.hid (b7_ao.out.below b6)
    clear fm_ao b5_ao b6_ao f3_ao fo_ao f4_ao b7_ao
    have f6_6 := Lib.hid s6
    have hb6 := hb_ao.trans (b6.mono hb_ao.size)
    clear hk s6 hb_ao b6
    obtain ⟨d0, d1, d2, d3⟩ := u4_cells b7_6.out
    go_wp2_with fail
    have hk := powx_any q _ ms _ fm_6.out (by omega) HZ.out (HT.out.belowN hb6 hTp)
    rw [HX3.out] at hk
    refine hk.mono ?_
    rintro e_ w7 ⟨v7, rfl, s7, b7⟩
    clear d0 d1 d2 d3
    have fm_7 := Lib.hid (fm_6.out.below b7)
    have b5_7 := Lib.hid (b5_6.out.below b7)
    have b6_7 := Lib.hid (b6_6.out.below b7)
    have f3_7 := Lib.hid (f3_6.out.below b7)
    have fo_7 := Lib.hid (fo_6.out.below b7)
    have f4_7 := Lib.hid (f4_6.out.below b7)
    have b7_7 := Lib.hid (b7_6.out.below b7)
    have f6_7 := Lib.hid (f6_6.out.below b7)
    clear fm_6 b5_6 b6_6 f3_6 fo_6 f4_6 b7_6 f6_6
    have f7_7 := Lib.hid s7
    have hb7 := hb6.trans (b7.mono hb6.size)
    clear hk s7 hb6 b7
    go_wp2_with fail
    have hk := of4_nat m hm w7
    refine hk.mono ?_
    rintro e_ w8 ⟨r, rfl, hr, b8⟩
    have HR := Lib.hid hr
    clear hr
    have fm_8 := Lib.hid (fm_7.out.below b8)
    have b5_8 := Lib.hid (b5_7.out.below b8)
    have b6_8 := Lib.hid (b6_7.out.below b8)
    have f3_8 := Lib.hid (f3_7.out.below b8)
    have fo_8 := Lib.hid (fo_7.out.below b8)
    have f4_8 := Lib.hid (f4_7.out.below b8)
    have b7_8 := Lib.hid (b7_7.out.below b8)
    have f6_8 := Lib.hid (f6_7.out.below b8)
    have f7_8 := Lib.hid (f7_7.out.below b8)
    clear fm_7 b5_7 b6_7 f3_7 fo_7 f4_7 b7_7 f6_7 f7_7
    have hb8 := hb7.trans (b8.mono hb7.size)
    clear hk  hb7 b8
    go_wp2_with fail
    have hk := powx_any r _ ms _ fm_8.out (by omega) HZ.out (HT.out.belowN hb8 hTp)
    rw [HR.out, HX4.out] at hk
    refine hk.mono ?_
    rintro e_ w9 ⟨v8, rfl, s8, b9⟩
    have fm_9 := Lib.hid (fm_8.out.below b9)
    have b5_9 := Lib.hid (b5_8.out.below b9)
    have b6_9 := Lib.hid (b6_8.out.below b9)
    have f3_9 := Lib.hid (f3_8.out.below b9)
    have fo_9 := Lib.hid (fo_8.out.below b9)
    have f4_9 := Lib.hid (f4_8.out.below b9)
    have b7_9 := Lib.hid (b7_8.out.below b9)
    have f6_9 := Lib.hid (f6_8.out.below b9)
    have f7_9 := Lib.hid (f7_8.out.below b9)
    clear fm_8 b5_8 b6_8 f3_8 fo_8 f4_8 b7_8 f6_8 f7_8
    have f8_9 := Lib.hid s8
    have hb9 := hb8.trans (b9.mono hb8.size)
    clear hk s8 hb8 b9
    go_wp2_with fail
    have bnoo := below_new w9 (.cells #[.bool true] 4)
    have fm_oo := Lib.hid (fm_9.out.below bnoo)
    have b5_oo := Lib.hid (b5_9.out.below bnoo)
    have b6_oo := Lib.hid (b6_9.out.below bnoo)
    have f3_oo := Lib.hid (f3_9.out.below bnoo)
    have fo_oo := Lib.hid (fo_9.out.below bnoo)
    have f4_oo := Lib.hid (f4_9.out.below bnoo)
    have b7_oo := Lib.hid (b7_9.out.below bnoo)
    have f6_oo := Lib.hid (f6_9.out.below bnoo)
    have f7_oo := Lib.hid (f7_9.out.below bnoo)
    have f8_oo := Lib.hid (f8_9.out.below bnoo)
    clear fm_9 b5_9 b6_9 f3_9 fo_9 f4_9 b7_9 f6_9 f7_9 f8_9
    have hb_oo := hb9.trans (bnoo.mono hb9.size)
    have f9_oo := Lib.hid (one_bl6 w9)
    clear bnoo hb9
    go_wp2_with fail
    have hk := up_any _ 1 1 m _ f9_oo.out (by omega) (by omega)
    rw [Nat.mul_one] at hk
    rw [HA.out] at hk
    refine hk.mono ?_
    rintro e_ w10 ⟨v10, rfl, s10, b10⟩
    have fm_10 := Lib.hid (fm_oo.out.below b10)
    have b5_10 := Lib.hid (b5_oo.out.below b10)
    have b6_10 := Lib.hid (b6_oo.out.below b10)
    have f3_10 := Lib.hid (f3_oo.out.below b10)
    have fo_10 := Lib.hid (fo_oo.out.below b10)
    have f4_10 := Lib.hid (f4_oo.out.below b10)
    have b7_10 := Lib.hid (b7_oo.out.below b10)
    have f6_10 := Lib.hid (f6_oo.out.below b10)
    have f7_10 := Lib.hid (f7_oo.out.below b10)
    have f8_10 := Lib.hid (f8_oo.out.below b10)
    have f9_10 := Lib.hid (f9_oo.out.below b10)
    clear fm_oo b5_oo b6_oo f3_oo fo_oo f4_oo b7_oo f6_oo f7_oo f8_oo f9_oo
    have f10_10 := Lib.hid s10
    have hb10 := hb_oo.trans (b10.mono hb_oo.size)
    clear hk s10 hb_oo b10
    go_wp2_with fail
    have hk := of_any _ ms _ fm_10.out (by omega)
    rw [HME.out] at hk
    refine hk.mono ?_
    rintro e_ w11 ⟨v11, rfl, s11, b11⟩
    have fm_11 := Lib.hid (fm_10.out.below b11)
    have b5_11 := Lib.hid (b5_10.out.below b11)
    have b6_11 := Lib.hid (b6_10.out.below b11)
    have f3_11 := Lib.hid (f3_10.out.below b11)
    have fo_11 := Lib.hid (fo_10.out.below b11)
    have f4_11 := Lib.hid (f4_10.out.below b11)
    have b7_11 := Lib.hid (b7_10.out.below b11)
    have f6_11 := Lib.hid (f6_10.out.below b11)
    have f7_11 := Lib.hid (f7_10.out.below b11)
    have f8_11 := Lib.hid (f8_10.out.below b11)
    have f9_11 := Lib.hid (f9_10.out.below b11)
    have f10_11 := Lib.hid (f10_10.out.below b11)
    clear fm_10 b5_10 b6_10 f3_10 fo_10 f4_10 b7_10 f6_10 f7_10 f8_10 f9_10 f10_10
    have f11_11 := Lib.hid s11
    have hb11 := hb10.trans (b11.mono hb10.size)
    clear hk s11 hb10 b11
    go_wp2_with fail
    have hk := rdivide_any v10 v11 A (m + 1) M (64 * ms.length) _ f10_11.out f11_11.out (by omega) (by omega) HLT.out.1 HLT.out.2.1 HLT.out.2.2
    refine hk.mono ?_
    rintro e_ w12 ⟨v12, l12, v13, rfl, _, _, _, s13, k13, b12⟩
    rw [HX5.out] at s13 k13
    have K13 := Lib.hid k13
    clear k13
    have fm_12 := Lib.hid (fm_11.out.below b12)
    have b5_12 := Lib.hid (b5_11.out.below b12)
    have b6_12 := Lib.hid (b6_11.out.below b12)
    have f3_12 := Lib.hid (f3_11.out.below b12)
    have fo_12 := Lib.hid (fo_11.out.below b12)
    have f4_12 := Lib.hid (f4_11.out.below b12)
    have b7_12 := Lib.hid (b7_11.out.below b12)
    have f6_12 := Lib.hid (f6_11.out.below b12)
    have f7_12 := Lib.hid (f7_11.out.below b12)
    have f8_12 := Lib.hid (f8_11.out.below b12)
    have f9_12 := Lib.hid (f9_11.out.below b12)
    have f10_12 := Lib.hid (f10_11.out.below b12)
    have f11_12 := Lib.hid (f11_11.out.below b12)
    clear fm_11 b5_11 b6_11 f3_11 fo_11 f4_11 b7_11 f6_11 f7_11 f8_11 f9_11 f10_11 f11_11
    have f13_12 := Lib.hid s13
    have hb12 := hb11.trans (b12.mono hb11.size)
    clear hk s13 hb11 b12
    go_wp2_with fail
    have hk := words06 v8 v13 (cw X4) X4 (m + 1) _ f8_12.out f13_12.out (by omega) (by omega) K13.out
    rw [decide_eq_true rfl] at hk
    refine hk.mono ?_
    rintro e_ w13 ⟨rfl, b13⟩
    have fm_13 := Lib.hid (fm_12.out.below b13)
    have b5_13 := Lib.hid (b5_12.out.below b13)
    have b6_13 := Lib.hid (b6_12.out.below b13)
    have f3_13 := Lib.hid (f3_12.out.below b13)
    have fo_13 := Lib.hid (fo_12.out.below b13)
    have f4_13 := Lib.hid (f4_12.out.below b13)
    have b7_13 := Lib.hid (b7_12.out.below b13)
    have f6_13 := Lib.hid (f6_12.out.below b13)
    have f7_13 := Lib.hid (f7_12.out.below b13)
    have f8_13 := Lib.hid (f8_12.out.below b13)
    have f9_13 := Lib.hid (f9_12.out.below b13)
    have f10_13 := Lib.hid (f10_12.out.below b13)
    have f11_13 := Lib.hid (f11_12.out.below b13)
    have f13_13 := Lib.hid (f13_12.out.below b13)
    clear fm_12 b5_12 b6_12 f3_12 fo_12 f4_12 b7_12 f6_12 f7_12 f8_12 f9_12 f10_12 f11_12 f13_12
    have hb13 := hb12.trans (b13.mono hb12.size)
    clear hk  hb12 b13
    go_wp2_with fail
    go_ret
    exact ⟨rfl, hb13⟩
  · have hc0 : cc = 0 := by omega
    subst hc0
    have hsm : drem (clm X1 X2) (nv ms) = X3 := by
      rw [HS12.out, ← HAD.out.2]
      congr 1
      have := HAD.out.1
      omega
    have HSM := Lib.hid hsm
    clear hov hsm
    have bnan := below_new w5 (c4 q)
    have fm_an := Lib.hid (fm_5.out.below bnan)
    have b5_an := Lib.hid (b5_5.out.below bnan)
    have b6_an := Lib.hid (b6_5.out.below bnan)
    have f3_an := Lib.hid (f3_5.out.below bnan)
    have fo_an := Lib.hid (fo_5.out.below bnan)
    have f4_an := Lib.hid (f4_5.out.below bnan)
    clear fm_5 b5_5 b6_5 f3_5 fo_5 f4_5
    have hb_an := hb5.trans (bnan.mono hb5.size)
    have b7_an := Lib.hid (B4.new w5 q)
    clear bnan hb5
    go_wp2_with fail
    have hk := mulmod_any v3 v4 _ (cw X1) (cw X2) ms _ f3_an.out f4_an.out fm_an.out (by omega) (by omega) (by omega) HZ.out (HT.out.belowN hb_an hTp)
    rw [nv_cw, nv_cw] at hk
    rw [HSM.out] at hk
    refine hk.mono ?_
    rintro e_ w6 ⟨v6, rfl, s6, b6⟩
    have fm_6 := Lib.hid (fm_an.out.below b6)
    have b5_6 := Lib.hid (b5_an.out.below b6)
    have b6_6 := Lib.hid (b6_an.out.below b6)
    have f3_6 := Lib.hid (f3_an.out.below b6)
    have fo_6 := Lib.hid (fo_an.out.below b6)
    have f4_6 := Lib.hid (f4_an.out.below b6)
    have b7_6 := Lib.hid (b7_an.out.below b6)
    clear fm_an b5_an b6_an f3_an fo_an f4_an b7_an
    have f6_6 := Lib.hid s6
    have hb6 := hb_an.trans (b6.mono hb_an.size)
    clear hk s6 hb_an b6
    obtain ⟨d0, d1, d2, d3⟩ := u4_cells b7_6.out
    go_wp2_with fail
    have hk := powx_any q _ ms _ fm_6.out (by omega) HZ.out (HT.out.belowN hb6 hTp)
    rw [HX3.out] at hk
    refine hk.mono ?_
    rintro e_ w7 ⟨v7, rfl, s7, b7⟩
    clear d0 d1 d2 d3
    have fm_7 := Lib.hid (fm_6.out.below b7)
    have b5_7 := Lib.hid (b5_6.out.below b7)
    have b6_7 := Lib.hid (b6_6.out.below b7)
    have f3_7 := Lib.hid (f3_6.out.below b7)
    have fo_7 := Lib.hid (fo_6.out.below b7)
    have f4_7 := Lib.hid (f4_6.out.below b7)
    have b7_7 := Lib.hid (b7_6.out.below b7)
    have f6_7 := Lib.hid (f6_6.out.below b7)
    clear fm_6 b5_6 b6_6 f3_6 fo_6 f4_6 b7_6 f6_6
    have f7_7 := Lib.hid s7
    have hb7 := hb6.trans (b7.mono hb6.size)
    clear hk s7 hb6 b7
    go_wp2_with fail
    have hk := words_any v6 v7 (cw X3) (cw X3) _ f6_7.out.1 f7_7.out.1 (by omega) (by omega)
    rw [decide_eq_true rfl] at hk
    refine hk.mono ?_
    rintro e_ w8 ⟨rfl, b8⟩
    have fm_8 := Lib.hid (fm_7.out.below b8)
    have b5_8 := Lib.hid (b5_7.out.below b8)
    have b6_8 := Lib.hid (b6_7.out.below b8)
    have f3_8 := Lib.hid (f3_7.out.below b8)
    have fo_8 := Lib.hid (fo_7.out.below b8)
    have f4_8 := Lib.hid (f4_7.out.below b8)
    have b7_8 := Lib.hid (b7_7.out.below b8)
    have f6_8 := Lib.hid (f6_7.out.below b8)
    have f7_8 := Lib.hid (f7_7.out.below b8)
    clear fm_7 b5_7 b6_7 f3_7 fo_7 f4_7 b7_7 f6_7 f7_7
    have hb8 := hb7.trans (b8.mono hb7.size)
    clear hk  hb7 b8
    go_wp2_with fail
    have hk := of4_nat m hm w8
    refine hk.mono ?_
    rintro e_ w9 ⟨r, rfl, hr, b9⟩
    have HR := Lib.hid hr
    clear hr
    have fm_9 := Lib.hid (fm_8.out.below b9)
    have b5_9 := Lib.hid (b5_8.out.below b9)
    have b6_9 := Lib.hid (b6_8.out.below b9)
    have f3_9 := Lib.hid (f3_8.out.below b9)
    have fo_9 := Lib.hid (fo_8.out.below b9)
    have f4_9 := Lib.hid (f4_8.out.below b9)
    have b7_9 := Lib.hid (b7_8.out.below b9)
    have f6_9 := Lib.hid (f6_8.out.below b9)
    have f7_9 := Lib.hid (f7_8.out.below b9)
    clear fm_8 b5_8 b6_8 f3_8 fo_8 f4_8 b7_8 f6_8 f7_8
    have hb9 := hb8.trans (b9.mono hb8.size)
    clear hk  hb8 b9
    go_wp2_with fail
    have hk := powx_any r _ ms _ fm_9.out (by omega) HZ.out (HT.out.belowN hb9 hTp)
    rw [HR.out, HX4.out] at hk
    refine hk.mono ?_
    rintro e_ w10 ⟨v8, rfl, s8, b10⟩
    have fm_10 := Lib.hid (fm_9.out.below b10)
    have b5_10 := Lib.hid (b5_9.out.below b10)
    have b6_10 := Lib.hid (b6_9.out.below b10)
    have f3_10 := Lib.hid (f3_9.out.below b10)
    have fo_10 := Lib.hid (fo_9.out.below b10)
    have f4_10 := Lib.hid (f4_9.out.below b10)
    have b7_10 := Lib.hid (b7_9.out.below b10)
    have f6_10 := Lib.hid (f6_9.out.below b10)
    have f7_10 := Lib.hid (f7_9.out.below b10)
    clear fm_9 b5_9 b6_9 f3_9 fo_9 f4_9 b7_9 f6_9 f7_9
    have f8_10 := Lib.hid s8
    have hb10 := hb9.trans (b10.mono hb9.size)
    clear hk s8 hb9 b10
    go_wp2_with fail
    have bnon := below_new w10 (.cells #[.bool true] 4)
    have fm_on := Lib.hid (fm_10.out.below bnon)
    have b5_on := Lib.hid (b5_10.out.below bnon)
    have b6_on := Lib.hid (b6_10.out.below bnon)
    have f3_on := Lib.hid (f3_10.out.below bnon)
    have fo_on := Lib.hid (fo_10.out.below bnon)
    have f4_on := Lib.hid (f4_10.out.below bnon)
    have b7_on := Lib.hid (b7_10.out.below bnon)
    have f6_on := Lib.hid (f6_10.out.below bnon)
    have f7_on := Lib.hid (f7_10.out.below bnon)
    have f8_on := Lib.hid (f8_10.out.below bnon)
    clear fm_10 b5_10 b6_10 f3_10 fo_10 f4_10 b7_10 f6_10 f7_10 f8_10
    have hb_on := hb10.trans (bnon.mono hb10.size)
    have f9_on := Lib.hid (one_bl6 w10)
    clear bnon hb10
    go_wp2_with fail
    have hk := up_any _ 1 1 m _ f9_on.out (by omega) (by omega)
    rw [Nat.mul_one] at hk
    rw [HA.out] at hk
    refine hk.mono ?_
    rintro e_ w11 ⟨v10, rfl, s10, b11⟩
    have fm_11 := Lib.hid (fm_on.out.below b11)
    have b5_11 := Lib.hid (b5_on.out.below b11)
    have b6_11 := Lib.hid (b6_on.out.below b11)
    have f3_11 := Lib.hid (f3_on.out.below b11)
    have fo_11 := Lib.hid (fo_on.out.below b11)
    have f4_11 := Lib.hid (f4_on.out.below b11)
    have b7_11 := Lib.hid (b7_on.out.below b11)
    have f6_11 := Lib.hid (f6_on.out.below b11)
    have f7_11 := Lib.hid (f7_on.out.below b11)
    have f8_11 := Lib.hid (f8_on.out.below b11)
    have f9_11 := Lib.hid (f9_on.out.below b11)
    clear fm_on b5_on b6_on f3_on fo_on f4_on b7_on f6_on f7_on f8_on f9_on
    have f10_11 := Lib.hid s10
    have hb11 := hb_on.trans (b11.mono hb_on.size)
    clear hk s10 hb_on b11
    go_wp2_with fail
    have hk := of_any _ ms _ fm_11.out (by omega)
    rw [HME.out] at hk
    refine hk.mono ?_
    rintro e_ w12 ⟨v11, rfl, s11, b12⟩
    have fm_12 := Lib.hid (fm_11.out.below b12)
    have b5_12 := Lib.hid (b5_11.out.below b12)
    have b6_12 := Lib.hid (b6_11.out.below b12)
    have f3_12 := Lib.hid (f3_11.out.below b12)
    have fo_12 := Lib.hid (fo_11.out.below b12)
    have f4_12 := Lib.hid (f4_11.out.below b12)
    have b7_12 := Lib.hid (b7_11.out.below b12)
    have f6_12 := Lib.hid (f6_11.out.below b12)
    have f7_12 := Lib.hid (f7_11.out.below b12)
    have f8_12 := Lib.hid (f8_11.out.below b12)
    have f9_12 := Lib.hid (f9_11.out.below b12)
    have f10_12 := Lib.hid (f10_11.out.below b12)
    clear fm_11 b5_11 b6_11 f3_11 fo_11 f4_11 b7_11 f6_11 f7_11 f8_11 f9_11 f10_11
    have f11_12 := Lib.hid s11
    have hb12 := hb11.trans (b12.mono hb11.size)
    clear hk s11 hb11 b12
    go_wp2_with fail
    have hk := rdivide_any v10 v11 A (m + 1) M (64 * ms.length) _ f10_12.out f11_12.out (by omega) (by omega) HLT.out.1 HLT.out.2.1 HLT.out.2.2
    refine hk.mono ?_
    rintro e_ w13 ⟨v12, l12, v13, rfl, _, _, _, s13, k13, b13⟩
    rw [HX5.out] at s13 k13
    have K13 := Lib.hid k13
    clear k13
    have fm_13 := Lib.hid (fm_12.out.below b13)
    have b5_13 := Lib.hid (b5_12.out.below b13)
    have b6_13 := Lib.hid (b6_12.out.below b13)
    have f3_13 := Lib.hid (f3_12.out.below b13)
    have fo_13 := Lib.hid (fo_12.out.below b13)
    have f4_13 := Lib.hid (f4_12.out.below b13)
    have b7_13 := Lib.hid (b7_12.out.below b13)
    have f6_13 := Lib.hid (f6_12.out.below b13)
    have f7_13 := Lib.hid (f7_12.out.below b13)
    have f8_13 := Lib.hid (f8_12.out.below b13)
    have f9_13 := Lib.hid (f9_12.out.below b13)
    have f10_13 := Lib.hid (f10_12.out.below b13)
    have f11_13 := Lib.hid (f11_12.out.below b13)
    clear fm_12 b5_12 b6_12 f3_12 fo_12 f4_12 b7_12 f6_12 f7_12 f8_12 f9_12 f10_12 f11_12
    have f13_13 := Lib.hid s13
    have hb13 := hb12.trans (b13.mono hb12.size)
    clear hk s13 hb12 b13
    go_wp2_with fail
    have hk := words06 v8 v13 (cw X4) X4 (m + 1) _ f8_13.out f13_13.out (by omega) (by omega) K13.out
    rw [decide_eq_true rfl] at hk
    refine hk.mono ?_
    rintro e_ w14 ⟨rfl, b14⟩
    have fm_14 := Lib.hid (fm_13.out.below b14)
    have b5_14 := Lib.hid (b5_13.out.below b14)
    have b6_14 := Lib.hid (b6_13.out.below b14)
    have f3_14 := Lib.hid (f3_13.out.below b14)
    have fo_14 := Lib.hid (fo_13.out.below b14)
    have f4_14 := Lib.hid (f4_13.out.below b14)
    have b7_14 := Lib.hid (b7_13.out.below b14)
    have f6_14 := Lib.hid (f6_13.out.below b14)
    have f7_14 := Lib.hid (f7_13.out.below b14)
    have f8_14 := Lib.hid (f8_13.out.below b14)
    have f9_14 := Lib.hid (f9_13.out.below b14)
    have f10_14 := Lib.hid (f10_13.out.below b14)
    have f11_14 := Lib.hid (f11_13.out.below b14)
    have f13_14 := Lib.hid (f13_13.out.below b14)
    clear fm_13 b5_13 b6_13 f3_13 fo_13 f4_13 b7_13 f6_13 f7_13 f8_13 f9_13 f10_13 f11_13 f13_13
    have hb14 := hb13.trans (b14.mono hb13.size)
    clear hk  hb13 b14
    go_wp2_with fail
    go_ret
    exact ⟨rfl, hb14⟩
theorem powers_law (v : Value) (ms : List (BitVec 64)) (s t : S4) (n : Int) (h0 : -9223372036854775808 ≤ n) (h1 : n ≤ 9223372036854775807) (w : World) (hx : SlV w v (vals ms)) (hl : ms.length ≤ 9223372036854775807) (hc : CapOk v) (hT : Tab w) :
    Calls Tryd.prog 7 #[v, u4 s, u4 t, .int .i64 n] w fun e w' => e = .returned (.bool true) ∧ Below w.heap.size w w' := by
  by_cases h3 : ms.length ≤ 3
  · by_cases hz : nv ms = 0
    · exact powers_zero v ms s t n w ⟨hx, hc⟩ hT h3 hz
    · by_cases hn : n < 0
      · exact powers_lo v ms s t n w ⟨hx, hc⟩ hT hn h3 hz
      · by_cases hn2 : 150 < n
        · exact powers_hi v ms s t n w ⟨hx, hc⟩ hT (by omega) hn2 h3 hz
        · obtain ⟨m, rfl⟩ : ∃ m : Nat, n = (m : Int) := ⟨n.toNat, by omega⟩
          exact powers_in v ms s t m (by omega) w ⟨hx, hc⟩ hT h3 hz
  · exact powers_long v ms s t n w ⟨hx, hc⟩ hT (by omega)
end Go.Proofs.YthiahpkodnfdcaaDoor
