/- The walk of chapter 6's reference: division. No condition but on lengths. -/
import Derived.Test.YthiahpkodnfdcaaDoorG9
namespace Go.Proofs.YthiahpkodnfdcaaDoor
open Go.RowKit
/-- quotient and rest that are returned -/
def RDv (w0 : World) (A M n : Nat) (e : Ending) (w' : World) : Prop := ∃ v3 l v4, e = .returned (.tuple #[v3, v4]) ∧ BL w' v3 (dquo A M) l ∧ dquo A M < 2 ^ l ∧ l ≤ n ∧ BL w' v4 (drem A M) n ∧ drem A M < 2 ^ n ∧ Below w0.heap.size w0 w'
theorem BL.mk' {w : World} {b o cap n N : Nat} (hn : n ≤ cap) (hc : ∀ i, i < n → w.cell? ⟨b, o + i, none⟩ = some (.bool (N.testBit i))) : BL w (.slice (some ⟨b, o, none⟩) n cap) N n := by
  refine ⟨.inr ⟨b, o, cap, by rw [bools_length, tb_length], fun i u hu => ?_⟩, ⟨_, _, _, rfl, hn⟩, fun m cap h => by injection h with h _ _; cases h⟩
  have hi : i < n := by
    have := (List.getElem?_eq_some_iff.1 hu).1
    rwa [bools_length, tb_length] at this
  rw [bools_get _ _ (by rw [tb_length]; exact hi), tb_getElem] at hu
  injection hu with hu
  rw [← hu]; exact hc i hi
theorem one_bl (w : World) : BL (w.alloc (.cells #[.bool true] 4)) (.slice (some ⟨w.heap.size, 0, none⟩) 1 1) 1 1 := by
  refine BL.mk' (Nat.le_refl _) (fun i hi => ?_)
  have h := (Blk.new w 4 #[.bool true]).cell i
  rw [Nat.zero_add, h]
  obtain rfl : i = 0 := by omega
  rfl
/-- what stands in Divide -/
structure RV (w0 w : World) (v3 v4 : Value) (A M n Q R l : Nat) : Prop where
  bel : Below w0.heap.size w0 w
  sq : BL w v3 Q l
  sr : BL w v4 R n
  lq : Q < 2 ^ l
  lr : R < 2 ^ n
  ll : l ≤ n
  run : dloop M (sz R) (Q, R) = dloop M (sz A) (0, A)
set_option maxHeartbeats 1000000 in
theorem rdivide_any (v v2 : Value) (A n M m : Nat) (w : World) (h : BL w v A n) (h2 : BL w v2 M m) (hn : n ≤ 4000) (hm : m ≤ 4000) (hA : A < 2 ^ n) (hM : M < 2 ^ m) (hz : M ≠ 0) : Calls Tryd.prog 18 #[v, v2] w (RDv w A M n) := by
  have hm0 : 0 < m := by
    rcases Nat.eq_zero_or_pos m with e | e
    · subst e; rw [Nat.pow_zero] at hM; omega
    · exact e
  have hs := sz_le.2 hM
  obtain ⟨s, hse⟩ : ∃ s, sz M = s + 1 := ⟨sz M - 1, by have : sz M ≠ 0 := fun e => hz (sz_eq_zero.1 e); omega⟩
  have hlsz := lt_sz M
  rw [hse] at hs hlsz
  have hs0 : (0 : Int) ≤ (s : Int) := by omega
  obtain ⟨D, hDe⟩ : ∃ D, s + 1 = D := ⟨_, rfl⟩
  have q1 : (s : Int) + 1 = (D : Int) := by omega
  have hD0 : (0 : Int) ≤ (D : Int) := by omega
  obtain ⟨b, o, cp, rfl, hcp, hc⟩ := h2.cells hm0
  have hDc : (D : Int) ≤ (cp : Int) := by omega
  have hDn : D ≤ cp := by omega
  have hcp0 : ¬ cp = 0 := by omega
  have hdm := fun w1 (h1 : BL w1 (.slice (some ⟨b, o, none⟩) m cp) M m) => rdeg_any (.slice (some ⟨b, o, none⟩) m cp) M m w1 h1 (by omega) hM
  rw [hse, show (((s + 1 : Nat) : Int) - 1) = (s : Int) by omega] at hdm
  have hpre : ∀ w1, BL w1 (.slice (some ⟨b, o, none⟩) m cp) M m → BL w1 (.slice (some ⟨b, o, none⟩) D cp) M D := by
    intro w1 h1
    obtain ⟨b', o', cp', e, _, hc'⟩ := h1.cells hm0
    injection e with e1 _ e3
    injection e1 with e1
    injection e1 with e1 e2 _
    subst e1 e2 e3
    exact BL.mk' hDn (fun i hi => hc' i (by omega))
  have HDM := Lib.hid hdm
  have HPR := Lib.hid hpre
  have H := Lib.hid (And.intro h h2)
  have HP := Lib.hid (And.intro hA (And.intro hM hz))
  have HS := Lib.hid (And.intro hse (And.intro hDe hlsz))
  have hDle : D ≤ 4000 := by omega
  clear h h2 hA hM hz hse hlsz hdm hpre hc hDe
  go_enter Tryd.func18, Tryd.ntmps18
  go_wp2_with fail
  refine (radd_any v (.slice none 0 0) A n 0 0 w H.out.1 (BL.nil _ _) (by omega) (by omega) HP.out.1 (by decide)).mono ?_
  rintro e w1 ⟨v5, rfl, s5, b5⟩
  rw [Nat.xor_zero, Nat.max_eq_left (Nat.zero_le _)] at s5
  have HV := Lib.hid (show RV w w1 (.slice none 0 0) v5 A M n 0 A 0 from ⟨b5, BL.nil _ _, s5, by decide, HP.out.1, Nat.zero_le _, rfl⟩)
  clear s5 b5
  go_wp2_with fail
  go_loopg [6, 7] (sz A) (fun gk v3 v4 wr => ∃ Q R l, gk = sz R ∧ RV w wr v3 v4 A M n Q R l)
  case atStart => exact ⟨0, A, 0, rfl, HV.out⟩
  case round =>
    obtain ⟨Q, R, l, rfl, hrv⟩ := hrel
    clear HV
    have HV := Lib.hid hrv
    have hdr := rdeg_any _ R n wr hrv.sr (by omega) hrv.lr
    have hln := hrv.ll
    clear hrv
    have hsr := sz_le.2 HV.out.lr
    obtain ⟨t, ht⟩ : ∃ t, sz R = t := ⟨_, rfl⟩
    rw [ht] at hdr hsr
    have hdm1 := HDM.out wr (H.out.2.below HV.out.bel)
    by_cases hlt : t ≤ s
    · have hcmp : ¬ (s : Int) ≤ (t : Int) - 1 := by omega
      have hstop := HV.out.run
      rw [dloop_done (by show sz R < sz M; rw [ht, HS.out.1]; omega)] at hstop
      have e1 : Q = dquo A M := by unfold dquo; rw [← hstop]
      have e2 : R = drem A M := by unfold drem; rw [← hstop]
      have HE := Lib.hid (And.intro e1 e2)
      clear hstop e1 e2 ht
      go_wp2_with fail
      refine hdr.mono ?_
      rintro e w' ⟨rfl, rfl⟩
      go_wp2_with fail
      refine hdm1.mono ?_
      rintro e w' ⟨rfl, rfl⟩
      clear hdr hdm1
      go_wp2_with fail
      go_ret2
      have h1 := HV.out
      rw [HE.out.1, HE.out.2] at h1
      exact ⟨_, l, _, rfl, h1.sq, h1.lq, h1.ll, h1.sr, h1.lr, h1.bel⟩
    · obtain ⟨e, he⟩ : ∃ e, t = s + 1 + e := ⟨t - s - 1, by omega⟩
      have hcmp : (s : Int) ≤ (t : Int) - 1 := by omega
      have q2 : (t : Int) - 1 - (s : Int) = (e : Int) := by omega
      have hen : e + 1 ≤ n := by omega
      have hmx : max n (e + D) = n := by have := HS.out.2.1; omega
      have HMX := Lib.hid hmx
      have hle : sz M ≤ sz R := by rw [ht, HS.out.1]; omega
      have hlt2 := dstep_lt (p := (Q, R)) HP.out.2.2 hle
      have hst2 := dloop_step (p := (Q, R)) HP.out.2.2 hle
      have hds : dstep M (Q, R) = (Q ^^^ 2 ^ e, R ^^^ 2 ^ e * M) := by
        unfold dstep
        simp only [show sz R - sz M = e by rw [ht, HS.out.1]; omega]
      rw [hds] at hlt2 hst2
      have HST := Lib.hid (And.intro hlt2 (hst2.symm.trans HV.out.run))
      have heD : e ≤ 4000 := by omega
      clear hmx hle hlt2 hst2 hds ht he hlt
      go_wp2_with fail
      refine hdr.mono ?_
      rintro e_ w' ⟨rfl, rfl⟩
      go_wp2_with fail
      refine hdm1.mono ?_
      rintro e_ w' ⟨rfl, rfl⟩
      go_wp2_with fail
      refine hdr.mono ?_
      rintro e_ w' ⟨rfl, rfl⟩
      go_wp2_with fail
      refine hdm1.mono ?_
      rintro e_ w' ⟨rfl, rfl⟩
      clear hdr hdm1
      go_wp2_with fail
      have b0 := below_new wr (.cells #[.bool true] 4)
      refine (up_any _ 1 1 e _ (one_bl wr) (by omega) (by omega)).mono ?_
      rintro e_ w2 ⟨v6, rfl, s6, b6⟩
      rw [Nat.mul_one] at s6
      have b02 := b0.trans (b6.mono b0.size)
      have H2 := Lib.hid (And.intro s6 (And.intro (HV.out.sq.below b02) (And.intro (HV.out.sr.below b02) (HV.out.bel.trans (b02.mono HV.out.bel.size)))))
      clear s6 b6 b0 b02
      go_wp2_with fail
      refine (radd_any _ v6 Q l (2 ^ e) (e + 1) w2 H2.out.2.1 H2.out.1 (by omega) (by omega) HV.out.lq (Nat.pow_lt_pow_right (by decide) (by omega))).mono ?_
      rintro e_ w3 ⟨v7, rfl, s7, b7⟩
      have H3 := Lib.hid (And.intro s7 (And.intro (H2.out.2.2.1.below b7) (H2.out.2.2.2.trans (b7.mono H2.out.2.2.2.size))))
      clear s7 b7 H2
      go_wp2_with fail
      refine (HDM.out w3 (H.out.2.below H3.out.2.2)).mono ?_
      rintro e_ w' ⟨rfl, rfl⟩
      go_wp2_with fail
      refine (up_any _ M D e _ (HPR.out w3 (H.out.2.below H3.out.2.2)) (by omega) (by omega)).mono ?_
      rintro e_ w4 ⟨v8, rfl, s8, b8⟩
      have H4 := Lib.hid (And.intro s8 (And.intro (H3.out.1.below b8) (And.intro (H3.out.2.1.below b8) (H3.out.2.2.trans (b8.mono H3.out.2.2.size)))))
      clear s8 b8 H3
      go_wp2_with fail
      have hlM : 2 ^ e * M < 2 ^ (e + D) := up_lt (by have := HS.out.2.2; rw [HS.out.2.1] at this; exact this)
      refine (radd_any _ v8 R n (2 ^ e * M) (e + D) w4 H4.out.2.2.1 H4.out.1 (by omega) (by omega) HV.out.lr hlM).mono ?_
      rintro e_ w5 ⟨v9, rfl, s9, b9⟩
      have hlt9 := xor_lt_max HV.out.lr hlM
      rw [HMX.out] at s9 hlt9
      have HN := Lib.hid (show RV w w5 v7 v9 A M n (Q ^^^ 2 ^ e) (R ^^^ 2 ^ e * M) (max l (e + 1)) from
        ⟨H4.out.2.2.2.trans (b9.mono H4.out.2.2.2.size), H4.out.2.1.below b9, s9, xor_lt_max HV.out.lq (Nat.pow_lt_pow_right (by decide) (by omega)), hlt9, by omega, HST.out.2⟩)
      clear s9 b9 hlt9 hlM H4
      go_wp2_with fail
      go_roundg (sz (R ^^^ 2 ^ e * M))
      case rel => exact ⟨_, _, _, rfl, HN.out⟩
      case measure => exact HST.out.1
end Go.Proofs.YthiahpkodnfdcaaDoor
