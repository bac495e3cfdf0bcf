/- The walk of chapter 43's law of taking. For every input. No condition. -/
import Derived.Test.YtodflmngbkiemaaW43r
namespace Go.Proofs.Ytodflmngbkiemaa
open Go.RowKit
theorem BX.nextN {w0 w w' : World} {B b o cap b2 o2 cap2 N : Nat} {T : BitVec 64} {bs : List (BitVec 64)} {ls : List Int} (h : BX w0 w B T bs ls b o cap b2 o2 cap2) (hb : Below N w w') (h0 : w0.heap.size ≤ N) (h1 : B < N) (h2 : b < N) (h3 : b2 < N) : BX w0 w' B T bs ls b o cap b2 o2 cap2 :=
  ⟨h.bel.trans (hb.mono h0), h.box.below hb h1, h.cb.belowN hb h2, h.ca.belowN hb h3⟩
theorem TX.nextN {w0 w w' : World} {B N : Nat} {T : BitVec 64} {bs : List (BitVec 64)} {ls : List Int} {vb va : Value} (h : TX w0 w B T bs ls vb va) (hb : Below N w w') (h0 : w0.heap.size ≤ N) (h1 : B < N) (hs : SlV w' vb (vals bs)) (ha : SlV w' va (ints ls)) : TX w0 w' B T bs ls vb va :=
  ⟨h.bel.trans (hb.mono h0), h.box.below hb h1, hs, ha⟩
theorem atakes_long (va : Value) (xs : List (BitVec 64)) (T : BitVec 64) (vb vc : Value) (w : World) (hx : SlV w va (vals xs)) (h60 : 60 < xs.length) :
    Calls Try.prog 12 #[va, .agg #[.int .u64 (ui T), vb, vc]] w fun e w' => e = .returned (.bool true) ∧ Below w.heap.size w w' := by
  obtain ⟨ao, cp, rfl⟩ := slV_len hx
  rw [vals_length]
  have h60' : (60 : Int) < (xs.length : Int) := by omega
  have hb := below_new w (.cells #[.int .u64 (ui T), vb, vc] 27)
  clear hx
  go_enter Try.func12, Try.ntmps12
  go_wp2_with fail
  refine (awake43 _).mono ?_
  rintro e w1 ⟨rfl, b1⟩
  have hb1 := hb.trans (b1.mono hb.size)
  clear b1 hb
  go_wp2_with fail
  go_ret
  exact ⟨rfl, hb1⟩
set_option maxRecDepth 100000 in
theorem atakes_bad (va : Value) (xs : List (BitVec 64)) (T : BitVec 64) (bs : List (BitVec 64)) (ls : List Int) (vb vc : Value) (w : World) (hx : SlV w va (vals xs)) (h60 : xs.length ≤ 60) (hb : SlV w vb (vals bs)) (ha : SlV w vc (ints ls)) (hl : bs.length ≤ 9223372036854775807) (hne : errT T bs ls ≠ 0) :
    Calls Try.prog 12 #[va, .agg #[.int .u64 (ui T), vb, vc]] w fun e w' => e = .returned (.bool true) ∧ Below w.heap.size w w' := by
  obtain ⟨ao, cp, rfl⟩ := slV_len hx
  rw [vals_length] at *
  have h60' : ¬ (60 : Int) < (xs.length : Int) := by omega
  have HX := Lib.hid (TX.new T hb ha)
  have HV := Lib.hid hx
  have HB := Lib.hid (And.intro hb ha)
  have HN := Lib.hid hne
  have hq : (errT T bs ls != 0) = true := by rw [bne_iff_ne]; exact hne
  obtain ⟨q, hq0⟩ : ∃ q, errT T bs ls = q := ⟨_, rfl⟩
  rw [hq0] at hq
  have HQ := Lib.hid hq0
  clear hx hb ha hne hq0
  go_enter Try.func12, Try.ntmps12
  go_wp2_with fail
  refine (awake43 _).mono ?_
  rintro e w1 ⟨rfl, b1⟩
  have H1 := Lib.hid (HX.out.next b1)
  obtain ⟨d0, d1, d2⟩ := tab_cells H1.out.box
  clear b1 HX
  go_wp2_with fail
  refine (new_any _ xs (by omega) _ (HV.out.below H1.out.bel)).mono ?_
  rintro e w2 ⟨B, wv, rfl, hT, hBw, b2⟩
  have H2 := Lib.hid (H1.out.next b2)
  have HT := Lib.hid hT
  have hB1 : w.heap.size ≤ B := Nat.le_trans H1.out.bel.size hBw
  have hB2 : w.heap.size < B := Nat.lt_of_lt_of_le H1.out.box.lt hBw
  clear b2 hT H1 d0 d1 d2 hBw
  obtain ⟨d0, d1, d2⟩ := tab_cells H2.out.box
  go_wp2_with fail
  have hk := atake_bad T bs ls vb vc _ H2.out.sb H2.out.sa hl HN.out B xs 0 wv _ HT.out
  rw [HQ.out] at hk
  refine hk.mono ?_
  rintro e w3 ⟨tv3, rfl, t3, b3⟩
  have hbt := H2.out.bel.trans (b3.mono hB1)
  have H3 := Lib.hid (H2.out.nextN b3 hB1 hB2 (HB.out.1.below hbt) (HB.out.2.below hbt))
  have HT3 := Lib.hid t3
  clear hk b3 t3 hbt H2 HT d0 d1 d2
  obtain ⟨d0, d1, d2⟩ := tab_cells H3.out.box
  go_wp2_with fail
  have hk := rtab_any T bs ls vb vc _ H3.out.sb H3.out.sa hl
  rw [HQ.out] at hk
  refine hk.mono ?_
  rintro e w4 ⟨rfl, b4⟩
  have H4 := Lib.hid (H3.out.next b4)
  have HT4 := Lib.hid (HT3.out.belowS b4)
  clear hk b4 H3 HT3 d0 d1 d2
  obtain ⟨d0, d1, d2⟩ := tab_cells H4.out.box
  go_wp2_with fail
  refine (weights_bad T bs ls vb vc _ H4.out.sb H4.out.sa hl HN.out).mono ?_
  rintro e w5 ⟨rfl, b5⟩
  have H5 := Lib.hid (H4.out.next b5)
  have HT5 := Lib.hid (HT4.out.belowS b5)
  clear b5 H4 HT4 d0 d1 d2
  go_wp2_with fail
  refine (used_any B xs 0 wv _ _ HT5.out).mono ?_
  rintro e w' ⟨rfl, rfl⟩
  go_wp2_with fail
  go_ret
  exact ⟨rfl, H5.out.bel⟩
set_option maxRecDepth 100000 in
set_option maxHeartbeats 1000000 in
theorem atakes_none (T n1 : BitVec 64) (bs : List (BitVec 64)) (ls : List Int) (b o cap b2 o2 cap2 : Nat) (w : World) (hc : SlC w b o (vals bs)) (hc2 : SlC w b2 o2 (ints ls)) (hok : OkT T bs ls) (va : Value) (xs : List (BitVec 64)) (hx : SlV w va (vals xs)) (h60 : xs.length ≤ 60) (_hn1 : BitVec.ofNat 64 bs.length = n1) 
    (hA : ∀ w1 B wv, TapeAt w1 B xs 0 wv (.slice none 0 0) → SlC w1 b o (vals bs) → SlC w1 b2 o2 (ints ls) → b < B → b2 < B → Calls Try.prog 45 #[.pointer (some ⟨B, 0, none⟩), .agg #[.int .u64 (ui T), .slice (some ⟨b, o, none⟩) bs.length cap, .slice (some ⟨b2, o2, none⟩) bs.length cap2]] w1 (ATn w1 B xs xs.length wv 7)) (hR : ∀ w1, SlC w1 b o (vals bs) → SlC w1 b2 o2 (ints ls) → SlV w1 va (vals xs) → Calls Try.prog 46 #[va, .agg #[.int .u64 (ui T), .slice (some ⟨b, o, none⟩) bs.length cap, .slice (some ⟨b2, o2, none⟩) bs.length cap2]] w1 (RTn w1 xs.length)) :
    Calls Try.prog 12 #[va, .agg #[.int .u64 (ui T), .slice (some ⟨b, o, none⟩) bs.length cap, .slice (some ⟨b2, o2, none⟩) bs.length cap2]] w fun e w' => e = .returned (.bool true) ∧ Below w.heap.size w w' := by
  have hbb := hc.lt (by rw [vals_length]; exact hok.n1)
  have hbb2 := hc2.lt (by rw [ints_length, hok.na]; exact hok.n1)
  obtain ⟨ao, cp, rfl⟩ := slV_len hx
  rw [vals_length] at *
  have h60' : ¬ (60 : Int) < (xs.length : Int) := by omega
  have HX := Lib.hid (BX.new T cap cap2 hc hc2)
  have HV := Lib.hid hx
  have HO := Lib.hid hok
  have HA := Lib.hid hA
  have HR := Lib.hid hR
  have hn2 := hok.n2
  clear hx hc hc2 hok hA hR _hn1
  go_enter Try.func12, Try.ntmps12
  go_wp2_with fail
  refine (awake43 _).mono ?_
  rintro e w1 ⟨rfl, b1⟩
  have H1 := Lib.hid (HX.out.next b1)
  obtain ⟨d0, d1, d2⟩ := tab_cells H1.out.box
  clear b1 HX
  go_wp2_with fail
  refine (new_any _ xs (by omega) _ (HV.out.below H1.out.bel)).mono ?_
  rintro e w2 ⟨B, wv, rfl, hT, hBw, b2_⟩
  have H2 := Lib.hid (H1.out.next b2_)
  have HT := Lib.hid hT
  have hB1 : w.heap.size ≤ B := Nat.le_trans H1.out.bel.size hBw
  have hB2 : w.heap.size < B := Nat.lt_of_lt_of_le H1.out.box.lt hBw
  clear b2_ hT H1 d0 d1 d2 hBw
  obtain ⟨d0, d1, d2⟩ := tab_cells H2.out.box
  go_wp2_with fail
  refine (HA.out _ B wv HT.out H2.out.cb H2.out.ca (by omega) (by omega)).mono ?_
  rintro e w3 ⟨tv3, rfl, t3, b3⟩
  have H3 := Lib.hid (H2.out.nextN b3 hB1 hB2 (by omega) (by omega))
  have HT3 := Lib.hid t3
  clear b3 t3 H2 HT d0 d1 d2
  obtain ⟨d0, d1, d2⟩ := tab_cells H3.out.box
  go_wp2_with fail
  have hk := rtab_any T bs ls _ _ _ (H3.out.cb.slB cap) (H3.out.ca.slA HO.out.na cap2) (by omega)
  rw [HO.out.err] at hk
  refine hk.mono ?_
  rintro e w4 ⟨rfl, b4⟩
  have H4 := Lib.hid (H3.out.next b4)
  have HT4 := Lib.hid (HT3.out.belowS b4)
  clear hk b4 H3 HT3 d0 d1 d2
  obtain ⟨d0, d1, d2⟩ := tab_cells H4.out.box
  go_wp2_with fail
  refine (HR.out _ H4.out.cb H4.out.ca (HV.out.below H4.out.bel)).mono ?_
  rintro e w5 ⟨rfl, b5⟩
  have H5 := Lib.hid (H4.out.next b5)
  have HT5 := Lib.hid (HT4.out.belowS b5)
  clear b5 H4 HT4 d0 d1 d2
  go_wp2_with fail
  refine (used_any B xs xs.length wv _ _ HT5.out).mono ?_
  rintro e w' ⟨rfl, rfl⟩
  go_wp2_with fail
  go_ret
  exact ⟨rfl, H5.out.bel⟩
set_option maxRecDepth 100000 in
set_option maxHeartbeats 1000000 in
theorem atakes_both (T n1 : BitVec 64) (bs : List (BitVec 64)) (ls : List Int) (b o cap b2 o2 cap2 : Nat) (w : World) (hc : SlC w b o (vals bs)) (hc2 : SlC w b2 o2 (ints ls)) (hok : OkT T bs ls) (va : Value) (xs : List (BitVec 64)) (hx : SlV w va (vals xs)) (h60 : xs.length ≤ 60) (_hn1 : BitVec.ofNat 64 bs.length = n1) (i : Int) (pos : Nat) (uu : Int) (hpos : (pos : Int) = uu) (a1 r1 : BitVec 64) (u1 : Int) (a2 r2 : BitVec 64) (u2 : Int)
    (hA : ∀ w1 B wv, TapeAt w1 B xs 0 wv (.slice none 0 0) → SlC w1 b o (vals bs) → SlC w1 b2 o2 (ints ls) → b < B → b2 < B → Calls Try.prog 45 #[.pointer (some ⟨B, 0, none⟩), .agg #[.int .u64 (ui T), .slice (some ⟨b, o, none⟩) bs.length cap, .slice (some ⟨b2, o2, none⟩) bs.length cap2]] w1 (ATy w1 B xs pos wv i (drC a1 r1 u1 ++ drC a2 r2 u2))) (hR : ∀ w1, SlC w1 b o (vals bs) → SlC w1 b2 o2 (ints ls) → SlV w1 va (vals xs) → Calls Try.prog 46 #[va, .agg #[.int .u64 (ui T), .slice (some ⟨b, o, none⟩) bs.length cap, .slice (some ⟨b2, o2, none⟩) bs.length cap2]] w1 (RTy w1 i uu (drC a1 r1 u1 ++ drC a2 r2 u2))) :
    Calls Try.prog 12 #[va, .agg #[.int .u64 (ui T), .slice (some ⟨b, o, none⟩) bs.length cap, .slice (some ⟨b2, o2, none⟩) bs.length cap2]] w fun e w' => e = .returned (.bool true) ∧ Below w.heap.size w w' := by
  have hbb := hc.lt (by rw [vals_length]; exact hok.n1)
  have hbb2 := hc2.lt (by rw [ints_length, hok.na]; exact hok.n1)
  obtain ⟨ao, cp, rfl⟩ := slV_len hx
  rw [vals_length] at *
  have h60' : ¬ (60 : Int) < (xs.length : Int) := by omega
  have HX := Lib.hid (BX.new T cap cap2 hc hc2)
  have HV := Lib.hid hx
  have HO := Lib.hid hok
  have HA := Lib.hid hA
  have HR := Lib.hid hR
  have hn2 := hok.n2
  have HP := Lib.hid hpos
  clear hpos
  clear hx hc hc2 hok hA hR _hn1
  go_enter Try.func12, Try.ntmps12
  go_wp2_with fail
  refine (awake43 _).mono ?_
  rintro e w1 ⟨rfl, b1⟩
  have H1 := Lib.hid (HX.out.next b1)
  obtain ⟨d0, d1, d2⟩ := tab_cells H1.out.box
  clear b1 HX
  go_wp2_with fail
  refine (new_any _ xs (by omega) _ (HV.out.below H1.out.bel)).mono ?_
  rintro e w2 ⟨B, wv, rfl, hT, hBw, b2_⟩
  have H2 := Lib.hid (H1.out.next b2_)
  have HT := Lib.hid hT
  have hB1 : w.heap.size ≤ B := Nat.le_trans H1.out.bel.size hBw
  have hB2 : w.heap.size < B := Nat.lt_of_lt_of_le H1.out.box.lt hBw
  clear b2_ hT H1 d0 d1 d2 hBw
  obtain ⟨d0, d1, d2⟩ := tab_cells H2.out.box
  go_wp2_with fail
  refine (HA.out _ B wv HT.out H2.out.cb H2.out.ca (by omega) (by omega)).mono ?_
  rintro e w3 ⟨tv3, v3, rfl, t3, b3, own3⟩
  obtain ⟨g3, cg3, rfl, _, _⟩ := own3.form (by omega)
  have HW3 := Lib.hid own3
  clear own3
  have H3 := Lib.hid (H2.out.nextN b3 hB1 hB2 (by omega) (by omega))
  have HT3 := Lib.hid t3
  clear b3 t3 H2 HT d0 d1 d2
  obtain ⟨d0, d1, d2⟩ := tab_cells H3.out.box
  go_wp2_with fail
  have hk := rtab_any T bs ls _ _ _ (H3.out.cb.slB cap) (H3.out.ca.slA HO.out.na cap2) (by omega)
  rw [HO.out.err] at hk
  refine hk.mono ?_
  rintro e w4 ⟨rfl, b4⟩
  have H4 := Lib.hid (H3.out.next b4)
  have HT4 := Lib.hid (HT3.out.belowS b4)
  have HW4 := Lib.hid (owns_below HW3.out b4)
  clear HW3
  clear hk b4 H3 HT3 d0 d1 d2
  obtain ⟨d0, d1, d2⟩ := tab_cells H4.out.box
  go_wp2_with fail
  refine (HR.out _ H4.out.cb H4.out.ca (HV.out.below H4.out.bel)).mono ?_
  rintro e w5 ⟨v5, rfl, ra5⟩
  obtain ⟨g5, cg5, rfl, _, _⟩ := ra5.own.form (by omega)
  have b5 := ra5.bel
  have HW5 := Lib.hid (And.intro (owns_below HW4.out b5) ra5.own)
  clear ra5 HW4
  have H5 := Lib.hid (H4.out.next b5)
  have HT5 := Lib.hid (HT4.out.belowS b5)
  clear b5 H4 HT4 d0 d1 d2
  go_wp2_with fail
  have hk := used_any B xs pos wv _ _ HT5.out
  rw [HP.out] at hk
  refine hk.mono ?_
  rintro e w' ⟨rfl, rfl⟩
  clear hk
  go_wp2_with fail
  refine (dsame_ok a1 r1 u1 a2 r2 u2 _ _ _ _ _ HW5.out.1 HW5.out.2).mono ?_
  rintro e w6 ⟨rfl, b6⟩
  have H6 := Lib.hid (H5.out.next b6)
  clear b6 H5
  go_wp2_with fail
  go_ret
  exact ⟨rfl, H6.out.bel⟩
theorem first_from (p : BitVec 64 → Bool) (xs : List (BitVec 64)) (k : Nat) (hk : k ≤ xs.length) : (∀ i, k ≤ i → (hi : i < xs.length) → p xs[i] = false) ∨ ∃ j, ∃ hj : j < xs.length, k ≤ j ∧ p xs[j] = true ∧ ∀ i, k ≤ i → (hi : i < j) → p (xs[i]'(by omega)) = false := by
  rcases first_or p (xs.drop k) with h | ⟨j, hj, h1, h2⟩
  · refine .inl fun i hi hx => ?_
    have := h (i - k) (by rw [List.length_drop]; omega)
    rw [List.getElem_drop] at this
    have e : k + (i - k) = i := by omega
    simpa [e] using this
  · rw [List.length_drop] at hj
    rw [List.getElem_drop] at h1
    refine .inr ⟨k + j, by omega, by omega, h1, fun i hi hx => ?_⟩
    have := h2 (i - k) (by omega)
    rw [List.getElem_drop] at this
    have e : k + (i - k) = i := by omega
    simpa [e] using this
theorem mulHi_lt {x n : BitVec 64} (hn : n ≠ 0#64) : (mulHi x n).toNat < n.toNat := by
  rw [mulHi_nat]
  have h0 : 0 < n.toNat := by
    rcases Nat.eq_zero_or_pos n.toNat with h | h
    · exact absurd (BitVec.eq_of_toNat_eq h) hn
    · exact h
  rw [Nat.div_lt_iff_lt_mul (by decide), Nat.mul_comm n.toNat]
  exact Nat.mul_lt_mul_of_pos_right x.isLt h0
theorem atakes_law (va : Value) (xs : List (BitVec 64)) (T : BitVec 64) (bs : List (BitVec 64)) (ls : List Int) (vb vc : Value) (w : World) (hx : SlV w va (vals xs)) (hcap : CapOk va) (hb : SlV w vb (vals bs)) (ha : SlV w vc (ints ls)) (hl : bs.length ≤ 9223372036854775807) :
    Calls Try.prog 12 #[va, .agg #[.int .u64 (ui T), vb, vc]] w fun e w' => e = .returned (.bool true) ∧ Below w.heap.size w w' := by
  by_cases h60 : xs.length ≤ 60
  · by_cases hne : errT T bs ls = 0
    · have hok := okT_of hne
      obtain ⟨b, o, cap, b2, o2, cap2, rfl, rfl, hc, hc2⟩ := ok_open hb ha hok
      clear hb ha
      have hn := hok.n2
      have hn0 := hok.n1
      obtain ⟨n1, hn1⟩ : ∃ n1, BitVec.ofNat 64 bs.length = n1 := ⟨_, rfl⟩
      have hn1n : n1.toNat = bs.length := by rw [← hn1, BitVec.toNat_ofNat, Nat.mod_eq_of_lt (by omega)]
      have hz : (n1 == 0#64) = false := by
        rw [beq_eq_false_iff_ne]; intro e; rw [e] at hn1n; simp at hn1n; omega
      have hz2 : (T == 0#64) = false := by rw [beq_eq_false_iff_ne]; exact hok.t0
      rcases first_from (takesL · n1) xs 0 (Nat.zero_le _) with hno | ⟨j1, hj1, _, ht1, hno1⟩
      · exact atakes_none T n1 bs ls b o cap b2 o2 cap2 w hc hc2 hok va xs hx h60 hn1
          (fun w1 B wv h c1 c2 g1 g2 => atake_none1 T n1 bs ls b o cap b2 o2 cap2 w1 c1 c2 hok B xs wv _ h g1 g2 hn1 hz hno)
          (fun w1 c1 c2 hv => rtake_none T n1 bs ls b o cap b2 o2 cap2 w1 c1 c2 va xs hv hn1 (fun w2 bl cl hL hv2 => row_none1 T n1 va xs bl 0 cl w2 hv2 hcap (by omega) hL (fun i hi => hno i (Nat.zero_le _) hi)))
      · rcases first_from (takesL · T) xs (j1 + 1) hj1 with hno | ⟨j2, hj2, hjj, ht2, hno2⟩
        · exact atakes_none T n1 bs ls b o cap b2 o2 cap2 w hc hc2 hok va xs hx h60 hn1
            (fun w1 B wv h c1 c2 g1 g2 => atake_none2 T n1 bs ls b o cap b2 o2 cap2 w1 c1 c2 hok B xs wv _ h g1 g2 hn1 hz hz2 j1 hj1 ht1 hno1 _ _ _ rfl rfl rfl hno)
            (fun w1 c1 c2 hv => rtake_none T n1 bs ls b o cap b2 o2 cap2 w1 c1 c2 va xs hv hn1 (fun w2 bl cl hL hv2 => row_none2 T n1 va xs bl 0 cl w2 hv2 hcap (by omega) hL j1 hj1 ht1 (fun i hi => hno1 i (Nat.zero_le _) hi) _ _ _ rfl rfl rfl hno))
        · obtain ⟨a1, ha1⟩ : ∃ a, mulHi xs[j1] n1 = a := ⟨_, rfl⟩
          obtain ⟨r1, hr1⟩ : ∃ a, rankL xs[j1] n1 = a := ⟨_, rfl⟩
          obtain ⟨a2, ha2⟩ : ∃ a, mulHi xs[j2] T = a := ⟨_, rfl⟩
          obtain ⟨r2, hr2⟩ : ∃ a, rankL xs[j2] T = a := ⟨_, rfl⟩
          have hn1z : n1 ≠ 0#64 := by simpa using hz
          have q1 : a1.toNat < bs.length := by rw [← ha1, ← hn1n]; exact mulHi_lt hn1z
          have q2 : ui a2 < ui T := by rw [ui_lt_iff, ← ha2]; exact mulHi_lt hok.t0
          exact atakes_both T n1 bs ls b o cap b2 o2 cap2 w hc hc2 hok va xs hx h60 hn1 (tellT bs ls a1.toNat a2) (j2 + 1) (((j1 + 1 : Nat) : Int) + ((j2 - (j1 + 1) + 1 : Nat) : Int)) (by omega) a1 r1 ((j1 + 1 : Nat) : Int) a2 r2 ((j2 - (j1 + 1) + 1 : Nat) : Int)
            (fun w1 B wv h c1 c2 g1 g2 => atake_both T n1 bs ls b o cap b2 o2 cap2 w1 c1 c2 hok B xs wv _ h g1 g2 hn1 hz hz2 j1 hj1 ht1 hno1 a1 r1 _ ha1 hr1 (by omega) j2 hj2 hjj ht2 hno2 a2 r2 _ ha2 hr2 rfl a1.toNat q1 rfl q2)
            (fun w1 c1 c2 hv => rtake_both T n1 bs ls b o cap b2 o2 cap2 w1 c1 c2 hok va xs hv hn1 a1 r1 _ a2 r2 _ a1.toNat q1 rfl (fun w2 bl cl hL hv2 => row_both T n1 va xs bl 0 cl w2 hv2 hcap (by omega) hL j1 hj1 ht1 (fun i hi => hno1 i (Nat.zero_le _) hi) a1 r1 _ ha1 hr1 rfl j2 hj2 hjj ht2 hno2 a2 r2 _ ha2 hr2 rfl))
    · exact atakes_bad va xs T bs ls vb vc w hx h60 hb ha hl hne
  · exact atakes_long va xs T vb vc w hx (by omega)
theorem atakes_law0 (va : Value) (xs : List (BitVec 64)) (T : BitVec 64) (bs : List (BitVec 64)) (ls : List Int) (vb vc : Value) (w : World) (hx : SlV w va (vals xs)) (_hlx : xs.length ≤ 9223372036854775807) (hcap : CapOk va) (hb : SlV w vb (vals bs)) (ha : SlV w vc (ints ls)) (hl : bs.length ≤ 9223372036854775807) :
    Calls Try.prog 12 #[va, .agg #[.int .u64 (ui T), vb, vc]] w fun e w' => e = .returned (.bool true) ∧ Below w.heap.size w w' := atakes_law va xs T bs ls vb vc w hx hcap hb ha hl
end Go.Proofs.Ytodflmngbkiemaa
