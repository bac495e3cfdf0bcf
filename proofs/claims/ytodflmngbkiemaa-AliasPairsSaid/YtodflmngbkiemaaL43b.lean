/- The walk of chapter 43's law of pairs: each is the one of its item and its rank. For every input. No condition. -/
import Derived.Test.YtodflmngbkiemaaL43
namespace Go.Proofs.Ytodflmngbkiemaa
open Go.RowKit
set_option maxRecDepth 100000 in
theorem pairs_bad (T : BitVec 64) (bs : List (BitVec 64)) (ls : List Int) (vb va : Value) (w : World) (hb : SlV w vb (vals bs)) (ha : SlV w va (ints ls)) (hl : bs.length ≤ 9223372036854775807) (hne : errT T bs ls ≠ 0) (c u : BitVec 64) (j : Int) (r : BitVec 64) :
    Calls Try.prog 6 #[.agg #[.int .u64 (ui T), vb, va], .int .u64 (ui c), .int .u64 (ui u), .int .i64 j, .int .u64 (ui r)] w fun e w' => e = .returned (.bool true) ∧ Below w.heap.size w w' := by
  have HX := Lib.hid (TX.new T hb ha)
  have HN := Lib.hid hne
  have hq : (errT T bs ls != 0) = true := by rw [bne_iff_ne]; exact hne
  obtain ⟨q, hq0⟩ : ∃ q, errT T bs ls = q := ⟨_, rfl⟩
  rw [hq0] at hq
  have HQ := Lib.hid hq0
  clear hb ha hne hq0
  go_enter Try.func6, Try.ntmps6
  go_wp2_with fail
  refine (awake43 _).mono ?_
  rintro e w1 ⟨rfl, b1⟩
  have H1 := Lib.hid (HX.out.next b1)
  clear b1 HX
  obtain ⟨d0, d1, d2⟩ := tab_cells H1.out.box
  go_wp2_with fail
  have hk := rtab_any T bs ls vb va _ H1.out.sb H1.out.sa hl
  rw [HQ.out] at hk
  refine hk.mono ?_
  rintro e w2 ⟨rfl, b2⟩
  have H2 := Lib.hid (H1.out.next b2)
  clear b2 H1 hk d0 d1 d2
  obtain ⟨d0, d1, d2⟩ := tab_cells H2.out.box
  go_wp2_with fail
  have hk := pair_bad T bs ls vb va _ H2.out.sb H2.out.sa hl HN.out j r
  rw [HQ.out] at hk
  refine hk.mono ?_
  rintro e w3 ⟨rfl, b3⟩
  have H3 := Lib.hid (H2.out.next b3)
  clear b3 H2 hk d0 d1 d2
  obtain ⟨d0, d1, d2⟩ := tab_cells H3.out.box
  go_wp2_with fail
  have hk := rtab_any T bs ls vb va _ H3.out.sb H3.out.sa hl
  rw [HQ.out] at hk
  refine hk.mono ?_
  rintro e w4 ⟨rfl, b4⟩
  have H4 := Lib.hid (H3.out.next b4)
  clear b4 H3 hk d0 d1 d2
  obtain ⟨d0, d1, d2⟩ := tab_cells H4.out.box
  go_wp2_with fail
  go_ret
  exact ⟨rfl, H4.out.bel⟩
set_option maxRecDepth 100000 in
theorem pairs_y_neg (T : BitVec 64) (bs : List (BitVec 64)) (ls : List Int) (b o cap b2 o2 cap2 : Nat) (w : World) (hc : SlC w b o (vals bs)) (hc2 : SlC w b2 o2 (ints ls)) (hok : OkT T bs ls) (c : Nat) (u : BitVec 64) (hcn : c < bs.length) (hu : ui u < ui T) (j : Int) (r : BitVec 64) (hj : j < 0) :
    Calls Try.prog 6 #[.agg #[.int .u64 (ui T), .slice (some ⟨b, o, none⟩) bs.length cap, .slice (some ⟨b2, o2, none⟩) bs.length cap2], .int .u64 (c : Int), .int .u64 (ui u), .int .i64 j, .int .u64 (ui r)] w fun e w' => e = .returned (.bool true) ∧ Below w.heap.size w w' := by
  have HX := Lib.hid (BX.new T cap cap2 hc hc2)
  have HO := Lib.hid hok
  have hn2 := hok.n2
  have hc1 : (c : Int) < ui (BitVec.ofNat 64 bs.length) := by rw [ui_len _ hn2]; omega
  obtain ⟨p1, p2, p3⟩ := rank_pair hok c hcn u hu
  obtain ⟨q1, q2, q3, _⟩ := pair_need hok _ _ c hcn p1 p2
  obtain ⟨t0, t1⟩ := tell_range hok c hcn u
  have HP := Lib.hid (And.intro q2 q3)
  have HW := Lib.hid p3
  clear p1 p2 p3 q2 q3
  clear hc hc2 hok
  go_enter Try.func6, Try.ntmps6
  go_wp2_with fail
  refine (awake43 _).mono ?_
  rintro e w1 ⟨rfl, b1⟩
  have H1 := Lib.hid (HX.out.next b1)
  clear b1 HX
  obtain ⟨d0, d1, d2⟩ := tab_cells H1.out.box
  go_wp2_with fail
  have hk := rtab_any T bs ls _ _ _ (H1.out.cb.slB cap) (H1.out.ca.slA HO.out.na cap2) (by omega)
  rw [HO.out.err] at hk
  refine hk.mono ?_
  rintro e w2 ⟨rfl, b2⟩
  have H2 := Lib.hid (H1.out.next b2)
  clear b2 H1 hk d0 d1 d2
  obtain ⟨d0, d1, d2⟩ := tab_cells H2.out.box
  go_wp2_with fail
  refine (arank_yes T bs ls b o cap b2 o2 cap2 _ H2.out.cb H2.out.ca HO.out c u hcn hu).mono ?_
  rintro e w3 ⟨rfl, b3⟩
  have H3 := Lib.hid (H2.out.next b3)
  clear b3 H2
  clear d0 d1 d2
  obtain ⟨d0, d1, d2⟩ := tab_cells H3.out.box
  go_wp2_with fail
  have hk := pair_yes T bs ls b o cap b2 o2 cap2 _ H3.out.cb H3.out.ca HO.out _ _ t0 t1 q1 c hcn HP.out.1 HP.out.2
  rw [HW.out] at hk
  refine hk.mono ?_
  rintro e w4 ⟨rfl, b4⟩
  have H4 := Lib.hid (H3.out.next b4)
  clear b4 H3 hk d0 d1 d2
  obtain ⟨d0, d1, d2⟩ := tab_cells H4.out.box
  go_wp2_with fail
  refine (pair_out T bs ls b o cap b2 o2 cap2 _ H4.out.cb H4.out.ca HO.out j r (.inl hj)).mono ?_
  rintro e w5 ⟨rfl, b5⟩
  have H5 := Lib.hid (H4.out.next b5)
  clear b5 H4
  clear d0 d1 d2
  obtain ⟨d0, d1, d2⟩ := tab_cells H5.out.box
  go_wp2_with fail
  go_ret
  exact ⟨rfl, H5.out.bel⟩
set_option maxRecDepth 100000 in
theorem pairs_y_big (T : BitVec 64) (bs : List (BitVec 64)) (ls : List Int) (b o cap b2 o2 cap2 : Nat) (w : World) (hc : SlC w b o (vals bs)) (hc2 : SlC w b2 o2 (ints ls)) (hok : OkT T bs ls) (c : Nat) (u : BitVec 64) (hcn : c < bs.length) (hu : ui u < ui T) (j : Int) (r : BitVec 64) (hj : (bs.length : Int) ≤ j) :
    Calls Try.prog 6 #[.agg #[.int .u64 (ui T), .slice (some ⟨b, o, none⟩) bs.length cap, .slice (some ⟨b2, o2, none⟩) bs.length cap2], .int .u64 (c : Int), .int .u64 (ui u), .int .i64 j, .int .u64 (ui r)] w fun e w' => e = .returned (.bool true) ∧ Below w.heap.size w w' := by
  have HX := Lib.hid (BX.new T cap cap2 hc hc2)
  have HO := Lib.hid hok
  have hn2 := hok.n2
  have hc1 : (c : Int) < ui (BitVec.ofNat 64 bs.length) := by rw [ui_len _ hn2]; omega
  obtain ⟨p1, p2, p3⟩ := rank_pair hok c hcn u hu
  obtain ⟨q1, q2, q3, _⟩ := pair_need hok _ _ c hcn p1 p2
  obtain ⟨t0, t1⟩ := tell_range hok c hcn u
  have HP := Lib.hid (And.intro q2 q3)
  have HW := Lib.hid p3
  clear p1 p2 p3 q2 q3
  have hj1 : ¬ j < 0 := by omega
  clear hc hc2 hok
  go_enter Try.func6, Try.ntmps6
  go_wp2_with fail
  refine (awake43 _).mono ?_
  rintro e w1 ⟨rfl, b1⟩
  have H1 := Lib.hid (HX.out.next b1)
  clear b1 HX
  obtain ⟨d0, d1, d2⟩ := tab_cells H1.out.box
  go_wp2_with fail
  have hk := rtab_any T bs ls _ _ _ (H1.out.cb.slB cap) (H1.out.ca.slA HO.out.na cap2) (by omega)
  rw [HO.out.err] at hk
  refine hk.mono ?_
  rintro e w2 ⟨rfl, b2⟩
  have H2 := Lib.hid (H1.out.next b2)
  clear b2 H1 hk d0 d1 d2
  obtain ⟨d0, d1, d2⟩ := tab_cells H2.out.box
  go_wp2_with fail
  refine (arank_yes T bs ls b o cap b2 o2 cap2 _ H2.out.cb H2.out.ca HO.out c u hcn hu).mono ?_
  rintro e w3 ⟨rfl, b3⟩
  have H3 := Lib.hid (H2.out.next b3)
  clear b3 H2
  clear d0 d1 d2
  obtain ⟨d0, d1, d2⟩ := tab_cells H3.out.box
  go_wp2_with fail
  have hk := pair_yes T bs ls b o cap b2 o2 cap2 _ H3.out.cb H3.out.ca HO.out _ _ t0 t1 q1 c hcn HP.out.1 HP.out.2
  rw [HW.out] at hk
  refine hk.mono ?_
  rintro e w4 ⟨rfl, b4⟩
  have H4 := Lib.hid (H3.out.next b4)
  clear b4 H3 hk d0 d1 d2
  obtain ⟨d0, d1, d2⟩ := tab_cells H4.out.box
  go_wp2_with fail
  refine (pair_out T bs ls b o cap b2 o2 cap2 _ H4.out.cb H4.out.ca HO.out j r (.inr hj)).mono ?_
  rintro e w5 ⟨rfl, b5⟩
  have H5 := Lib.hid (H4.out.next b5)
  clear b5 H4
  clear d0 d1 d2
  obtain ⟨d0, d1, d2⟩ := tab_cells H5.out.box
  go_wp2_with fail
  go_ret
  exact ⟨rfl, H5.out.bel⟩
set_option maxRecDepth 100000 in
theorem pairs_y_over (T : BitVec 64) (bs : List (BitVec 64)) (ls : List Int) (b o cap b2 o2 cap2 : Nat) (w : World) (hc : SlC w b o (vals bs)) (hc2 : SlC w b2 o2 (ints ls)) (hok : OkT T bs ls) (c : Nat) (u : BitVec 64) (hcn : c < bs.length) (hu : ui u < ui T) (j : Int) (r : BitVec 64) (h0 : 0 ≤ j) (h1 : j < (bs.length : Int)) (hr : ui (wS bs ls j T bs.length) ≤ ui r) :
    Calls Try.prog 6 #[.agg #[.int .u64 (ui T), .slice (some ⟨b, o, none⟩) bs.length cap, .slice (some ⟨b2, o2, none⟩) bs.length cap2], .int .u64 (c : Int), .int .u64 (ui u), .int .i64 j, .int .u64 (ui r)] w fun e w' => e = .returned (.bool true) ∧ Below w.heap.size w w' := by
  have HX := Lib.hid (BX.new T cap cap2 hc hc2)
  have HO := Lib.hid hok
  have hn2 := hok.n2
  have hc1 : (c : Int) < ui (BitVec.ofNat 64 bs.length) := by rw [ui_len _ hn2]; omega
  obtain ⟨p1, p2, p3⟩ := rank_pair hok c hcn u hu
  obtain ⟨q1, q2, q3, _⟩ := pair_need hok _ _ c hcn p1 p2
  obtain ⟨t0, t1⟩ := tell_range hok c hcn u
  have HP := Lib.hid (And.intro q2 q3)
  have HW := Lib.hid p3
  clear p1 p2 p3 q2 q3
  have hj1 : ¬ j < 0 := by omega
  clear hc hc2 hok
  go_enter Try.func6, Try.ntmps6
  go_wp2_with fail
  refine (awake43 _).mono ?_
  rintro e w1 ⟨rfl, b1⟩
  have H1 := Lib.hid (HX.out.next b1)
  clear b1 HX
  obtain ⟨d0, d1, d2⟩ := tab_cells H1.out.box
  go_wp2_with fail
  have hk := rtab_any T bs ls _ _ _ (H1.out.cb.slB cap) (H1.out.ca.slA HO.out.na cap2) (by omega)
  rw [HO.out.err] at hk
  refine hk.mono ?_
  rintro e w2 ⟨rfl, b2⟩
  have H2 := Lib.hid (H1.out.next b2)
  clear b2 H1 hk d0 d1 d2
  obtain ⟨d0, d1, d2⟩ := tab_cells H2.out.box
  go_wp2_with fail
  refine (arank_yes T bs ls b o cap b2 o2 cap2 _ H2.out.cb H2.out.ca HO.out c u hcn hu).mono ?_
  rintro e w3 ⟨rfl, b3⟩
  have H3 := Lib.hid (H2.out.next b3)
  clear b3 H2
  clear d0 d1 d2
  obtain ⟨d0, d1, d2⟩ := tab_cells H3.out.box
  go_wp2_with fail
  have hk := pair_yes T bs ls b o cap b2 o2 cap2 _ H3.out.cb H3.out.ca HO.out _ _ t0 t1 q1 c hcn HP.out.1 HP.out.2
  rw [HW.out] at hk
  refine hk.mono ?_
  rintro e w4 ⟨rfl, b4⟩
  have H4 := Lib.hid (H3.out.next b4)
  clear b4 H3 hk d0 d1 d2
  obtain ⟨d0, d1, d2⟩ := tab_cells H4.out.box
  go_wp2_with fail
  refine (pair_over T bs ls b o cap b2 o2 cap2 _ H4.out.cb H4.out.ca HO.out j r h0 h1 (by omega)).mono ?_
  rintro e w5 ⟨rfl, b5⟩
  have H5 := Lib.hid (H4.out.next b5)
  clear b5 H4
  clear d0 d1 d2
  obtain ⟨d0, d1, d2⟩ := tab_cells H5.out.box
  go_wp2_with fail
  refine (rweight_any T bs ls b o cap b2 o2 cap2 _ H5.out.cb H5.out.ca HO.out j).mono ?_
  rintro e w6 ⟨rfl, b6⟩
  have H6 := Lib.hid (H5.out.next b6)
  clear b6 H5
  clear d0 d1 d2
  obtain ⟨d0, d1, d2⟩ := tab_cells H6.out.box
  go_wp2_with fail
  go_ret
  exact ⟨rfl, H6.out.bel⟩
set_option maxRecDepth 100000 in
theorem pairs_y_yes (T : BitVec 64) (bs : List (BitVec 64)) (ls : List Int) (b o cap b2 o2 cap2 : Nat) (w : World) (hc : SlC w b o (vals bs)) (hc2 : SlC w b2 o2 (ints ls)) (hok : OkT T bs ls) (c : Nat) (u : BitVec 64) (hcn : c < bs.length) (hu : ui u < ui T) (j : Int) (r : BitVec 64) (h0 : 0 ≤ j) (h1 : j < (bs.length : Int)) (hr : ui r < ui (wS bs ls j T bs.length)) :
    Calls Try.prog 6 #[.agg #[.int .u64 (ui T), .slice (some ⟨b, o, none⟩) bs.length cap, .slice (some ⟨b2, o2, none⟩) bs.length cap2], .int .u64 (c : Int), .int .u64 (ui u), .int .i64 j, .int .u64 (ui r)] w fun e w' => e = .returned (.bool true) ∧ Below w.heap.size w w' := by
  have HX := Lib.hid (BX.new T cap cap2 hc hc2)
  have HO := Lib.hid hok
  have hn2 := hok.n2
  have hc1 : (c : Int) < ui (BitVec.ofNat 64 bs.length) := by rw [ui_len _ hn2]; omega
  obtain ⟨p1, p2, p3⟩ := rank_pair hok c hcn u hu
  obtain ⟨q1, q2, q3, _⟩ := pair_need hok _ _ c hcn p1 p2
  obtain ⟨t0, t1⟩ := tell_range hok c hcn u
  have HP := Lib.hid (And.intro q2 q3)
  have HW := Lib.hid p3
  clear p1 p2 p3 q2 q3
  have hr2 : ¬ ui (wS bs ls j T bs.length) ≤ ui r := by omega
  have hj1 : ¬ j < 0 := by omega
  obtain ⟨k, hkn, k1, k2⟩ := sumN_place (wN T bs ls j) bs.length r.toNat (by have := (ui_lt_iff r (wS bs ls j T bs.length)).1 hr; rwa [(wS_nat hok j bs.length (Nat.le_refl _)).1] at this)
  obtain ⟨m1, m2, m3, _⟩ := pair_need hok j r k hkn k1 k2
  obtain ⟨m4, m5, m6⟩ := pair_rank hok j r k hkn k1 k2
  have hk1 : (k : Int) < ui (BitVec.ofNat 64 bs.length) := by rw [ui_len _ hn2]; omega
  have HM := Lib.hid (And.intro m2 m3)
  obtain ⟨y, hy⟩ : ∃ y, withB bs k j (r - wS bs ls j T k) = y := ⟨_, rfl⟩
  rw [hy] at m4 m5 m6
  have HY := Lib.hid hy
  have HT := Lib.hid m5
  have HA := Lib.hid ((aS_gt (bs := bs) (ls := ls) (j := j) (T := T) (u := y) bs.length hkn).trans m6)
  clear m1 m2 m3 m5 m6 hy k1 k2
  clear hc hc2 hok
  go_enter Try.func6, Try.ntmps6
  go_wp2_with fail
  refine (awake43 _).mono ?_
  rintro e w1 ⟨rfl, b1⟩
  have H1 := Lib.hid (HX.out.next b1)
  clear b1 HX
  obtain ⟨d0, d1, d2⟩ := tab_cells H1.out.box
  go_wp2_with fail
  have hk := rtab_any T bs ls _ _ _ (H1.out.cb.slB cap) (H1.out.ca.slA HO.out.na cap2) (by omega)
  rw [HO.out.err] at hk
  refine hk.mono ?_
  rintro e w2 ⟨rfl, b2⟩
  have H2 := Lib.hid (H1.out.next b2)
  clear b2 H1 hk d0 d1 d2
  obtain ⟨d0, d1, d2⟩ := tab_cells H2.out.box
  go_wp2_with fail
  refine (arank_yes T bs ls b o cap b2 o2 cap2 _ H2.out.cb H2.out.ca HO.out c u hcn hu).mono ?_
  rintro e w3 ⟨rfl, b3⟩
  have H3 := Lib.hid (H2.out.next b3)
  clear b3 H2
  clear d0 d1 d2
  obtain ⟨d0, d1, d2⟩ := tab_cells H3.out.box
  go_wp2_with fail
  have hk := pair_yes T bs ls b o cap b2 o2 cap2 _ H3.out.cb H3.out.ca HO.out _ _ t0 t1 q1 c hcn HP.out.1 HP.out.2
  rw [HW.out] at hk
  refine hk.mono ?_
  rintro e w4 ⟨rfl, b4⟩
  have H4 := Lib.hid (H3.out.next b4)
  clear b4 H3 hk d0 d1 d2
  obtain ⟨d0, d1, d2⟩ := tab_cells H4.out.box
  go_wp2_with fail
  have hk := pair_yes T bs ls b o cap b2 o2 cap2 _ H4.out.cb H4.out.ca HO.out j r h0 h1 hr k hkn HM.out.1 HM.out.2
  rw [HY.out] at hk
  refine hk.mono ?_
  rintro e w5 ⟨rfl, b5⟩
  have H5 := Lib.hid (H4.out.next b5)
  clear b5 H4 hk d0 d1 d2
  obtain ⟨d0, d1, d2⟩ := tab_cells H5.out.box
  go_wp2_with fail
  refine (rweight_any T bs ls b o cap b2 o2 cap2 _ H5.out.cb H5.out.ca HO.out j).mono ?_
  rintro e w6 ⟨rfl, b6⟩
  have H6 := Lib.hid (H5.out.next b6)
  clear b6 H5
  clear d0 d1 d2
  obtain ⟨d0, d1, d2⟩ := tab_cells H6.out.box
  go_wp2_with fail
  have hk := rtell_any T bs ls b o cap b2 o2 cap2 _ H6.out.cb H6.out.ca HO.out k y hkn
  rw [HT.out] at hk
  refine hk.mono ?_
  rintro e w7 ⟨rfl, b7⟩
  have H7 := Lib.hid (H6.out.next b7)
  clear b7 H6 hk d0 d1 d2
  obtain ⟨d0, d1, d2⟩ := tab_cells H7.out.box
  go_wp2_with fail
  have hk := ahead_any T bs ls b o cap b2 o2 cap2 _ H7.out.cb H7.out.ca HO.out k y j hkn
  rw [HA.out] at hk
  refine hk.mono ?_
  rintro e w8 ⟨rfl, b8⟩
  have H8 := Lib.hid (H7.out.next b8)
  clear b8 H7 hk d0 d1 d2
  obtain ⟨d0, d1, d2⟩ := tab_cells H8.out.box
  go_wp2_with fail
  go_ret
  exact ⟨rfl, H8.out.bel⟩
set_option maxRecDepth 100000 in
theorem pairs_nc_neg (T : BitVec 64) (bs : List (BitVec 64)) (ls : List Int) (b o cap b2 o2 cap2 : Nat) (w : World) (hc : SlC w b o (vals bs)) (hc2 : SlC w b2 o2 (ints ls)) (hok : OkT T bs ls) (c u : BitVec 64) (hc0 : (bs.length : Int) ≤ ui c) (j : Int) (r : BitVec 64) (hj : j < 0) :
    Calls Try.prog 6 #[.agg #[.int .u64 (ui T), .slice (some ⟨b, o, none⟩) bs.length cap, .slice (some ⟨b2, o2, none⟩) bs.length cap2], .int .u64 (ui c), .int .u64 (ui u), .int .i64 j, .int .u64 (ui r)] w fun e w' => e = .returned (.bool true) ∧ Below w.heap.size w w' := by
  have HX := Lib.hid (BX.new T cap cap2 hc hc2)
  have HO := Lib.hid hok
  have hn2 := hok.n2
  have hc1 : ¬ ui c < ui (BitVec.ofNat 64 bs.length) := by rw [ui_len _ hn2]; omega
  clear hc0
  clear hc hc2 hok
  go_enter Try.func6, Try.ntmps6
  go_wp2_with fail
  refine (awake43 _).mono ?_
  rintro e w1 ⟨rfl, b1⟩
  have H1 := Lib.hid (HX.out.next b1)
  clear b1 HX
  obtain ⟨d0, d1, d2⟩ := tab_cells H1.out.box
  go_wp2_with fail
  have hk := rtab_any T bs ls _ _ _ (H1.out.cb.slB cap) (H1.out.ca.slA HO.out.na cap2) (by omega)
  rw [HO.out.err] at hk
  refine hk.mono ?_
  rintro e w2 ⟨rfl, b2⟩
  have H2 := Lib.hid (H1.out.next b2)
  clear b2 H1 hk d0 d1 d2
  obtain ⟨d0, d1, d2⟩ := tab_cells H2.out.box
  go_wp2_with fail
  refine (pair_out T bs ls b o cap b2 o2 cap2 _ H2.out.cb H2.out.ca HO.out j r (.inl hj)).mono ?_
  rintro e w3 ⟨rfl, b3⟩
  have H3 := Lib.hid (H2.out.next b3)
  clear b3 H2
  clear d0 d1 d2
  obtain ⟨d0, d1, d2⟩ := tab_cells H3.out.box
  go_wp2_with fail
  go_ret
  exact ⟨rfl, H3.out.bel⟩
set_option maxRecDepth 100000 in
theorem pairs_nc_big (T : BitVec 64) (bs : List (BitVec 64)) (ls : List Int) (b o cap b2 o2 cap2 : Nat) (w : World) (hc : SlC w b o (vals bs)) (hc2 : SlC w b2 o2 (ints ls)) (hok : OkT T bs ls) (c u : BitVec 64) (hc0 : (bs.length : Int) ≤ ui c) (j : Int) (r : BitVec 64) (hj : (bs.length : Int) ≤ j) :
    Calls Try.prog 6 #[.agg #[.int .u64 (ui T), .slice (some ⟨b, o, none⟩) bs.length cap, .slice (some ⟨b2, o2, none⟩) bs.length cap2], .int .u64 (ui c), .int .u64 (ui u), .int .i64 j, .int .u64 (ui r)] w fun e w' => e = .returned (.bool true) ∧ Below w.heap.size w w' := by
  have HX := Lib.hid (BX.new T cap cap2 hc hc2)
  have HO := Lib.hid hok
  have hn2 := hok.n2
  have hc1 : ¬ ui c < ui (BitVec.ofNat 64 bs.length) := by rw [ui_len _ hn2]; omega
  clear hc0
  have hj1 : ¬ j < 0 := by omega
  clear hc hc2 hok
  go_enter Try.func6, Try.ntmps6
  go_wp2_with fail
  refine (awake43 _).mono ?_
  rintro e w1 ⟨rfl, b1⟩
  have H1 := Lib.hid (HX.out.next b1)
  clear b1 HX
  obtain ⟨d0, d1, d2⟩ := tab_cells H1.out.box
  go_wp2_with fail
  have hk := rtab_any T bs ls _ _ _ (H1.out.cb.slB cap) (H1.out.ca.slA HO.out.na cap2) (by omega)
  rw [HO.out.err] at hk
  refine hk.mono ?_
  rintro e w2 ⟨rfl, b2⟩
  have H2 := Lib.hid (H1.out.next b2)
  clear b2 H1 hk d0 d1 d2
  obtain ⟨d0, d1, d2⟩ := tab_cells H2.out.box
  go_wp2_with fail
  refine (pair_out T bs ls b o cap b2 o2 cap2 _ H2.out.cb H2.out.ca HO.out j r (.inr hj)).mono ?_
  rintro e w3 ⟨rfl, b3⟩
  have H3 := Lib.hid (H2.out.next b3)
  clear b3 H2
  clear d0 d1 d2
  obtain ⟨d0, d1, d2⟩ := tab_cells H3.out.box
  go_wp2_with fail
  go_ret
  exact ⟨rfl, H3.out.bel⟩
set_option maxRecDepth 100000 in
theorem pairs_nc_over (T : BitVec 64) (bs : List (BitVec 64)) (ls : List Int) (b o cap b2 o2 cap2 : Nat) (w : World) (hc : SlC w b o (vals bs)) (hc2 : SlC w b2 o2 (ints ls)) (hok : OkT T bs ls) (c u : BitVec 64) (hc0 : (bs.length : Int) ≤ ui c) (j : Int) (r : BitVec 64) (h0 : 0 ≤ j) (h1 : j < (bs.length : Int)) (hr : ui (wS bs ls j T bs.length) ≤ ui r) :
    Calls Try.prog 6 #[.agg #[.int .u64 (ui T), .slice (some ⟨b, o, none⟩) bs.length cap, .slice (some ⟨b2, o2, none⟩) bs.length cap2], .int .u64 (ui c), .int .u64 (ui u), .int .i64 j, .int .u64 (ui r)] w fun e w' => e = .returned (.bool true) ∧ Below w.heap.size w w' := by
  have HX := Lib.hid (BX.new T cap cap2 hc hc2)
  have HO := Lib.hid hok
  have hn2 := hok.n2
  have hc1 : ¬ ui c < ui (BitVec.ofNat 64 bs.length) := by rw [ui_len _ hn2]; omega
  clear hc0
  have hj1 : ¬ j < 0 := by omega
  clear hc hc2 hok
  go_enter Try.func6, Try.ntmps6
  go_wp2_with fail
  refine (awake43 _).mono ?_
  rintro e w1 ⟨rfl, b1⟩
  have H1 := Lib.hid (HX.out.next b1)
  clear b1 HX
  obtain ⟨d0, d1, d2⟩ := tab_cells H1.out.box
  go_wp2_with fail
  have hk := rtab_any T bs ls _ _ _ (H1.out.cb.slB cap) (H1.out.ca.slA HO.out.na cap2) (by omega)
  rw [HO.out.err] at hk
  refine hk.mono ?_
  rintro e w2 ⟨rfl, b2⟩
  have H2 := Lib.hid (H1.out.next b2)
  clear b2 H1 hk d0 d1 d2
  obtain ⟨d0, d1, d2⟩ := tab_cells H2.out.box
  go_wp2_with fail
  refine (pair_over T bs ls b o cap b2 o2 cap2 _ H2.out.cb H2.out.ca HO.out j r h0 h1 (by omega)).mono ?_
  rintro e w3 ⟨rfl, b3⟩
  have H3 := Lib.hid (H2.out.next b3)
  clear b3 H2
  clear d0 d1 d2
  obtain ⟨d0, d1, d2⟩ := tab_cells H3.out.box
  go_wp2_with fail
  refine (rweight_any T bs ls b o cap b2 o2 cap2 _ H3.out.cb H3.out.ca HO.out j).mono ?_
  rintro e w4 ⟨rfl, b4⟩
  have H4 := Lib.hid (H3.out.next b4)
  clear b4 H3
  clear d0 d1 d2
  obtain ⟨d0, d1, d2⟩ := tab_cells H4.out.box
  go_wp2_with fail
  go_ret
  exact ⟨rfl, H4.out.bel⟩
set_option maxRecDepth 100000 in
theorem pairs_nc_yes (T : BitVec 64) (bs : List (BitVec 64)) (ls : List Int) (b o cap b2 o2 cap2 : Nat) (w : World) (hc : SlC w b o (vals bs)) (hc2 : SlC w b2 o2 (ints ls)) (hok : OkT T bs ls) (c u : BitVec 64) (hc0 : (bs.length : Int) ≤ ui c) (j : Int) (r : BitVec 64) (h0 : 0 ≤ j) (h1 : j < (bs.length : Int)) (hr : ui r < ui (wS bs ls j T bs.length)) :
    Calls Try.prog 6 #[.agg #[.int .u64 (ui T), .slice (some ⟨b, o, none⟩) bs.length cap, .slice (some ⟨b2, o2, none⟩) bs.length cap2], .int .u64 (ui c), .int .u64 (ui u), .int .i64 j, .int .u64 (ui r)] w fun e w' => e = .returned (.bool true) ∧ Below w.heap.size w w' := by
  have HX := Lib.hid (BX.new T cap cap2 hc hc2)
  have HO := Lib.hid hok
  have hn2 := hok.n2
  have hc1 : ¬ ui c < ui (BitVec.ofNat 64 bs.length) := by rw [ui_len _ hn2]; omega
  clear hc0
  have hr2 : ¬ ui (wS bs ls j T bs.length) ≤ ui r := by omega
  have hj1 : ¬ j < 0 := by omega
  obtain ⟨k, hkn, k1, k2⟩ := sumN_place (wN T bs ls j) bs.length r.toNat (by have := (ui_lt_iff r (wS bs ls j T bs.length)).1 hr; rwa [(wS_nat hok j bs.length (Nat.le_refl _)).1] at this)
  obtain ⟨m1, m2, m3, _⟩ := pair_need hok j r k hkn k1 k2
  obtain ⟨m4, m5, m6⟩ := pair_rank hok j r k hkn k1 k2
  have hk1 : (k : Int) < ui (BitVec.ofNat 64 bs.length) := by rw [ui_len _ hn2]; omega
  have HM := Lib.hid (And.intro m2 m3)
  obtain ⟨y, hy⟩ : ∃ y, withB bs k j (r - wS bs ls j T k) = y := ⟨_, rfl⟩
  rw [hy] at m4 m5 m6
  have HY := Lib.hid hy
  have HT := Lib.hid m5
  have HA := Lib.hid ((aS_gt (bs := bs) (ls := ls) (j := j) (T := T) (u := y) bs.length hkn).trans m6)
  clear m1 m2 m3 m5 m6 hy k1 k2
  clear hc hc2 hok
  go_enter Try.func6, Try.ntmps6
  go_wp2_with fail
  refine (awake43 _).mono ?_
  rintro e w1 ⟨rfl, b1⟩
  have H1 := Lib.hid (HX.out.next b1)
  clear b1 HX
  obtain ⟨d0, d1, d2⟩ := tab_cells H1.out.box
  go_wp2_with fail
  have hk := rtab_any T bs ls _ _ _ (H1.out.cb.slB cap) (H1.out.ca.slA HO.out.na cap2) (by omega)
  rw [HO.out.err] at hk
  refine hk.mono ?_
  rintro e w2 ⟨rfl, b2⟩
  have H2 := Lib.hid (H1.out.next b2)
  clear b2 H1 hk d0 d1 d2
  obtain ⟨d0, d1, d2⟩ := tab_cells H2.out.box
  go_wp2_with fail
  have hk := pair_yes T bs ls b o cap b2 o2 cap2 _ H2.out.cb H2.out.ca HO.out j r h0 h1 hr k hkn HM.out.1 HM.out.2
  rw [HY.out] at hk
  refine hk.mono ?_
  rintro e w3 ⟨rfl, b3⟩
  have H3 := Lib.hid (H2.out.next b3)
  clear b3 H2 hk d0 d1 d2
  obtain ⟨d0, d1, d2⟩ := tab_cells H3.out.box
  go_wp2_with fail
  refine (rweight_any T bs ls b o cap b2 o2 cap2 _ H3.out.cb H3.out.ca HO.out j).mono ?_
  rintro e w4 ⟨rfl, b4⟩
  have H4 := Lib.hid (H3.out.next b4)
  clear b4 H3
  clear d0 d1 d2
  obtain ⟨d0, d1, d2⟩ := tab_cells H4.out.box
  go_wp2_with fail
  have hk := rtell_any T bs ls b o cap b2 o2 cap2 _ H4.out.cb H4.out.ca HO.out k y hkn
  rw [HT.out] at hk
  refine hk.mono ?_
  rintro e w5 ⟨rfl, b5⟩
  have H5 := Lib.hid (H4.out.next b5)
  clear b5 H4 hk d0 d1 d2
  obtain ⟨d0, d1, d2⟩ := tab_cells H5.out.box
  go_wp2_with fail
  have hk := ahead_any T bs ls b o cap b2 o2 cap2 _ H5.out.cb H5.out.ca HO.out k y j hkn
  rw [HA.out] at hk
  refine hk.mono ?_
  rintro e w6 ⟨rfl, b6⟩
  have H6 := Lib.hid (H5.out.next b6)
  clear b6 H5 hk d0 d1 d2
  obtain ⟨d0, d1, d2⟩ := tab_cells H6.out.box
  go_wp2_with fail
  go_ret
  exact ⟨rfl, H6.out.bel⟩
set_option maxRecDepth 100000 in
theorem pairs_nu_neg (T : BitVec 64) (bs : List (BitVec 64)) (ls : List Int) (b o cap b2 o2 cap2 : Nat) (w : World) (hc : SlC w b o (vals bs)) (hc2 : SlC w b2 o2 (ints ls)) (hok : OkT T bs ls) (c u : BitVec 64) (hc0 : ui c < (bs.length : Int)) (hu : ui T ≤ ui u) (j : Int) (r : BitVec 64) (hj : j < 0) :
    Calls Try.prog 6 #[.agg #[.int .u64 (ui T), .slice (some ⟨b, o, none⟩) bs.length cap, .slice (some ⟨b2, o2, none⟩) bs.length cap2], .int .u64 (ui c), .int .u64 (ui u), .int .i64 j, .int .u64 (ui r)] w fun e w' => e = .returned (.bool true) ∧ Below w.heap.size w w' := by
  have HX := Lib.hid (BX.new T cap cap2 hc hc2)
  have HO := Lib.hid hok
  have hn2 := hok.n2
  have hc1 : ui c < ui (BitVec.ofNat 64 bs.length) := by rw [ui_len _ hn2]; exact hc0
  have hu1 : ¬ ui u < ui T := by omega
  clear hc0
  clear hc hc2 hok
  go_enter Try.func6, Try.ntmps6
  go_wp2_with fail
  refine (awake43 _).mono ?_
  rintro e w1 ⟨rfl, b1⟩
  have H1 := Lib.hid (HX.out.next b1)
  clear b1 HX
  obtain ⟨d0, d1, d2⟩ := tab_cells H1.out.box
  go_wp2_with fail
  have hk := rtab_any T bs ls _ _ _ (H1.out.cb.slB cap) (H1.out.ca.slA HO.out.na cap2) (by omega)
  rw [HO.out.err] at hk
  refine hk.mono ?_
  rintro e w2 ⟨rfl, b2⟩
  have H2 := Lib.hid (H1.out.next b2)
  clear b2 H1 hk d0 d1 d2
  obtain ⟨d0, d1, d2⟩ := tab_cells H2.out.box
  go_wp2_with fail
  refine (pair_out T bs ls b o cap b2 o2 cap2 _ H2.out.cb H2.out.ca HO.out j r (.inl hj)).mono ?_
  rintro e w3 ⟨rfl, b3⟩
  have H3 := Lib.hid (H2.out.next b3)
  clear b3 H2
  clear d0 d1 d2
  obtain ⟨d0, d1, d2⟩ := tab_cells H3.out.box
  go_wp2_with fail
  go_ret
  exact ⟨rfl, H3.out.bel⟩
set_option maxRecDepth 100000 in
theorem pairs_nu_big (T : BitVec 64) (bs : List (BitVec 64)) (ls : List Int) (b o cap b2 o2 cap2 : Nat) (w : World) (hc : SlC w b o (vals bs)) (hc2 : SlC w b2 o2 (ints ls)) (hok : OkT T bs ls) (c u : BitVec 64) (hc0 : ui c < (bs.length : Int)) (hu : ui T ≤ ui u) (j : Int) (r : BitVec 64) (hj : (bs.length : Int) ≤ j) :
    Calls Try.prog 6 #[.agg #[.int .u64 (ui T), .slice (some ⟨b, o, none⟩) bs.length cap, .slice (some ⟨b2, o2, none⟩) bs.length cap2], .int .u64 (ui c), .int .u64 (ui u), .int .i64 j, .int .u64 (ui r)] w fun e w' => e = .returned (.bool true) ∧ Below w.heap.size w w' := by
  have HX := Lib.hid (BX.new T cap cap2 hc hc2)
  have HO := Lib.hid hok
  have hn2 := hok.n2
  have hc1 : ui c < ui (BitVec.ofNat 64 bs.length) := by rw [ui_len _ hn2]; exact hc0
  have hu1 : ¬ ui u < ui T := by omega
  clear hc0
  have hj1 : ¬ j < 0 := by omega
  clear hc hc2 hok
  go_enter Try.func6, Try.ntmps6
  go_wp2_with fail
  refine (awake43 _).mono ?_
  rintro e w1 ⟨rfl, b1⟩
  have H1 := Lib.hid (HX.out.next b1)
  clear b1 HX
  obtain ⟨d0, d1, d2⟩ := tab_cells H1.out.box
  go_wp2_with fail
  have hk := rtab_any T bs ls _ _ _ (H1.out.cb.slB cap) (H1.out.ca.slA HO.out.na cap2) (by omega)
  rw [HO.out.err] at hk
  refine hk.mono ?_
  rintro e w2 ⟨rfl, b2⟩
  have H2 := Lib.hid (H1.out.next b2)
  clear b2 H1 hk d0 d1 d2
  obtain ⟨d0, d1, d2⟩ := tab_cells H2.out.box
  go_wp2_with fail
  refine (pair_out T bs ls b o cap b2 o2 cap2 _ H2.out.cb H2.out.ca HO.out j r (.inr hj)).mono ?_
  rintro e w3 ⟨rfl, b3⟩
  have H3 := Lib.hid (H2.out.next b3)
  clear b3 H2
  clear d0 d1 d2
  obtain ⟨d0, d1, d2⟩ := tab_cells H3.out.box
  go_wp2_with fail
  go_ret
  exact ⟨rfl, H3.out.bel⟩
set_option maxRecDepth 100000 in
theorem pairs_nu_over (T : BitVec 64) (bs : List (BitVec 64)) (ls : List Int) (b o cap b2 o2 cap2 : Nat) (w : World) (hc : SlC w b o (vals bs)) (hc2 : SlC w b2 o2 (ints ls)) (hok : OkT T bs ls) (c u : BitVec 64) (hc0 : ui c < (bs.length : Int)) (hu : ui T ≤ ui u) (j : Int) (r : BitVec 64) (h0 : 0 ≤ j) (h1 : j < (bs.length : Int)) (hr : ui (wS bs ls j T bs.length) ≤ ui r) :
    Calls Try.prog 6 #[.agg #[.int .u64 (ui T), .slice (some ⟨b, o, none⟩) bs.length cap, .slice (some ⟨b2, o2, none⟩) bs.length cap2], .int .u64 (ui c), .int .u64 (ui u), .int .i64 j, .int .u64 (ui r)] w fun e w' => e = .returned (.bool true) ∧ Below w.heap.size w w' := by
  have HX := Lib.hid (BX.new T cap cap2 hc hc2)
  have HO := Lib.hid hok
  have hn2 := hok.n2
  have hc1 : ui c < ui (BitVec.ofNat 64 bs.length) := by rw [ui_len _ hn2]; exact hc0
  have hu1 : ¬ ui u < ui T := by omega
  clear hc0
  have hj1 : ¬ j < 0 := by omega
  clear hc hc2 hok
  go_enter Try.func6, Try.ntmps6
  go_wp2_with fail
  refine (awake43 _).mono ?_
  rintro e w1 ⟨rfl, b1⟩
  have H1 := Lib.hid (HX.out.next b1)
  clear b1 HX
  obtain ⟨d0, d1, d2⟩ := tab_cells H1.out.box
  go_wp2_with fail
  have hk := rtab_any T bs ls _ _ _ (H1.out.cb.slB cap) (H1.out.ca.slA HO.out.na cap2) (by omega)
  rw [HO.out.err] at hk
  refine hk.mono ?_
  rintro e w2 ⟨rfl, b2⟩
  have H2 := Lib.hid (H1.out.next b2)
  clear b2 H1 hk d0 d1 d2
  obtain ⟨d0, d1, d2⟩ := tab_cells H2.out.box
  go_wp2_with fail
  refine (pair_over T bs ls b o cap b2 o2 cap2 _ H2.out.cb H2.out.ca HO.out j r h0 h1 (by omega)).mono ?_
  rintro e w3 ⟨rfl, b3⟩
  have H3 := Lib.hid (H2.out.next b3)
  clear b3 H2
  clear d0 d1 d2
  obtain ⟨d0, d1, d2⟩ := tab_cells H3.out.box
  go_wp2_with fail
  refine (rweight_any T bs ls b o cap b2 o2 cap2 _ H3.out.cb H3.out.ca HO.out j).mono ?_
  rintro e w4 ⟨rfl, b4⟩
  have H4 := Lib.hid (H3.out.next b4)
  clear b4 H3
  clear d0 d1 d2
  obtain ⟨d0, d1, d2⟩ := tab_cells H4.out.box
  go_wp2_with fail
  go_ret
  exact ⟨rfl, H4.out.bel⟩
set_option maxRecDepth 100000 in
theorem pairs_nu_yes (T : BitVec 64) (bs : List (BitVec 64)) (ls : List Int) (b o cap b2 o2 cap2 : Nat) (w : World) (hc : SlC w b o (vals bs)) (hc2 : SlC w b2 o2 (ints ls)) (hok : OkT T bs ls) (c u : BitVec 64) (hc0 : ui c < (bs.length : Int)) (hu : ui T ≤ ui u) (j : Int) (r : BitVec 64) (h0 : 0 ≤ j) (h1 : j < (bs.length : Int)) (hr : ui r < ui (wS bs ls j T bs.length)) :
    Calls Try.prog 6 #[.agg #[.int .u64 (ui T), .slice (some ⟨b, o, none⟩) bs.length cap, .slice (some ⟨b2, o2, none⟩) bs.length cap2], .int .u64 (ui c), .int .u64 (ui u), .int .i64 j, .int .u64 (ui r)] w fun e w' => e = .returned (.bool true) ∧ Below w.heap.size w w' := by
  have HX := Lib.hid (BX.new T cap cap2 hc hc2)
  have HO := Lib.hid hok
  have hn2 := hok.n2
  have hc1 : ui c < ui (BitVec.ofNat 64 bs.length) := by rw [ui_len _ hn2]; exact hc0
  have hu1 : ¬ ui u < ui T := by omega
  clear hc0
  have hr2 : ¬ ui (wS bs ls j T bs.length) ≤ ui r := by omega
  have hj1 : ¬ j < 0 := by omega
  obtain ⟨k, hkn, k1, k2⟩ := sumN_place (wN T bs ls j) bs.length r.toNat (by have := (ui_lt_iff r (wS bs ls j T bs.length)).1 hr; rwa [(wS_nat hok j bs.length (Nat.le_refl _)).1] at this)
  obtain ⟨m1, m2, m3, _⟩ := pair_need hok j r k hkn k1 k2
  obtain ⟨m4, m5, m6⟩ := pair_rank hok j r k hkn k1 k2
  have hk1 : (k : Int) < ui (BitVec.ofNat 64 bs.length) := by rw [ui_len _ hn2]; omega
  have HM := Lib.hid (And.intro m2 m3)
  obtain ⟨y, hy⟩ : ∃ y, withB bs k j (r - wS bs ls j T k) = y := ⟨_, rfl⟩
  rw [hy] at m4 m5 m6
  have HY := Lib.hid hy
  have HT := Lib.hid m5
  have HA := Lib.hid ((aS_gt (bs := bs) (ls := ls) (j := j) (T := T) (u := y) bs.length hkn).trans m6)
  clear m1 m2 m3 m5 m6 hy k1 k2
  clear hc hc2 hok
  go_enter Try.func6, Try.ntmps6
  go_wp2_with fail
  refine (awake43 _).mono ?_
  rintro e w1 ⟨rfl, b1⟩
  have H1 := Lib.hid (HX.out.next b1)
  clear b1 HX
  obtain ⟨d0, d1, d2⟩ := tab_cells H1.out.box
  go_wp2_with fail
  have hk := rtab_any T bs ls _ _ _ (H1.out.cb.slB cap) (H1.out.ca.slA HO.out.na cap2) (by omega)
  rw [HO.out.err] at hk
  refine hk.mono ?_
  rintro e w2 ⟨rfl, b2⟩
  have H2 := Lib.hid (H1.out.next b2)
  clear b2 H1 hk d0 d1 d2
  obtain ⟨d0, d1, d2⟩ := tab_cells H2.out.box
  go_wp2_with fail
  have hk := pair_yes T bs ls b o cap b2 o2 cap2 _ H2.out.cb H2.out.ca HO.out j r h0 h1 hr k hkn HM.out.1 HM.out.2
  rw [HY.out] at hk
  refine hk.mono ?_
  rintro e w3 ⟨rfl, b3⟩
  have H3 := Lib.hid (H2.out.next b3)
  clear b3 H2 hk d0 d1 d2
  obtain ⟨d0, d1, d2⟩ := tab_cells H3.out.box
  go_wp2_with fail
  refine (rweight_any T bs ls b o cap b2 o2 cap2 _ H3.out.cb H3.out.ca HO.out j).mono ?_
  rintro e w4 ⟨rfl, b4⟩
  have H4 := Lib.hid (H3.out.next b4)
  clear b4 H3
  clear d0 d1 d2
  obtain ⟨d0, d1, d2⟩ := tab_cells H4.out.box
  go_wp2_with fail
  have hk := rtell_any T bs ls b o cap b2 o2 cap2 _ H4.out.cb H4.out.ca HO.out k y hkn
  rw [HT.out] at hk
  refine hk.mono ?_
  rintro e w5 ⟨rfl, b5⟩
  have H5 := Lib.hid (H4.out.next b5)
  clear b5 H4 hk d0 d1 d2
  obtain ⟨d0, d1, d2⟩ := tab_cells H5.out.box
  go_wp2_with fail
  have hk := ahead_any T bs ls b o cap b2 o2 cap2 _ H5.out.cb H5.out.ca HO.out k y j hkn
  rw [HA.out] at hk
  refine hk.mono ?_
  rintro e w6 ⟨rfl, b6⟩
  have H6 := Lib.hid (H5.out.next b6)
  clear b6 H5 hk d0 d1 d2
  obtain ⟨d0, d1, d2⟩ := tab_cells H6.out.box
  go_wp2_with fail
  go_ret
  exact ⟨rfl, H6.out.bel⟩
theorem pairs_law (T : BitVec 64) (bs : List (BitVec 64)) (ls : List Int) (vb va : Value) (c u : BitVec 64) (j : Int) (r : BitVec 64) (w : World) (hb : SlV w vb (vals bs)) (ha : SlV w va (ints ls)) (hl : bs.length ≤ 9223372036854775807) :
    Calls Try.prog 6 #[.agg #[.int .u64 (ui T), vb, va], .int .u64 (ui c), .int .u64 (ui u), .int .i64 j, .int .u64 (ui r)] w fun e w' => e = .returned (.bool true) ∧ Below w.heap.size w w' := by
  by_cases hne : errT T bs ls = 0
  · have hok := okT_of hne
    obtain ⟨b, o, cap, b2, o2, cap2, rfl, rfl, hc, hc2⟩ := ok_open hb ha hok
    by_cases hc0 : ui c < (bs.length : Int)
    · by_cases hu : ui u < ui T
      · obtain ⟨k, hk⟩ : ∃ k : Nat, ui c = (k : Int) := ⟨c.toNat, rfl⟩
        rw [hk] at hc0 ⊢
        by_cases hj0 : j < 0
        · exact pairs_y_neg T bs ls b o cap b2 o2 cap2 w hc hc2 hok k u (by omega) hu j r hj0
        · by_cases hj1 : (bs.length : Int) ≤ j
          · exact pairs_y_big T bs ls b o cap b2 o2 cap2 w hc hc2 hok k u (by omega) hu j r hj1
          · by_cases hr : ui r < ui (wS bs ls j T bs.length)
            · exact pairs_y_yes T bs ls b o cap b2 o2 cap2 w hc hc2 hok k u (by omega) hu j r (by omega) (by omega) hr
            · exact pairs_y_over T bs ls b o cap b2 o2 cap2 w hc hc2 hok k u (by omega) hu j r (by omega) (by omega) (by omega)
      · skip
        by_cases hj0 : j < 0
        · exact pairs_nu_neg T bs ls b o cap b2 o2 cap2 w hc hc2 hok c u hc0 (by omega) j r hj0
        · by_cases hj1 : (bs.length : Int) ≤ j
          · exact pairs_nu_big T bs ls b o cap b2 o2 cap2 w hc hc2 hok c u hc0 (by omega) j r hj1
          · by_cases hr : ui r < ui (wS bs ls j T bs.length)
            · exact pairs_nu_yes T bs ls b o cap b2 o2 cap2 w hc hc2 hok c u hc0 (by omega) j r (by omega) (by omega) hr
            · exact pairs_nu_over T bs ls b o cap b2 o2 cap2 w hc hc2 hok c u hc0 (by omega) j r (by omega) (by omega) (by omega)
    · skip
      by_cases hj0 : j < 0
      · exact pairs_nc_neg T bs ls b o cap b2 o2 cap2 w hc hc2 hok c u (by omega) j r hj0
      · by_cases hj1 : (bs.length : Int) ≤ j
        · exact pairs_nc_big T bs ls b o cap b2 o2 cap2 w hc hc2 hok c u (by omega) j r hj1
        · by_cases hr : ui r < ui (wS bs ls j T bs.length)
          · exact pairs_nc_yes T bs ls b o cap b2 o2 cap2 w hc hc2 hok c u (by omega) j r (by omega) (by omega) hr
          · exact pairs_nc_over T bs ls b o cap b2 o2 cap2 w hc hc2 hok c u (by omega) j r (by omega) (by omega) (by omega)
  · exact pairs_bad T bs ls vb va w hb ha hl hne c u j r
end Go.Proofs.Ytodflmngbkiemaa
