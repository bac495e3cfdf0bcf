/- The walks of chapter 43's laws: what a pair tells of any table. For every input. No condition. -/
import Derived.Test.YtodflmngbkiemaaW43h
import Derived.Test.YtodflmngbkiemaaPlAlC
namespace Go.Proofs.Ytodflmngbkiemaa
open Go.RowKit
theorem fin13 : (fin [1#64, 3#64]).bel = [2#64, 4#64] ∧ (fin [1#64, 3#64]).ali = [1, 1] ∧ tS [1#64, 3#64] [1#64, 3#64].length = 4#64 := by decide +kernel
theorem ok13 : OkW [1#64, 3#64] := by
  refine ⟨by decide, by decide, fun i hi => ?_⟩
  have hi2 : i < 2 := hi
  rcases i with _ | _ | i
  · decide
  · decide
  · omega
/-- what Build makes of 1 and 3 -/
def Made13 (w : World) (e : Ending) (w' : World) : Prop := ∃ b1 b2, e = .returned (.tuple #[.agg #[.int .u64 4, .slice (some ⟨b1, 0, none⟩) 2 2, .slice (some ⟨b2, 0, none⟩) 2 2], .int .i64 0]) ∧ w'.cell? ⟨b1, 0, none⟩ = some (.int .u64 2) ∧ w'.cell? ⟨b2, 0, none⟩ = some (.int .i64 1) ∧ b1 < w'.heap.size ∧ b2 < w'.heap.size ∧ Below w.heap.size w w'
theorem build13 (b0 o0 cap : Nat) (w : World) (h0 : w.cell? ⟨b0, o0, none⟩ = some (.int .u64 1)) (h1 : w.cell? ⟨b0, o0 + 1, none⟩ = some (.int .u64 3)) :
    Calls Try.prog 14 #[.slice (some ⟨b0, o0, none⟩) 2 cap] w (Made13 w) := by
  have hc : SlC w b0 o0 (vals [1#64, 3#64]) := by
    intro i u hu
    rcases i with _ | _ | i
    · simp only [vals, List.map_cons, List.getElem?_cons_zero, Option.some.injEq] at hu
      subst hu; exact h0
    · simp only [vals, List.map_cons, List.getElem?_cons_succ, List.getElem?_cons_zero, Option.some.injEq] at hu
      subst hu; exact h1
    · simp [vals] at hu
  obtain ⟨f1, f2, f3⟩ := fin13
  refine (build_ok [1#64, 3#64] b0 o0 cap w hc ok13 (by rw [f3]; decide)).mono ?_
  rintro e w' ⟨b1, b2, rfl, m1, m2, bb⟩
  rw [f1] at m1
  rw [f2] at m2
  rw [f3]
  exact ⟨b1, b2, rfl, m1.cell 0, m2.cell 0, m1.lt, m2.lt, bb⟩
theorem awake43 (w : World) : Calls Try.prog 13 #[] w fun e w' => e = .returned (.bool true) ∧ Below w.heap.size w w' := by
  go_enter Try.func13, Try.ntmps13
  go_wp2_with fail
  refine (build13 _ _ _ _ (by go_simp) (by go_simp)).mono ?_
  rintro e w1 ⟨b1, b2, rfl, c1, c2, l1, l2, bb⟩
  have hb := (below_new w _).trans (bb.mono (below_new w _).size)
  clear bb
  go_wp2_with fail
  go_ret
  exact ⟨rfl, hb.alloc hb.size _⟩
/-- a law's own copy of any table -/
structure TX (w0 w : World) (B : Nat) (T : BitVec 64) (bs : List (BitVec 64)) (ls : List Int) (vb va : Value) : Prop where
  bel : Below w0.heap.size w0 w
  box : Blk w B 27 #[.int .u64 (ui T), vb, va]
  sb : SlV w vb (vals bs)
  sa : SlV w va (ints ls)
theorem TX.next {w0 w w' : World} {B : Nat} {T : BitVec 64} {bs : List (BitVec 64)} {ls : List Int} {vb va : Value} (h : TX w0 w B T bs ls vb va) (hb : Below w.heap.size w w') : TX w0 w' B T bs ls vb va :=
  ⟨h.bel.trans (hb.mono h.bel.size), h.box.belowS hb, h.sb.below hb, h.sa.below hb⟩
theorem TX.new {w : World} (T : BitVec 64) {bs : List (BitVec 64)} {ls : List Int} {vb va : Value} (hb : SlV w vb (vals bs)) (ha : SlV w va (ints ls)) : TX w (w.alloc (.cells #[.int .u64 (ui T), vb, va] 27)) w.heap.size T bs ls vb va :=
  ⟨below_new _ _, Blk.new _ _ _, hb.below (below_new _ _), ha.below (below_new _ _)⟩
theorem ok_open {w : World} {T : BitVec 64} {bs : List (BitVec 64)} {ls : List Int} {vb va : Value} (hb : SlV w vb (vals bs)) (ha : SlV w va (ints ls)) (hok : OkT T bs ls) : ∃ b o cap b2 o2 cap2, vb = .slice (some ⟨b, o, none⟩) bs.length cap ∧ va = .slice (some ⟨b2, o2, none⟩) bs.length cap2 ∧ SlC w b o (vals bs) ∧ SlC w b2 o2 (ints ls) := by
  have := hok.n1
  have := hok.na
  obtain ⟨b, o, cap, rfl, hc⟩ := slV_pos hb (by rw [vals_length]; omega)
  obtain ⟨b2, o2, cap2, rfl, hc2⟩ := slV_pos ha (by rw [ints_length]; omega)
  rw [vals_length, ints_length, hok.na]
  exact ⟨b, o, cap, b2, o2, cap2, rfl, rfl, hc, hc2⟩
set_option maxRecDepth 100000 in
theorem tells_bad (T : BitVec 64) (bs : List (BitVec 64)) (ls : List Int) (vb va : Value) (w : World) (hb : SlV w vb (vals bs)) (ha : SlV w va (ints ls)) (hl : bs.length ≤ 9223372036854775807) (hne : errT T bs ls ≠ 0) (c u : BitVec 64) (j : Int) :
    Calls Try.prog 5 #[.agg #[.int .u64 (ui T), vb, va], .int .u64 (ui c), .int .u64 (ui u), .int .i64 j] w fun e w' => e = .returned (.bool true) ∧ Below w.heap.size w w' := by
  have HX := Lib.hid (TX.new T hb ha)
  have HN := Lib.hid hne
  have hq : (errT T bs ls != 0) = true := by rw [bne_iff_ne]; exact hne
  obtain ⟨q, hq0⟩ : ∃ q, errT T bs ls = q := ⟨_, rfl⟩
  rw [hq0] at hq
  have HQ := Lib.hid hq0
  clear hb ha hne hq0
  go_enter Try.func5, Try.ntmps5
  go_wp2_with fail
  refine (awake43 _).mono ?_
  rintro e w1 ⟨rfl, b1⟩
  have H1 := Lib.hid (HX.out.next b1)
  clear b1 HX
  obtain ⟨d0, d1, d2⟩ := tab_cells H1.out.box
  go_wp2_with fail
  have hk := tell_bad T bs ls vb va _ H1.out.sb H1.out.sa hl HN.out c u
  rw [HQ.out] at hk
  refine hk.mono ?_
  rintro e w2 ⟨rfl, b2⟩
  have H2 := Lib.hid (H1.out.next b2)
  clear b2 H1 hk d0 d1 d2
  obtain ⟨d0, d1, d2⟩ := tab_cells H2.out.box
  go_wp2_with fail
  have hk := rank_bad T bs ls vb va _ H2.out.sb H2.out.sa hl HN.out c u
  rw [HQ.out] at hk
  refine hk.mono ?_
  rintro e w3 ⟨rfl, b3⟩
  have H3 := Lib.hid (H2.out.next b3)
  clear b3 H2 hk d0 d1 d2
  obtain ⟨d0, d1, d2⟩ := tab_cells H3.out.box
  go_wp2_with fail
  have hk := weight_bad T bs ls vb va _ H3.out.sb H3.out.sa hl HN.out j
  rw [HQ.out] at hk
  refine hk.mono ?_
  rintro e w4 ⟨rfl, b4⟩
  have H4 := Lib.hid (H3.out.next b4)
  clear b4 H3 hk d0 d1 d2
  obtain ⟨d0, d1, d2⟩ := tab_cells H4.out.box
  go_wp2_with fail
  have hk := rtab_any T bs ls vb va _ H4.out.sb H4.out.sa hl
  rw [HQ.out] at hk
  refine hk.mono ?_
  rintro e w5 ⟨rfl, b5⟩
  have H5 := Lib.hid (H4.out.next b5)
  clear b5 H4 hk d0 d1 d2
  obtain ⟨d0, d1, d2⟩ := tab_cells H5.out.box
  go_wp2_with fail
  have hk := chk_any T bs ls vb va _ H5.out.sb H5.out.sa hl
  rw [HQ.out] at hk
  refine hk.mono ?_
  rintro e w6 ⟨rfl, b6⟩
  have H6 := Lib.hid (H5.out.next b6)
  clear b6 H5 hk d0 d1 d2
  obtain ⟨d0, d1, d2⟩ := tab_cells H6.out.box
  go_wp2_with fail
  go_ret
  exact ⟨rfl, H6.out.bel⟩
set_option maxRecDepth 100000 in
theorem tells_yy (T : BitVec 64) (bs : List (BitVec 64)) (ls : List Int) (b o cap b2 o2 cap2 : Nat) (w : World) (hc : SlC w b o (vals bs)) (hc2 : SlC w b2 o2 (ints ls)) (hok : OkT T bs ls) (c : Nat) (u : BitVec 64) (hcn : c < bs.length) (hu : ui u < ui T) (j : Int) (h0 : 0 ≤ j) (h1 : j < (bs.length : Int)) :
    Calls Try.prog 5 #[.agg #[.int .u64 (ui T), .slice (some ⟨b, o, none⟩) bs.length cap, .slice (some ⟨b2, o2, none⟩) bs.length cap2], .int .u64 (c : Int), .int .u64 (ui u), .int .i64 j] w fun e w' => e = .returned (.bool true) ∧ Below w.heap.size w w' := by
  have HX := Lib.hid (BX.new T cap cap2 hc hc2)
  have HO := Lib.hid hok
  have hn2 := hok.n2
  have hcn1 : ¬ ui (BitVec.ofNat 64 bs.length) ≤ (c : Int) := by rw [ui_len _ hn2]; omega
  have hu1 : ¬ ui T ≤ ui u := by omega
  have HS := Lib.hid (aS_gt (bs := bs) (ls := ls) (j := tellT bs ls c u) (T := T) (u := u) bs.length hcn)
  clear hc hc2 hok
  go_enter Try.func5, Try.ntmps5
  go_wp2_with fail
  refine (awake43 _).mono ?_
  rintro e w1 ⟨rfl, b1⟩
  have H1 := Lib.hid (HX.out.next b1)
  clear b1 HX
  obtain ⟨d0, d1, d2⟩ := tab_cells H1.out.box
  go_wp2_with fail
  refine (tell_yes T bs ls b o cap b2 o2 cap2 _ H1.out.cb H1.out.ca HO.out c u hcn hu).mono ?_
  rintro e w2 ⟨rfl, b2⟩
  have H2 := Lib.hid (H1.out.next b2)
  clear b2 H1
  clear d0 d1 d2
  obtain ⟨d0, d1, d2⟩ := tab_cells H2.out.box
  go_wp2_with fail
  refine (arank_yes T bs ls b o cap b2 o2 cap2 _ H2.out.cb H2.out.ca HO.out c u hcn hu).mono ?_
  rintro e w3 ⟨rfl, b3⟩
  have H3 := Lib.hid (H2.out.next b3)
  clear b3 H2
  clear d0 d1 d2
  obtain ⟨d0, d1, d2⟩ := tab_cells H3.out.box
  go_wp2_with fail
  refine (weight_yes T bs ls b o cap b2 o2 cap2 _ H3.out.cb H3.out.ca HO.out j h0 h1).mono ?_
  rintro e w4 ⟨rfl, b4⟩
  have H4 := Lib.hid (H3.out.next b4)
  clear b4 H3
  clear d0 d1 d2
  obtain ⟨d0, d1, d2⟩ := tab_cells H4.out.box
  go_wp2_with fail
  have hk := rtab_any T bs ls _ _ _ (H4.out.cb.slB cap) (H4.out.ca.slA HO.out.na cap2) (by omega)
  rw [HO.out.err] at hk
  refine hk.mono ?_
  rintro e w5 ⟨rfl, b5⟩
  have H5 := Lib.hid (H4.out.next b5)
  clear b5 H4 hk d0 d1 d2
  obtain ⟨d0, d1, d2⟩ := tab_cells H5.out.box
  have hj1 : ¬ j < 0 := by omega
  go_wp2_with fail
  refine (rweight_any T bs ls b o cap b2 o2 cap2 _ H5.out.cb H5.out.ca HO.out j).mono ?_
  rintro e w6 ⟨rfl, b6⟩
  have H6 := Lib.hid (H5.out.next b6)
  clear b6 H5
  clear d0 d1 d2
  obtain ⟨d0, d1, d2⟩ := tab_cells H6.out.box
  go_wp2_with fail
  refine (rtell_any T bs ls b o cap b2 o2 cap2 _ H6.out.cb H6.out.ca HO.out c u hcn).mono ?_
  rintro e w7 ⟨rfl, b7⟩
  have H7 := Lib.hid (H6.out.next b7)
  clear b7 H6
  clear d0 d1 d2
  obtain ⟨d0, d1, d2⟩ := tab_cells H7.out.box
  go_wp2_with fail
  have hk := ahead_any T bs ls b o cap b2 o2 cap2 _ H7.out.cb H7.out.ca HO.out c u (tellT bs ls c u) hcn
  rw [HS.out] at hk
  refine hk.mono ?_
  rintro e w8 ⟨rfl, b8⟩
  have H8 := Lib.hid (H7.out.next b8)
  clear b8 H7 hk d0 d1 d2
  go_wp2_with fail
  go_ret
  exact ⟨rfl, H8.out.bel⟩
set_option maxRecDepth 100000 in
theorem tells_yn (T : BitVec 64) (bs : List (BitVec 64)) (ls : List Int) (b o cap b2 o2 cap2 : Nat) (w : World) (hc : SlC w b o (vals bs)) (hc2 : SlC w b2 o2 (ints ls)) (hok : OkT T bs ls) (c u : BitVec 64) (h : ¬ (ui c < (bs.length : Int) ∧ ui u < ui T)) (j : Int) (h0 : 0 ≤ j) (h1 : j < (bs.length : Int)) :
    Calls Try.prog 5 #[.agg #[.int .u64 (ui T), .slice (some ⟨b, o, none⟩) bs.length cap, .slice (some ⟨b2, o2, none⟩) bs.length cap2], .int .u64 (ui c), .int .u64 (ui u), .int .i64 j] w fun e w' => e = .returned (.bool true) ∧ Below w.heap.size w w' := by
  have HX := Lib.hid (BX.new T cap cap2 hc hc2)
  have HO := Lib.hid hok
  have hn2 := hok.n2
  clear hc hc2 hok
  by_cases hc0 : ui (BitVec.ofNat 64 bs.length) ≤ ui c
  · skip
    go_enter Try.func5, Try.ntmps5
    go_wp2_with fail
    refine (awake43 _).mono ?_
    rintro e w1 ⟨rfl, b1⟩
    have H1 := Lib.hid (HX.out.next b1)
    clear b1 HX
    obtain ⟨d0, d1, d2⟩ := tab_cells H1.out.box
    go_wp2_with fail
    refine (tell_dom T bs ls b o cap b2 o2 cap2 _ H1.out.cb H1.out.ca HO.out c u h).mono ?_
    rintro e w2 ⟨rfl, b2⟩
    have H2 := Lib.hid (H1.out.next b2)
    clear b2 H1
    clear d0 d1 d2
    obtain ⟨d0, d1, d2⟩ := tab_cells H2.out.box
    go_wp2_with fail
    refine (rank_dom T bs ls b o cap b2 o2 cap2 _ H2.out.cb H2.out.ca HO.out c u h).mono ?_
    rintro e w3 ⟨rfl, b3⟩
    have H3 := Lib.hid (H2.out.next b3)
    clear b3 H2
    clear d0 d1 d2
    obtain ⟨d0, d1, d2⟩ := tab_cells H3.out.box
    go_wp2_with fail
    refine (weight_yes T bs ls b o cap b2 o2 cap2 _ H3.out.cb H3.out.ca HO.out j h0 h1).mono ?_
    rintro e w4 ⟨rfl, b4⟩
    have H4 := Lib.hid (H3.out.next b4)
    clear b4 H3
    clear d0 d1 d2
    obtain ⟨d0, d1, d2⟩ := tab_cells H4.out.box
    go_wp2_with fail
    have hk := rtab_any T bs ls _ _ _ (H4.out.cb.slB cap) (H4.out.ca.slA HO.out.na cap2) (by omega)
    rw [HO.out.err] at hk
    refine hk.mono ?_
    rintro e w5 ⟨rfl, b5⟩
    have H5 := Lib.hid (H4.out.next b5)
    clear b5 H4 hk d0 d1 d2
    obtain ⟨d0, d1, d2⟩ := tab_cells H5.out.box
    have hj1 : ¬ j < 0 := by omega
    go_wp2_with fail
    refine (rweight_any T bs ls b o cap b2 o2 cap2 _ H5.out.cb H5.out.ca HO.out j).mono ?_
    rintro e w6 ⟨rfl, b6⟩
    have H6 := Lib.hid (H5.out.next b6)
    clear b6 H5
    clear d0 d1 d2
    obtain ⟨d0, d1, d2⟩ := tab_cells H6.out.box
    go_wp2_with fail
    go_ret
    exact ⟨rfl, H6.out.bel⟩
  · have hu1 : ui T ≤ ui u := by
      rw [ui_len _ hn2] at hc0
      exact Classical.byContradiction fun hx => h ⟨by omega, by omega⟩
    go_enter Try.func5, Try.ntmps5
    go_wp2_with fail
    refine (awake43 _).mono ?_
    rintro e w1 ⟨rfl, b1⟩
    have H1 := Lib.hid (HX.out.next b1)
    clear b1 HX
    obtain ⟨d0, d1, d2⟩ := tab_cells H1.out.box
    go_wp2_with fail
    refine (tell_dom T bs ls b o cap b2 o2 cap2 _ H1.out.cb H1.out.ca HO.out c u h).mono ?_
    rintro e w2 ⟨rfl, b2⟩
    have H2 := Lib.hid (H1.out.next b2)
    clear b2 H1
    clear d0 d1 d2
    obtain ⟨d0, d1, d2⟩ := tab_cells H2.out.box
    go_wp2_with fail
    refine (rank_dom T bs ls b o cap b2 o2 cap2 _ H2.out.cb H2.out.ca HO.out c u h).mono ?_
    rintro e w3 ⟨rfl, b3⟩
    have H3 := Lib.hid (H2.out.next b3)
    clear b3 H2
    clear d0 d1 d2
    obtain ⟨d0, d1, d2⟩ := tab_cells H3.out.box
    go_wp2_with fail
    refine (weight_yes T bs ls b o cap b2 o2 cap2 _ H3.out.cb H3.out.ca HO.out j h0 h1).mono ?_
    rintro e w4 ⟨rfl, b4⟩
    have H4 := Lib.hid (H3.out.next b4)
    clear b4 H3
    clear d0 d1 d2
    obtain ⟨d0, d1, d2⟩ := tab_cells H4.out.box
    go_wp2_with fail
    have hk := rtab_any T bs ls _ _ _ (H4.out.cb.slB cap) (H4.out.ca.slA HO.out.na cap2) (by omega)
    rw [HO.out.err] at hk
    refine hk.mono ?_
    rintro e w5 ⟨rfl, b5⟩
    have H5 := Lib.hid (H4.out.next b5)
    clear b5 H4 hk d0 d1 d2
    obtain ⟨d0, d1, d2⟩ := tab_cells H5.out.box
    have hj1 : ¬ j < 0 := by omega
    go_wp2_with fail
    refine (rweight_any T bs ls b o cap b2 o2 cap2 _ H5.out.cb H5.out.ca HO.out j).mono ?_
    rintro e w6 ⟨rfl, b6⟩
    have H6 := Lib.hid (H5.out.next b6)
    clear b6 H5
    clear d0 d1 d2
    obtain ⟨d0, d1, d2⟩ := tab_cells H6.out.box
    go_wp2_with fail
    go_ret
    exact ⟨rfl, H6.out.bel⟩
set_option maxRecDepth 100000 in
theorem tells_ny (T : BitVec 64) (bs : List (BitVec 64)) (ls : List Int) (b o cap b2 o2 cap2 : Nat) (w : World) (hc : SlC w b o (vals bs)) (hc2 : SlC w b2 o2 (ints ls)) (hok : OkT T bs ls) (c : Nat) (u : BitVec 64) (hcn : c < bs.length) (hu : ui u < ui T) (j : Int) (hj : j < 0 ∨ (bs.length : Int) ≤ j) :
    Calls Try.prog 5 #[.agg #[.int .u64 (ui T), .slice (some ⟨b, o, none⟩) bs.length cap, .slice (some ⟨b2, o2, none⟩) bs.length cap2], .int .u64 (c : Int), .int .u64 (ui u), .int .i64 j] w fun e w' => e = .returned (.bool true) ∧ Below w.heap.size w w' := by
  have HX := Lib.hid (BX.new T cap cap2 hc hc2)
  have HO := Lib.hid hok
  have hn2 := hok.n2
  have hcn1 : ¬ ui (BitVec.ofNat 64 bs.length) ≤ (c : Int) := by rw [ui_len _ hn2]; omega
  have hu1 : ¬ ui T ≤ ui u := by omega
  have HS := Lib.hid (aS_gt (bs := bs) (ls := ls) (j := tellT bs ls c u) (T := T) (u := u) bs.length hcn)
  clear hc hc2 hok
  by_cases hj0 : j < 0
  · skip
    go_enter Try.func5, Try.ntmps5
    go_wp2_with fail
    refine (awake43 _).mono ?_
    rintro e w1 ⟨rfl, b1⟩
    have H1 := Lib.hid (HX.out.next b1)
    clear b1 HX
    obtain ⟨d0, d1, d2⟩ := tab_cells H1.out.box
    go_wp2_with fail
    refine (tell_yes T bs ls b o cap b2 o2 cap2 _ H1.out.cb H1.out.ca HO.out c u hcn hu).mono ?_
    rintro e w2 ⟨rfl, b2⟩
    have H2 := Lib.hid (H1.out.next b2)
    clear b2 H1
    clear d0 d1 d2
    obtain ⟨d0, d1, d2⟩ := tab_cells H2.out.box
    go_wp2_with fail
    refine (arank_yes T bs ls b o cap b2 o2 cap2 _ H2.out.cb H2.out.ca HO.out c u hcn hu).mono ?_
    rintro e w3 ⟨rfl, b3⟩
    have H3 := Lib.hid (H2.out.next b3)
    clear b3 H2
    clear d0 d1 d2
    obtain ⟨d0, d1, d2⟩ := tab_cells H3.out.box
    go_wp2_with fail
    refine (weight_dom T bs ls b o cap b2 o2 cap2 _ H3.out.cb H3.out.ca HO.out j hj).mono ?_
    rintro e w4 ⟨rfl, b4⟩
    have H4 := Lib.hid (H3.out.next b4)
    clear b4 H3
    clear d0 d1 d2
    obtain ⟨d0, d1, d2⟩ := tab_cells H4.out.box
    go_wp2_with fail
    have hk := rtab_any T bs ls _ _ _ (H4.out.cb.slB cap) (H4.out.ca.slA HO.out.na cap2) (by omega)
    rw [HO.out.err] at hk
    refine hk.mono ?_
    rintro e w5 ⟨rfl, b5⟩
    have H5 := Lib.hid (H4.out.next b5)
    clear b5 H4 hk d0 d1 d2
    obtain ⟨d0, d1, d2⟩ := tab_cells H5.out.box
    go_wp2_with fail
    refine (rtell_any T bs ls b o cap b2 o2 cap2 _ H5.out.cb H5.out.ca HO.out c u hcn).mono ?_
    rintro e w6 ⟨rfl, b6⟩
    have H6 := Lib.hid (H5.out.next b6)
    clear b6 H5
    clear d0 d1 d2
    obtain ⟨d0, d1, d2⟩ := tab_cells H6.out.box
    go_wp2_with fail
    have hk := ahead_any T bs ls b o cap b2 o2 cap2 _ H6.out.cb H6.out.ca HO.out c u (tellT bs ls c u) hcn
    rw [HS.out] at hk
    refine hk.mono ?_
    rintro e w7 ⟨rfl, b7⟩
    have H7 := Lib.hid (H6.out.next b7)
    clear b7 H6 hk d0 d1 d2
    go_wp2_with fail
    go_ret
    exact ⟨rfl, H7.out.bel⟩
  · have hj1 : (bs.length : Int) ≤ j := by omega
    go_enter Try.func5, Try.ntmps5
    go_wp2_with fail
    refine (awake43 _).mono ?_
    rintro e w1 ⟨rfl, b1⟩
    have H1 := Lib.hid (HX.out.next b1)
    clear b1 HX
    obtain ⟨d0, d1, d2⟩ := tab_cells H1.out.box
    go_wp2_with fail
    refine (tell_yes T bs ls b o cap b2 o2 cap2 _ H1.out.cb H1.out.ca HO.out c u hcn hu).mono ?_
    rintro e w2 ⟨rfl, b2⟩
    have H2 := Lib.hid (H1.out.next b2)
    clear b2 H1
    clear d0 d1 d2
    obtain ⟨d0, d1, d2⟩ := tab_cells H2.out.box
    go_wp2_with fail
    refine (arank_yes T bs ls b o cap b2 o2 cap2 _ H2.out.cb H2.out.ca HO.out c u hcn hu).mono ?_
    rintro e w3 ⟨rfl, b3⟩
    have H3 := Lib.hid (H2.out.next b3)
    clear b3 H2
    clear d0 d1 d2
    obtain ⟨d0, d1, d2⟩ := tab_cells H3.out.box
    go_wp2_with fail
    refine (weight_dom T bs ls b o cap b2 o2 cap2 _ H3.out.cb H3.out.ca HO.out j hj).mono ?_
    rintro e w4 ⟨rfl, b4⟩
    have H4 := Lib.hid (H3.out.next b4)
    clear b4 H3
    clear d0 d1 d2
    obtain ⟨d0, d1, d2⟩ := tab_cells H4.out.box
    go_wp2_with fail
    have hk := rtab_any T bs ls _ _ _ (H4.out.cb.slB cap) (H4.out.ca.slA HO.out.na cap2) (by omega)
    rw [HO.out.err] at hk
    refine hk.mono ?_
    rintro e w5 ⟨rfl, b5⟩
    have H5 := Lib.hid (H4.out.next b5)
    clear b5 H4 hk d0 d1 d2
    obtain ⟨d0, d1, d2⟩ := tab_cells H5.out.box
    go_wp2_with fail
    refine (rtell_any T bs ls b o cap b2 o2 cap2 _ H5.out.cb H5.out.ca HO.out c u hcn).mono ?_
    rintro e w6 ⟨rfl, b6⟩
    have H6 := Lib.hid (H5.out.next b6)
    clear b6 H5
    clear d0 d1 d2
    obtain ⟨d0, d1, d2⟩ := tab_cells H6.out.box
    go_wp2_with fail
    have hk := ahead_any T bs ls b o cap b2 o2 cap2 _ H6.out.cb H6.out.ca HO.out c u (tellT bs ls c u) hcn
    rw [HS.out] at hk
    refine hk.mono ?_
    rintro e w7 ⟨rfl, b7⟩
    have H7 := Lib.hid (H6.out.next b7)
    clear b7 H6 hk d0 d1 d2
    go_wp2_with fail
    go_ret
    exact ⟨rfl, H7.out.bel⟩
set_option maxRecDepth 100000 in
theorem tells_nn (T : BitVec 64) (bs : List (BitVec 64)) (ls : List Int) (b o cap b2 o2 cap2 : Nat) (w : World) (hc : SlC w b o (vals bs)) (hc2 : SlC w b2 o2 (ints ls)) (hok : OkT T bs ls) (c u : BitVec 64) (h : ¬ (ui c < (bs.length : Int) ∧ ui u < ui T)) (j : Int) (hj : j < 0 ∨ (bs.length : Int) ≤ j) :
    Calls Try.prog 5 #[.agg #[.int .u64 (ui T), .slice (some ⟨b, o, none⟩) bs.length cap, .slice (some ⟨b2, o2, none⟩) bs.length cap2], .int .u64 (ui c), .int .u64 (ui u), .int .i64 j] w fun e w' => e = .returned (.bool true) ∧ Below w.heap.size w w' := by
  have HX := Lib.hid (BX.new T cap cap2 hc hc2)
  have HO := Lib.hid hok
  have hn2 := hok.n2
  clear hc hc2 hok
  by_cases hj0 : j < 0
  · skip
    by_cases hc0 : ui (BitVec.ofNat 64 bs.length) ≤ ui c
    · skip
      go_enter Try.func5, Try.ntmps5
      go_wp2_with fail
      refine (awake43 _).mono ?_
      rintro e w1 ⟨rfl, b1⟩
      have H1 := Lib.hid (HX.out.next b1)
      clear b1 HX
      obtain ⟨d0, d1, d2⟩ := tab_cells H1.out.box
      go_wp2_with fail
      refine (tell_dom T bs ls b o cap b2 o2 cap2 _ H1.out.cb H1.out.ca HO.out c u h).mono ?_
      rintro e w2 ⟨rfl, b2⟩
      have H2 := Lib.hid (H1.out.next b2)
      clear b2 H1
      clear d0 d1 d2
      obtain ⟨d0, d1, d2⟩ := tab_cells H2.out.box
      go_wp2_with fail
      refine (rank_dom T bs ls b o cap b2 o2 cap2 _ H2.out.cb H2.out.ca HO.out c u h).mono ?_
      rintro e w3 ⟨rfl, b3⟩
      have H3 := Lib.hid (H2.out.next b3)
      clear b3 H2
      clear d0 d1 d2
      obtain ⟨d0, d1, d2⟩ := tab_cells H3.out.box
      go_wp2_with fail
      refine (weight_dom T bs ls b o cap b2 o2 cap2 _ H3.out.cb H3.out.ca HO.out j hj).mono ?_
      rintro e w4 ⟨rfl, b4⟩
      have H4 := Lib.hid (H3.out.next b4)
      clear b4 H3
      clear d0 d1 d2
      obtain ⟨d0, d1, d2⟩ := tab_cells H4.out.box
      go_wp2_with fail
      have hk := rtab_any T bs ls _ _ _ (H4.out.cb.slB cap) (H4.out.ca.slA HO.out.na cap2) (by omega)
      rw [HO.out.err] at hk
      refine hk.mono ?_
      rintro e w5 ⟨rfl, b5⟩
      have H5 := Lib.hid (H4.out.next b5)
      clear b5 H4 hk d0 d1 d2
      obtain ⟨d0, d1, d2⟩ := tab_cells H5.out.box
      go_wp2_with fail
      go_ret
      exact ⟨rfl, H5.out.bel⟩
    · have hu1 : ui T ≤ ui u := by
        rw [ui_len _ hn2] at hc0
        exact Classical.byContradiction fun hx => h ⟨by omega, by omega⟩
      go_enter Try.func5, Try.ntmps5
      go_wp2_with fail
      refine (awake43 _).mono ?_
      rintro e w1 ⟨rfl, b1⟩
      have H1 := Lib.hid (HX.out.next b1)
      clear b1 HX
      obtain ⟨d0, d1, d2⟩ := tab_cells H1.out.box
      go_wp2_with fail
      refine (tell_dom T bs ls b o cap b2 o2 cap2 _ H1.out.cb H1.out.ca HO.out c u h).mono ?_
      rintro e w2 ⟨rfl, b2⟩
      have H2 := Lib.hid (H1.out.next b2)
      clear b2 H1
      clear d0 d1 d2
      obtain ⟨d0, d1, d2⟩ := tab_cells H2.out.box
      go_wp2_with fail
      refine (rank_dom T bs ls b o cap b2 o2 cap2 _ H2.out.cb H2.out.ca HO.out c u h).mono ?_
      rintro e w3 ⟨rfl, b3⟩
      have H3 := Lib.hid (H2.out.next b3)
      clear b3 H2
      clear d0 d1 d2
      obtain ⟨d0, d1, d2⟩ := tab_cells H3.out.box
      go_wp2_with fail
      refine (weight_dom T bs ls b o cap b2 o2 cap2 _ H3.out.cb H3.out.ca HO.out j hj).mono ?_
      rintro e w4 ⟨rfl, b4⟩
      have H4 := Lib.hid (H3.out.next b4)
      clear b4 H3
      clear d0 d1 d2
      obtain ⟨d0, d1, d2⟩ := tab_cells H4.out.box
      go_wp2_with fail
      have hk := rtab_any T bs ls _ _ _ (H4.out.cb.slB cap) (H4.out.ca.slA HO.out.na cap2) (by omega)
      rw [HO.out.err] at hk
      refine hk.mono ?_
      rintro e w5 ⟨rfl, b5⟩
      have H5 := Lib.hid (H4.out.next b5)
      clear b5 H4 hk d0 d1 d2
      obtain ⟨d0, d1, d2⟩ := tab_cells H5.out.box
      go_wp2_with fail
      go_ret
      exact ⟨rfl, H5.out.bel⟩
  · have hj1 : (bs.length : Int) ≤ j := by omega
    by_cases hc0 : ui (BitVec.ofNat 64 bs.length) ≤ ui c
    · skip
      go_enter Try.func5, Try.ntmps5
      go_wp2_with fail
      refine (awake43 _).mono ?_
      rintro e w1 ⟨rfl, b1⟩
      have H1 := Lib.hid (HX.out.next b1)
      clear b1 HX
      obtain ⟨d0, d1, d2⟩ := tab_cells H1.out.box
      go_wp2_with fail
      refine (tell_dom T bs ls b o cap b2 o2 cap2 _ H1.out.cb H1.out.ca HO.out c u h).mono ?_
      rintro e w2 ⟨rfl, b2⟩
      have H2 := Lib.hid (H1.out.next b2)
      clear b2 H1
      clear d0 d1 d2
      obtain ⟨d0, d1, d2⟩ := tab_cells H2.out.box
      go_wp2_with fail
      refine (rank_dom T bs ls b o cap b2 o2 cap2 _ H2.out.cb H2.out.ca HO.out c u h).mono ?_
      rintro e w3 ⟨rfl, b3⟩
      have H3 := Lib.hid (H2.out.next b3)
      clear b3 H2
      clear d0 d1 d2
      obtain ⟨d0, d1, d2⟩ := tab_cells H3.out.box
      go_wp2_with fail
      refine (weight_dom T bs ls b o cap b2 o2 cap2 _ H3.out.cb H3.out.ca HO.out j hj).mono ?_
      rintro e w4 ⟨rfl, b4⟩
      have H4 := Lib.hid (H3.out.next b4)
      clear b4 H3
      clear d0 d1 d2
      obtain ⟨d0, d1, d2⟩ := tab_cells H4.out.box
      go_wp2_with fail
      have hk := rtab_any T bs ls _ _ _ (H4.out.cb.slB cap) (H4.out.ca.slA HO.out.na cap2) (by omega)
      rw [HO.out.err] at hk
      refine hk.mono ?_
      rintro e w5 ⟨rfl, b5⟩
      have H5 := Lib.hid (H4.out.next b5)
      clear b5 H4 hk d0 d1 d2
      obtain ⟨d0, d1, d2⟩ := tab_cells H5.out.box
      go_wp2_with fail
      go_ret
      exact ⟨rfl, H5.out.bel⟩
    · have hu1 : ui T ≤ ui u := by
        rw [ui_len _ hn2] at hc0
        exact Classical.byContradiction fun hx => h ⟨by omega, by omega⟩
      go_enter Try.func5, Try.ntmps5
      go_wp2_with fail
      refine (awake43 _).mono ?_
      rintro e w1 ⟨rfl, b1⟩
      have H1 := Lib.hid (HX.out.next b1)
      clear b1 HX
      obtain ⟨d0, d1, d2⟩ := tab_cells H1.out.box
      go_wp2_with fail
      refine (tell_dom T bs ls b o cap b2 o2 cap2 _ H1.out.cb H1.out.ca HO.out c u h).mono ?_
      rintro e w2 ⟨rfl, b2⟩
      have H2 := Lib.hid (H1.out.next b2)
      clear b2 H1
      clear d0 d1 d2
      obtain ⟨d0, d1, d2⟩ := tab_cells H2.out.box
      go_wp2_with fail
      refine (rank_dom T bs ls b o cap b2 o2 cap2 _ H2.out.cb H2.out.ca HO.out c u h).mono ?_
      rintro e w3 ⟨rfl, b3⟩
      have H3 := Lib.hid (H2.out.next b3)
      clear b3 H2
      clear d0 d1 d2
      obtain ⟨d0, d1, d2⟩ := tab_cells H3.out.box
      go_wp2_with fail
      refine (weight_dom T bs ls b o cap b2 o2 cap2 _ H3.out.cb H3.out.ca HO.out j hj).mono ?_
      rintro e w4 ⟨rfl, b4⟩
      have H4 := Lib.hid (H3.out.next b4)
      clear b4 H3
      clear d0 d1 d2
      obtain ⟨d0, d1, d2⟩ := tab_cells H4.out.box
      go_wp2_with fail
      have hk := rtab_any T bs ls _ _ _ (H4.out.cb.slB cap) (H4.out.ca.slA HO.out.na cap2) (by omega)
      rw [HO.out.err] at hk
      refine hk.mono ?_
      rintro e w5 ⟨rfl, b5⟩
      have H5 := Lib.hid (H4.out.next b5)
      clear b5 H4 hk d0 d1 d2
      obtain ⟨d0, d1, d2⟩ := tab_cells H5.out.box
      go_wp2_with fail
      go_ret
      exact ⟨rfl, H5.out.bel⟩
theorem tells_any (T : BitVec 64) (bs : List (BitVec 64)) (ls : List Int) (vb va : Value) (w : World) (hb : SlV w vb (vals bs)) (ha : SlV w va (ints ls)) (hl : bs.length ≤ 9223372036854775807) (c u : BitVec 64) (j : Int) :
    Calls Try.prog 5 #[.agg #[.int .u64 (ui T), vb, va], .int .u64 (ui c), .int .u64 (ui u), .int .i64 j] w fun e w' => e = .returned (.bool true) ∧ Below w.heap.size w w' := by
  by_cases hne : errT T bs ls = 0
  · have hok := okT_of hne
    obtain ⟨b, o, cap, b2, o2, cap2, rfl, rfl, hc, hc2⟩ := ok_open hb ha hok
    by_cases hj : 0 ≤ j ∧ j < (bs.length : Int)
    · by_cases hcu : ui c < (bs.length : Int) ∧ ui u < ui T
      · obtain ⟨k, hk⟩ : ∃ k : Nat, ui c = (k : Int) := ⟨c.toNat, rfl⟩
        rw [hk] at hcu ⊢
        exact tells_yy T bs ls b o cap b2 o2 cap2 w hc hc2 hok k u (by omega) hcu.2 j hj.1 hj.2
      · exact tells_yn T bs ls b o cap b2 o2 cap2 w hc hc2 hok c u hcu j hj.1 hj.2
    · have hj' : j < 0 ∨ (bs.length : Int) ≤ j := by omega
      by_cases hcu : ui c < (bs.length : Int) ∧ ui u < ui T
      · obtain ⟨k, hk⟩ : ∃ k : Nat, ui c = (k : Int) := ⟨c.toNat, rfl⟩
        rw [hk] at hcu ⊢
        exact tells_ny T bs ls b o cap b2 o2 cap2 w hc hc2 hok k u (by omega) hcu.2 j hj'
      · exact tells_nn T bs ls b o cap b2 o2 cap2 w hc hc2 hok c u hcu j hj'
  · exact tells_bad T bs ls vb va w hb ha hl hne c u j
theorem tells_law (T : BitVec 64) (bs : List (BitVec 64)) (ls : List Int) (vb va : Value) (c u : BitVec 64) (j : Int) (w : World) (hb : SlV w vb (vals bs)) (ha : SlV w va (ints ls)) (hl : bs.length ≤ 9223372036854775807) :
    Calls Try.prog 5 #[.agg #[.int .u64 (ui T), vb, va], .int .u64 (ui c), .int .u64 (ui u), .int .i64 j] w fun e w' => e = .returned (.bool true) ∧ Below w.heap.size w w' := tells_any T bs ls vb va w hb ha hl c u j
end Go.Proofs.Ytodflmngbkiemaa
