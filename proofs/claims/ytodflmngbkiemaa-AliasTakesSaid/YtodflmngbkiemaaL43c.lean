/- The walks of chapter 43's laws of building and of weights. For every input. No condition. -/
import Derived.Test.YtodflmngbkiemaaW43m
import Derived.Test.YtodflmngbkiemaaL43
import Derived.RegionTactic
namespace Go.Proofs.Ytodflmngbkiemaa
open Go.RowKit
/-- a table that is built -/
def RT1 (w0 : World) (T : BitVec 64) (bs : List (BitVec 64)) (ls : List Int) (e : Ending) (w' : World) : Prop := ∃ b o cap b2 o2 cap2, e = .returned (.tuple #[.agg #[.int .u64 (ui T), .slice (some ⟨b, o, none⟩) bs.length cap, .slice (some ⟨b2, o2, none⟩) bs.length cap2], .int .i64 0]) ∧ SlC w' b o (vals bs) ∧ SlC w' b2 o2 (ints ls) ∧ Below w0.heap.size w0 w'
def RT2 (w0 : World) (T : BitVec 64) (bs : List (BitVec 64)) (ls : List Int) (e : Ending) (w' : World) : Prop := ∃ b o cap b2 o2 cap2, e = .returned (.agg #[.int .u64 (ui T), .slice (some ⟨b, o, none⟩) bs.length cap, .slice (some ⟨b2, o2, none⟩) bs.length cap2]) ∧ SlC w' b o (vals bs) ∧ SlC w' b2 o2 (ints ls) ∧ Below w0.heap.size w0 w'
theorem slC_blk_vals {w : World} {g : Nat} {t : TypeId} {bs : List (BitVec 64)} (h : Blk w g t (vals bs).toArray) : SlC w g 0 (vals bs) := by
  intro i u hu
  rw [Nat.zero_add, h.cell i, List.getElem?_toArray]; exact hu
theorem slC_blk_ints {w : World} {g : Nat} {t : TypeId} {ls : List Int} (h : Blk w g t (ints ls).toArray) : SlC w g 0 (ints ls) := by
  intro i u hu
  rw [Nat.zero_add, h.cell i, List.getElem?_toArray]; exact hu
theorem build_tab (ws : List (BitVec 64)) (b0 o0 cap : Nat) (w : World) (hc : SlC w b0 o0 (vals ws)) (hok : OkW ws) (h0 : tS ws ws.length ≠ 0#64) :
    Calls Try.prog 14 #[.slice (some ⟨b0, o0, none⟩) ws.length cap] w (RT1 w (tS ws ws.length) (fin ws).bel (fin ws).ali) := by
  refine (build_ok ws b0 o0 cap w hc hok h0).mono ?_
  rintro e w' ⟨b1, b2, rfl, m1, m2, bb⟩
  have hl := (fin_inv hok).1.lb
  exact ⟨b1, 0, ws.length, b2, 0, ws.length, by rw [hl], slC_blk_vals m1, slC_blk_ints m2, bb⟩
theorem rbuild_tab (ws : List (BitVec 64)) (b0 o0 cap : Nat) (w : World) (hc : SlC w b0 o0 (vals ws)) (hok : OkW ws) (h0 : tS ws ws.length ≠ 0#64) :
    Calls Try.prog 17 #[.slice (some ⟨b0, o0, none⟩) ws.length cap] w (RT2 w (tS ws ws.length) (fin ws).bel (fin ws).ali) := by
  refine (rbuild_ok ws b0 o0 cap w hc hok).mono ?_
  rintro e w' ⟨vb, va, rfl, s1, s2, bb⟩
  obtain ⟨b, o, cap, b2, o2, cap2, rfl, rfl, c1, c2⟩ := ok_open s1 s2 (fin_ok hok h0)
  exact ⟨b, o, cap, b2, o2, cap2, rfl, c1, c2, bb⟩
theorem SlC.drewS {w : World} {b o : Nat} {us : List Value} (h : SlC w b o us) : SlC w.drew b o us := h
theorem builds_bad (ws : List (BitVec 64)) (v : Value) (w : World) (hv : SlV w v (vals ws)) (hl : ws.length ≤ 9223372036854775807) (hne : errW ws ≠ 0) :
    Calls Try.prog 3 #[v] w fun e w' => e = .returned (.bool true) ∧ Below w.heap.size w w' := by
  have HN := Lib.hid hne
  have hq : (errW ws != 0) = true := by rw [bne_iff_ne]; exact hne
  obtain ⟨q, hq0⟩ : ∃ q, errW ws = q := ⟨_, rfl⟩
  rw [hq0] at hq
  have HQ := Lib.hid hq0
  have HV := Lib.hid hv
  clear hv hne hq0
  go_enter Try.func3, Try.ntmps3
  go_wp2_with fail
  refine (awake43 _).mono ?_
  rintro e w1 ⟨rfl, b1⟩
  have HV1 := Lib.hid (HV.out.below b1)
  go_wp2_with fail
  have hk := build_bad ws v _ HV1.out hl HN.out
  rw [HQ.out] at hk
  refine hk.mono ?_
  rintro e w2 ⟨rfl, b2⟩
  clear hk
  have HV2 := Lib.hid (HV1.out.below b2)
  have hb := b1.trans (b2.mono b1.size)
  clear HV1
  go_wp2_with fail
  have hk := rcheck_any ws v _ (HV2.out.below (below_new w2 (.cells #[.int .u64 0, .slice none 0 0, .slice none 0 0] 27))) hl
  rw [HQ.out] at hk
  refine hk.mono ?_
  rintro e w' ⟨rfl, rfl⟩
  clear hk
  go_wp2_with fail
  refine (same_zero _).mono ?_
  rintro e w3 ⟨rfl, b3⟩
  have hb2 := (hb.alloc hb.size _).trans (b3.mono (by have := hb.size; rw [size_alloc]; omega))
  clear hb b3 b1 b2
  go_wp2_with fail
  go_ret
  exact ⟨rfl, hb2⟩
set_option maxHeartbeats 4000000 in
theorem builds_ok (ws : List (BitVec 64)) (b0 o0 cap : Nat) (w : World) (hc : SlC w b0 o0 (vals ws)) (hok : OkW ws) (h0 : tS ws ws.length ≠ 0#64) :
    Calls Try.prog 3 #[.slice (some ⟨b0, o0, none⟩) ws.length cap] w fun e w' => e = .returned (.bool true) ∧ Below w.heap.size w w' := by
  have hn2 := hok.n2
  have HR := Lib.hid (errW_of_ok hok h0)
  have hB : ∀ w1, SlC w1 b0 o0 (vals ws) → Calls Try.prog 14 #[.slice (some ⟨b0, o0, none⟩) ws.length cap] w1 (RT1 w1 (tS ws ws.length) (fin ws).bel (fin ws).ali) := fun w1 h => build_tab ws b0 o0 cap w1 h hok h0
  have hR : ∀ w1, SlC w1 b0 o0 (vals ws) → Calls Try.prog 17 #[.slice (some ⟨b0, o0, none⟩) ws.length cap] w1 (RT2 w1 (tS ws ws.length) (fin ws).bel (fin ws).ali) := fun w1 h => rbuild_tab ws b0 o0 cap w1 h hok h0
  have hO := fin_ok hok h0
  generalize tS ws ws.length = T at *
  generalize (fin ws).bel = bs at *
  generalize (fin ws).ali = ls at *
  have HB := Lib.hid hB
  have HRB := Lib.hid hR
  have HO := Lib.hid hO
  have HC := Lib.hid hc
  have hs2 := hO.n2
  clear hB hR hO hc hok h0
  go_enter Try.func3, Try.ntmps3
  go_wp2_with fail
  refine (awake43 _).mono ?_
  rintro e w1 ⟨rfl, b1⟩
  have HC1 := Lib.hid (HC.out.below b1)
  go_wp2_with fail
  refine (HB.out _ HC1.out).mono ?_
  rintro e w2 ⟨b, o, cp, b2, o2, cp2, rfl, c1, c2, bb⟩
  have HC2 := Lib.hid (HC1.out.below bb)
  have hb := b1.trans (bb.mono b1.size)
  have HX := Lib.hid (BX.new T cp cp2 c1 c2)
  clear c1 c2 HC1 bb b1 HC
  go_wp2_with fail
  have HC3 := Lib.hid (HC2.out.below (below_new w2 (.cells #[.int .u64 (ui T), .slice (some ⟨b, o, none⟩) bs.length cp, .slice (some ⟨b2, o2, none⟩) bs.length cp2] 27)))
  have hk := rcheck_any ws (.slice (some ⟨b0, o0, none⟩) ws.length cap) _ (HC3.out.slB cap) (by omega)
  rw [HR.out] at hk
  refine hk.mono ?_
  rintro e w' ⟨rfl, rfl⟩
  clear hk
  obtain ⟨d0, d1, d2⟩ := tab_cells HX.out.box
  go_wp2_with fail
  go_region_with (first
    | (go_at_call 17; (first | refine (HRB.out _ HC3.out).mono ?_ | refine (HRB.out _ HC3.out.drewS).mono ?_); rintro e w8 ⟨b3, o3, cp3, b4, o4, cp4, rfl, c3, c4, bb⟩; (first | have HX8 := Lib.hid (HX.out.next bb) | have HX8 := Lib.hid (HX.out.drewS.next bb)); have HY8 := Lib.hid (And.intro c3 c4); obtain ⟨e0, e1, e2⟩ := tab_cells HX8.out.box; clear c3 c4 bb)
    | (go_at_call 16; refine (same_ok T bs ls b o cp b2 o2 cp2 b3 o3 cp3 b4 o4 cp4 _ HX8.out.cb HX8.out.ca HY8.out.1 HY8.out.2 HO.out).mono ?_; rintro e w9 ⟨rfl, bb⟩; have HX9 := Lib.hid (HX8.out.next bb); obtain ⟨g0, g1, g2⟩ := tab_cells HX9.out.box; clear bb)
    | (go_at_call 18; refine (HX9.out.chk HO.out).mono ?_; rintro e w10 ⟨rfl, bb⟩; have HX10 := Lib.hid (HX9.out.next bb); clear bb))
  all_goals go_wp2_with fail
  all_goals go_ret
  all_goals exact ⟨rfl, hb.trans (HX10.out.bel.mono hb.size)⟩
theorem builds_law (v : Value) (ws : List (BitVec 64)) (w : World) (hv : SlV w v (vals ws)) (hl : ws.length ≤ 9223372036854775807) :
    Calls Try.prog 3 #[v] w fun e w' => e = .returned (.bool true) ∧ Below w.heap.size w w' := by
  by_cases hne : errW ws = 0
  · obtain ⟨hok, h0⟩ := errW_ok hne
    obtain ⟨b, o, cap, rfl, hc⟩ := slV_pos hv (by rw [vals_length]; exact hok.n1)
    rw [vals_length]
    exact builds_ok ws b o cap w hc hok h0
  · exact builds_bad ws v w hv hl hne
theorem weighs_bad (ws : List (BitVec 64)) (v : Value) (w : World) (hv : SlV w v (vals ws)) (hl : ws.length ≤ 9223372036854775807) (hne : errW ws ≠ 0) :
    Calls Try.prog 4 #[v] w fun e w' => e = .returned (.bool true) ∧ Below w.heap.size w w' := by
  have hq : (errW ws != 0) = true := by rw [bne_iff_ne]; exact hne
  obtain ⟨q, hq0⟩ : ∃ q, errW ws = q := ⟨_, rfl⟩
  rw [hq0] at hq
  have HQ := Lib.hid hq0
  have HV := Lib.hid hv
  clear hv hne hq0
  go_enter Try.func4, Try.ntmps4
  go_wp2_with fail
  refine (awake43 _).mono ?_
  rintro e w1 ⟨rfl, b1⟩
  go_wp2_with fail
  have hk := rcheck_any ws v _ (HV.out.below b1) hl
  rw [HQ.out] at hk
  refine hk.mono ?_
  rintro e w' ⟨rfl, rfl⟩
  clear hk
  go_wp2_with fail
  go_ret
  exact ⟨rfl, b1⟩
set_option maxHeartbeats 4000000 in
theorem weighs_ok (ws : List (BitVec 64)) (b0 o0 cap : Nat) (w : World) (hc : SlC w b0 o0 (vals ws)) (hok : OkW ws) (h0 : tS ws ws.length ≠ 0#64) :
    Calls Try.prog 4 #[.slice (some ⟨b0, o0, none⟩) ws.length cap] w fun e w' => e = .returned (.bool true) ∧ Below w.heap.size w w' := by
  have hn2 := hok.n2
  have hlt0 := hc.lt (by rw [vals_length]; exact hok.n1)
  have HR := Lib.hid (errW_of_ok hok h0)
  have hB : ∀ w1, SlC w1 b0 o0 (vals ws) → Calls Try.prog 14 #[.slice (some ⟨b0, o0, none⟩) ws.length cap] w1 (RT1 w1 (tS ws ws.length) (fin ws).bel (fin ws).ali) := fun w1 h => build_tab ws b0 o0 cap w1 h hok h0
  have hO := fin_ok hok h0
  have hW := fin_weight hok h0
  have hl := (fin_inv hok).1.lb
  obtain ⟨T, hT⟩ : ∃ T, tS ws ws.length = T := ⟨_, rfl⟩
  rw [hT] at hB hO hW
  generalize (fin ws).bel = bs at *
  generalize (fin ws).ali = ls at *
  rw [← hl] at hW
  have HT := Lib.hid hT
  have HL := Lib.hid hl
  have HB := Lib.hid hB
  have HO := Lib.hid hO
  have HW := Lib.hid hW
  have HC := Lib.hid hc
  have HK := Lib.hid hok
  have hs2 := hO.n2
  have hne : ((bs.length : Int) != (ws.length : Int)) = false := by rw [hl]; simp
  clear hB hO hc hok h0 hW hl hT
  go_enter Try.func4, Try.ntmps4
  go_wp2_with fail
  refine (awake43 _).mono ?_
  rintro e w1 ⟨rfl, b1⟩
  have HC1 := Lib.hid (HC.out.below b1)
  go_wp2_with fail
  have hk := rcheck_any ws (.slice (some ⟨b0, o0, none⟩) ws.length cap) _ (HC1.out.slB cap) (by omega)
  rw [HR.out] at hk
  refine hk.mono ?_
  rintro e w' ⟨rfl, rfl⟩
  clear hk
  go_wp2_with fail
  refine (HB.out _ HC1.out).mono ?_
  rintro e w2 ⟨b, o, cp, b2, o2, cp2, rfl, c1, c2, bb⟩
  have HC2 := Lib.hid (HC1.out.below bb)
  have hb := b1.trans (bb.mono b1.size)
  have HX := Lib.hid (BX.new T cp cp2 c1 c2)
  have HC3 := Lib.hid (HC2.out.below (below_new w2 (.cells #[.int .u64 (ui T), .slice (some ⟨b, o, none⟩) bs.length cp, .slice (some ⟨b2, o2, none⟩) bs.length cp2] 27)))
  clear c1 c2 HC1 HC2 bb b1 HC
  go_wp2_with fail
  have hk := rtab_any T bs ls _ _ _ (HX.out.cb.slB cp) (HX.out.ca.slA HO.out.na cp2) (by omega)
  rw [HO.out.err] at hk
  refine hk.mono ?_
  rintro e w3 ⟨rfl, b3⟩
  have HX3 := Lib.hid (HX.out.next b3)
  have HC4 := Lib.hid (HC3.out.below b3)
  obtain ⟨d0, d1, d2⟩ := tab_cells HX3.out.box
  clear b3 hk HX HC3
  go_wp2_with fail
  go_loopw [5, 41] (fun s i wr => ∃ k : Nat, k ≤ ws.length ∧ i = .int .i64 k ∧ s = .int .u64 (ui (BitVec.ofNat 64 ws.length * tS ws k)) ∧ BX w2 wr w2.heap.size T bs ls b o cp b2 o2 cp2 ∧ SlC wr b0 o0 (vals ws)) (fun _ i _ => ws.length - (intOf i).toNat)
  case atStart => exact ⟨0, by omega, rfl, by rw [tS, BitVec.mul_zero]; rfl, HX3.out, HC4.out⟩
  case round =>
    obtain ⟨k, hk, rfl, rfl, hx, hcw⟩ := hrel
    clear HX3 HC4 d0 d1 d2
    have HX := Lib.hid hx
    have HC := Lib.hid hcw
    obtain ⟨d0, d1, d2⟩ := tab_cells hx.box
    clear hx hcw
    by_cases hlt : k < ws.length
    · have hlt' : (k : Int) < (ws.length : Int) := by omega
      have hk' : (0 : Int) ≤ (k : Int) := by omega
      have hkb : k < bs.length := by rw [HL.out]; exact hlt
      have c1 := HC.out k _ (vals_get ws k hlt)
      rw [← getD_at ws k 0#64 hlt] at c1
      have hw1 := HW.out k hkb
      rw [show BitVec.ofNat 64 bs.length = BitVec.ofNat 64 ws.length by rw [HL.out]] at hw1
      have ht1 : BitVec.ofNat 64 ws.length * tS ws (k + 1) = BitVec.ofNat 64 ws.length * tS ws k + BitVec.ofNat 64 ws.length * ws.getD k 0#64 := by rw [tS, BitVec.mul_add]
      obtain ⟨x, hx⟩ : ∃ x, ws.getD k 0#64 = x := ⟨_, rfl⟩
      rw [hx] at c1 hw1 ht1
      have HT1 := Lib.hid ht1
      have HW1 := Lib.hid hw1
      clear hx ht1 hw1
      go_wp2_with fail
      have hk1 := weight_yes T bs ls b o cp b2 o2 cp2 _ HX.out.cb HX.out.ca HO.out k (by omega) (by omega)
      rw [HW1.out] at hk1
      refine hk1.mono ?_
      rintro e w4 ⟨rfl, bb⟩
      have HX4 := Lib.hid (HX.out.next bb)
      have HC4 := Lib.hid (HC.out.below bb)
      obtain ⟨e0, e1, e2⟩ := tab_cells HX4.out.box
      clear bb HX HC hk1 d0 d1 d2
      go_wp2_with fail
      have hk1 := rweight_any T bs ls b o cp b2 o2 cp2 _ HX4.out.cb HX4.out.ca HO.out k
      rw [HW1.out] at hk1
      refine hk1.mono ?_
      rintro e w5 ⟨rfl, bb⟩
      have HX5 := Lib.hid (HX4.out.next bb)
      have HC5 := Lib.hid (HC4.out.below bb)
      clear bb HX4 HC4 hk1 e0 e1 e2
      go_wp2_with fail
      go_roundw
      case rel => exact ⟨k + 1, by omega, by go_num, by rw [HT1.out], HX5.out, HC5.out⟩
      case measure => simp [intOf]; omega
    · have hk2 : k = ws.length := by omega
      subst hk2
      clear hlt
      rw [HT.out]
      go_wp2_with fail
      refine (weights_ok T bs ls ws b o cp b2 o2 cp2 _ HX.out.cb HX.out.ca HO.out HK.out HL.out.symm HW.out).mono ?_
      rintro e w6 ⟨vv, rfl, sv, bb⟩
      have HX6 := Lib.hid (HX.out.next bb)
      have HC6 := Lib.hid (HC.out.below bb)
      obtain ⟨b6, o6, cp6, rfl, hc6⟩ := slV_pos sv (by rw [vals_length]; exact HK.out.n1)
      rw [vals_length]
      have HS := Lib.hid (show SlC w6 b6 o6 (vals ws) from hc6)
      clear bb sv hc6 HX HC d0 d1 d2
      obtain ⟨d0, d1, d2⟩ := tab_cells HX6.out.box
      go_wp2_with fail
      go_loop [100] (fun i => ∃ k : Nat, k ≤ ws.length ∧ i = .int .i64 k) (fun i => ws.length - (intOf i).toNat)
      case atStart => exact ⟨0, by omega, rfl⟩
      case round =>
        obtain ⟨k, hk, rfl⟩ := hrel
        by_cases hlt : k < ws.length
        · have hlt' : (k : Int) < (ws.length : Int) := by omega
          have hk' : (0 : Int) ≤ (k : Int) := by omega
          have c1 := HC6.out k _ (vals_get ws k hlt)
          have c2 := HS.out k _ (vals_get ws k hlt)
          go_wp2_with fail
          go_round
          case rel => exact ⟨k + 1, by omega, by go_num⟩
          case measure => simp [intOf]; omega
        · have hk2 : k = ws.length := by omega
          subst hk2
          clear hlt
          go_wp2_with fail
          go_ret
          exact ⟨rfl, hb.trans (HX6.out.bel.mono hb.size)⟩
theorem weighs_law (v : Value) (ws : List (BitVec 64)) (w : World) (hv : SlV w v (vals ws)) (hl : ws.length ≤ 9223372036854775807) :
    Calls Try.prog 4 #[v] w fun e w' => e = .returned (.bool true) ∧ Below w.heap.size w w' := by
  by_cases hne : errW ws = 0
  · obtain ⟨hok, h0⟩ := errW_ok hne
    obtain ⟨b, o, cap, rfl, hc⟩ := slV_pos hv (by rw [vals_length]; exact hok.n1)
    rw [vals_length]
    exact weighs_ok ws b o cap w hc hok h0
  · exact weighs_bad ws v w hv hl hne
end Go.Proofs.Ytodflmngbkiemaa
