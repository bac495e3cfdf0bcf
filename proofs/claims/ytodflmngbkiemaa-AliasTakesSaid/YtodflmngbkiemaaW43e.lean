/- The walks of chapter 43's pairs and weights of a table that may be. No condition but on lengths. -/
import Derived.Test.YtodflmngbkiemaaW43d
namespace Go.Proofs.Ytodflmngbkiemaa
open Go.RowKit
/-- the u of a column's pair -/
def withB (bs : List (BitVec 64)) (c : Nat) (j : Int) (r : BitVec 64) : BitVec 64 := if (c : Int) = j then r else bs.getD c 0#64 + r
theorem within_any (T : BitVec 64) (bs : List (BitVec 64)) (ls : List Int) (b o cap b2 o2 cap2 : Nat) (w : World) (hc : SlC w b o (vals bs)) (hc2 : SlC w b2 o2 (ints ls)) (hok : OkT T bs ls) (c : Nat) (j : Int) (r : BitVec 64) (hcn : c < bs.length) :
    Calls Try.prog 54 #[.agg #[.int .u64 (ui T), .slice (some ⟨b, o, none⟩) bs.length cap, .slice (some ⟨b2, o2, none⟩) bs.length cap2], .int .i64 (c : Int), .int .i64 j, .int .u64 (ui r)] w fun e w' => e = .returned (.int .u64 (ui (withB bs c j r))) ∧ Below w.heap.size w w' := by
  have HX := Lib.hid (BX.new T cap cap2 hc hc2)
  have hn2 := hok.n2
  have hcn1 : (c : Int) < (bs.length : Int) := by omega
  have hcn2 : (0 : Int) ≤ (c : Int) := by omega
  obtain ⟨e1, _⟩ := HX.out.at hok c hcn
  have hb := HX.out.bel
  unfold withB
  clear hc hc2 hok HX
  generalize bs.getD c 0#64 = x at *
  by_cases hj : (c : Int) = j
  · rw [if_pos hj]
    have hj' : ((c : Int) == j) = true := by simpa using hj
    clear hj
    by_cases hx : ui r < ui x
    · go_enter Try.func54, Try.ntmps54
      go_wp2_with fail
      go_ret
      exact ⟨rfl, hb⟩
    · have hr : x + (r - x) = r := by rw [BitVec.add_comm, BitVec.sub_add_cancel]
      go_enter Try.func54, Try.ntmps54
      go_wp2_with fail
      go_ret
      exact ⟨rfl, hb⟩
  · rw [if_neg hj]
    have hj' : ((c : Int) == j) = false := by simpa using hj
    clear hj
    go_enter Try.func54, Try.ntmps54
    go_wp2_with fail
    go_ret
    exact ⟨rfl, hb⟩
theorem pair_out (T : BitVec 64) (bs : List (BitVec 64)) (ls : List Int) (b o cap b2 o2 cap2 : Nat) (w : World) (hc : SlC w b o (vals bs)) (hc2 : SlC w b2 o2 (ints ls)) (hok : OkT T bs ls) (j : Int) (r : BitVec 64) (hj : j < 0 ∨ (bs.length : Int) ≤ j) :
    Calls Try.prog 27 #[.agg #[.int .u64 (ui T), .slice (some ⟨b, o, none⟩) bs.length cap, .slice (some ⟨b2, o2, none⟩) bs.length cap2], .int .i64 j, .int .u64 (ui r)] w fun e w' => e = .returned (.tuple #[.int .u64 0, .int .u64 0, .int .i64 2]) ∧ Below w.heap.size w w' := by
  have HX := Lib.hid (BX.new T cap cap2 hc hc2)
  have HO := Lib.hid hok
  clear hc hc2 hok
  go_enter Try.func27, Try.ntmps27
  go_wp2_with fail
  refine (weight_dom T bs ls b o cap b2 o2 cap2 _ HX.out.cb HX.out.ca HO.out j hj).mono ?_
  rintro e w1 ⟨rfl, b1⟩
  have HX1 := Lib.hid (HX.out.next b1)
  go_wp2_with fail
  go_ret3
  exact ⟨rfl, HX1.out.bel⟩
theorem pair_over (T : BitVec 64) (bs : List (BitVec 64)) (ls : List Int) (b o cap b2 o2 cap2 : Nat) (w : World) (hc : SlC w b o (vals bs)) (hc2 : SlC w b2 o2 (ints ls)) (hok : OkT T bs ls) (j : Int) (r : BitVec 64) (h0 : 0 ≤ j) (h1 : j < (bs.length : Int)) (hr : ¬ ui r < ui (wS bs ls j T bs.length)) :
    Calls Try.prog 27 #[.agg #[.int .u64 (ui T), .slice (some ⟨b, o, none⟩) bs.length cap, .slice (some ⟨b2, o2, none⟩) bs.length cap2], .int .i64 j, .int .u64 (ui r)] w fun e w' => e = .returned (.tuple #[.int .u64 0, .int .u64 0, .int .i64 2]) ∧ Below w.heap.size w w' := by
  have HX := Lib.hid (BX.new T cap cap2 hc hc2)
  have hk := weight_yes T bs ls b o cap b2 o2 cap2 _ HX.out.cb HX.out.ca hok j h0 h1
  clear hc hc2 hok
  generalize wS bs ls j T bs.length = n at *
  go_enter Try.func27, Try.ntmps27
  go_wp2_with fail
  refine hk.mono ?_
  rintro e w1 ⟨rfl, b1⟩
  have HX1 := Lib.hid (HX.out.next b1)
  go_wp2_with fail
  go_ret3
  exact ⟨rfl, HX1.out.bel⟩
theorem sub_sum (r a b : BitVec 64) : r - a - b = r - (a + b) := by
  apply BitVec.eq_of_toNat_eq
  have := r.isLt
  have := a.isLt
  have := b.isLt
  simp only [BitVec.toNat_sub, BitVec.toNat_add]
  omega
theorem pair_yes (T : BitVec 64) (bs : List (BitVec 64)) (ls : List Int) (b o cap b2 o2 cap2 : Nat) (w : World) (hc : SlC w b o (vals bs)) (hc2 : SlC w b2 o2 (ints ls)) (hok : OkT T bs ls) (j : Int) (r : BitVec 64) (h0 : 0 ≤ j) (h1 : j < (bs.length : Int)) (hr : ui r < ui (wS bs ls j T bs.length)) (c : Nat) (hcn : c < bs.length)
    (hst : ∀ k, k < c → ui (pU bs ls j k T) ≤ ui (r - wS bs ls j T k)) (hla : ui (r - wS bs ls j T c) < ui (pU bs ls j c T)) :
    Calls Try.prog 27 #[.agg #[.int .u64 (ui T), .slice (some ⟨b, o, none⟩) bs.length cap, .slice (some ⟨b2, o2, none⟩) bs.length cap2], .int .i64 j, .int .u64 (ui r)] w fun e w' => e = .returned (.tuple #[.int .u64 (c : Int), .int .u64 (ui (withB bs c j (r - wS bs ls j T c))), .int .i64 0]) ∧ Below w.heap.size w w' := by
  have HX := Lib.hid (BX.new T cap cap2 hc hc2)
  have HO := Lib.hid hok
  have hn2 := hok.n2
  have hk := weight_yes T bs ls b o cap b2 o2 cap2 _ HX.out.cb HX.out.ca hok j h0 h1
  have HS := Lib.hid hst
  have HL := Lib.hid hla
  have hr' : ¬ ui (wS bs ls j T bs.length) ≤ ui r := by omega
  clear hc hc2 hok hst hla hr
  go_enter Try.func27, Try.ntmps27
  go_wp2_with fail
  refine hk.mono ?_
  rintro e w1 ⟨rfl, b1⟩
  have HX1 := Lib.hid (HX.out.next b1)
  obtain ⟨d0, d1, d2⟩ := tab_cells HX1.out.box
  clear b1 HX hk
  go_wp2_with fail
  go_loopw [2, 11] (fun rr i wr => ∃ k : Nat, k ≤ c ∧ i = .int .i64 k ∧ rr = .int .u64 (ui (r - wS bs ls j T k)) ∧ BX w wr w.heap.size T bs ls b o cap b2 o2 cap2) (fun _ i _ => c - (intOf i).toNat)
  case atStart => exact ⟨0, by omega, rfl, by rw [wS, BitVec.sub_zero], HX1.out⟩
  case round =>
    obtain ⟨k, hk, rfl, rfl, hbx⟩ := hrel
    have HB := Lib.hid hbx
    clear hbx d0 d1 d2 HX1
    obtain ⟨d0, d1, d2⟩ := tab_cells HB.out.box
    by_cases hlt : k < c
    · have hlt' : (k : Int) < (c : Int) := by omega
      have hge := HS.out k hlt
      go_wp2_with fail
      refine (part_at T bs ls b o cap b2 o2 cap2 _ HB.out.cb HB.out.ca HO.out k (by omega) j T).mono ?_
      rintro e w3 ⟨rfl, bb⟩
      have HB2 := Lib.hid (HB.out.next bb)
      clear bb HB d0 d1 d2
      obtain ⟨d0, d1, d2⟩ := tab_cells HB2.out.box
      go_wp2_with fail
      refine (part_at T bs ls b o cap b2 o2 cap2 _ HB2.out.cb HB2.out.ca HO.out k (by omega) j T).mono ?_
      rintro e w4 ⟨rfl, bb⟩
      have HB3 := Lib.hid (HB2.out.next bb)
      clear bb HB2 d0 d1 d2
      go_wp2_with fail
      go_roundw
      case rel => exact ⟨k + 1, by omega, by go_num, by rw [wS, sub_sum], HB3.out⟩
      case measure => simp [intOf]; omega
    · have hk2 : k = c := by omega
      subst hk2
      have hge : ¬ ui (pU bs ls j k T) ≤ ui (r - wS bs ls j T k) := by have := HL.out; omega
      clear hlt
      go_wp2_with fail
      refine (part_at T bs ls b o cap b2 o2 cap2 _ HB.out.cb HB.out.ca HO.out k (by omega) j T).mono ?_
      rintro e w3 ⟨rfl, bb⟩
      have HB2 := Lib.hid (HB.out.next bb)
      clear bb HB d0 d1 d2
      obtain ⟨d0, d1, d2⟩ := tab_cells HB2.out.box
      go_wp2_with fail
      refine (within_any T bs ls b o cap b2 o2 cap2 _ HB2.out.cb HB2.out.ca HO.out k j _ (by omega)).mono ?_
      rintro e w4 ⟨rfl, bb⟩
      have HB3 := Lib.hid (HB2.out.next bb)
      go_wp2_with fail
      go_ret3
      exact ⟨by rw [ui_len k (by omega)]; rfl, HB3.out.bel⟩
end Go.Proofs.Ytodflmngbkiemaa
