/- The walks of chapter 43's functions that reckon of a table that may be: the reference's weights, ranks, what is ahead, pairs. No condition but on lengths. -/
import Derived.Test.YtodflmngbkiemaaW43c
namespace Go.Proofs.Ytodflmngbkiemaa
open Go.RowKit
theorem mnB_T {T x : BitVec 64} (h : x.toNat ≤ T.toNat) : mnB T x = x := by
  unfold mnB
  split
  · rfl
  · rename_i hn
    rw [ui_lt_iff] at hn
    apply BitVec.eq_of_toNat_eq; omega
theorem partB_alt (b : BitVec 64) (a c j : Int) (u : BitVec 64) : partB b a c j u = (if c = j then mnB u b else 0#64) + (if a = j then u - mnB u b else 0#64) := by
  unfold partB
  congr 1
  by_cases ha : a = j
  · rw [if_pos ha]
    by_cases hu : ui b < ui u
    · rw [if_pos ⟨ha, hu⟩]; unfold mnB; rw [if_pos hu]
    · rw [if_neg (fun h => hu h.2)]; unfold mnB; rw [if_neg hu, BitVec.sub_self]
  · rw [if_neg ha, if_neg (fun h => ha h.1)]
theorem partB_T {b T : BitVec 64} (h : b.toNat ≤ T.toNat) (a c j : Int) : partB b a c j T = (if c = j then b else 0#64) + (if a = j then T - b else 0#64) := by
  rw [partB_alt, mnB_T h]
theorem BX.at {w0 w : World} {B b o cap b2 o2 cap2 : Nat} {T : BitVec 64} {bs : List (BitVec 64)} {ls : List Int} (h : BX w0 w B T bs ls b o cap b2 o2 cap2) (hok : OkT T bs ls) (k : Nat) (hk : k < bs.length) :
    w.cell? ⟨b, o + k, none⟩ = some (.int .u64 (ui (bs.getD k 0#64))) ∧ w.cell? ⟨b2, o2 + k, none⟩ = some (.int .i64 (ls.getD k 0)) := by
  rw [getD_at bs k _ hk, getD_at ls k _ (by rw [hok.na]; exact hk)]
  exact ⟨h.cb k _ (vals_get bs k hk), h.ca k _ (ints_get ls k (by rw [hok.na]; exact hk))⟩
theorem OkT.at {T : BitVec 64} {bs : List (BitVec 64)} {ls : List Int} (hok : OkT T bs ls) (k : Nat) (hk : k < bs.length) : (bs.getD k 0#64).toNat ≤ T.toNat := by
  rw [getD_at bs k _ hk]; exact hok.hb k hk
theorem rweight_any (T : BitVec 64) (bs : List (BitVec 64)) (ls : List Int) (b o cap b2 o2 cap2 : Nat) (w : World) (hc : SlC w b o (vals bs)) (hc2 : SlC w b2 o2 (ints ls)) (hok : OkT T bs ls) (j : Int) :
    Calls Try.prog 21 #[.agg #[.int .u64 (ui T), .slice (some ⟨b, o, none⟩) bs.length cap, .slice (some ⟨b2, o2, none⟩) bs.length cap2], .int .i64 j] w fun e w' => e = .returned (.int .u64 (ui (wS bs ls j T bs.length))) ∧ Below w.heap.size w w' := by
  have HX := Lib.hid (BX.new T cap cap2 hc hc2)
  have HO := Lib.hid hok
  have hn2 := hok.n2
  clear hc hc2 hok
  go_enter Try.func21, Try.ntmps21
  go_wp2_with fail
  go_loopw [5, 10] (fun nn i wr => ∃ k : Nat, k ≤ bs.length ∧ i = .int .i64 k ∧ nn = .int .u64 (ui (wS bs ls j T k)) ∧ BX w wr w.heap.size T bs ls b o cap b2 o2 cap2) (fun _ i _ => bs.length - (intOf i).toNat)
  case atStart => exact ⟨0, by omega, rfl, rfl, HX.out⟩
  case round =>
    obtain ⟨k, hk, rfl, rfl, hbx⟩ := hrel
    have HB := Lib.hid hbx
    clear hbx
    obtain ⟨d0, d1, d2⟩ := tab_cells HB.out.box
    by_cases hlt : k < bs.length
    · have hlt' : (k : Int) < (bs.length : Int) := by omega
      have hk' : (0 : Int) ≤ (k : Int) := by omega
      obtain ⟨e1, e2⟩ := HB.out.at HO.out k hlt
      clear HX
      generalize hx : bs.getD k 0#64 = x at *
      generalize ha0 : ls.getD k 0 = a at *
      by_cases hj : (k : Int) = j
      · have hj' : ((k : Int) == j) = true := by simpa using hj
        by_cases ha : a = j
        · have ha' : (a == j) = true := by simpa using ha
          have hr : pU bs ls j k T = x + (T - x) := by
            unfold pU
            rw [partB_T (HO.out.at k hlt), hx, ha0]
            rw [if_pos hj, if_pos ha]
          clear hj ha
          go_wp2_with fail
          go_quiet (fail)
          go_wp2_with fail
          go_roundw
          case rel => exact ⟨k + 1, by omega, by go_num, by rw [wS, hr, ← BitVec.add_assoc], HB.out.drewN _⟩
          case measure => simp [intOf]; omega
        · have ha' : (a == j) = false := by simpa using ha
          have hr : pU bs ls j k T = x := by
            unfold pU
            rw [partB_T (HO.out.at k hlt), hx, ha0]
            rw [if_pos hj, if_neg ha, BitVec.add_zero]
          clear hj ha
          go_wp2_with fail
          go_roundw
          case rel => exact ⟨k + 1, by omega, by go_num, by rw [wS, hr], HB.out⟩
          case measure => simp [intOf]; omega
      · have hj' : ((k : Int) == j) = false := by simpa using hj
        by_cases ha : a = j
        · have ha' : (a == j) = true := by simpa using ha
          have hr : pU bs ls j k T = T - x := by
            unfold pU
            rw [partB_T (HO.out.at k hlt), hx, ha0]
            rw [if_neg hj, if_pos ha, BitVec.zero_add]
          clear hj ha
          go_wp2_with fail
          go_quiet (fail)
          go_wp2_with fail
          go_roundw
          case rel => exact ⟨k + 1, by omega, by go_num, by rw [wS, hr], HB.out.drewN _⟩
          case measure => simp [intOf]; omega
        · have ha' : (a == j) = false := by simpa using ha
          have hr : pU bs ls j k T = 0#64 := by
            unfold pU
            rw [partB_T (HO.out.at k hlt), hx, ha0]
            rw [if_neg hj, if_neg ha, BitVec.add_zero]
          clear hj ha
          go_wp2_with fail
          go_roundw
          case rel => exact ⟨k + 1, by omega, by go_num, by rw [wS, hr, BitVec.add_zero], HB.out⟩
          case measure => simp [intOf]; omega
    · have hk2 : k = bs.length := by omega
      subst hk2
      clear hlt
      go_wp2_with fail
      go_ret
      exact ⟨rfl, HB.out.bel⟩
theorem rank_dom (T : BitVec 64) (bs : List (BitVec 64)) (ls : List Int) (b o cap b2 o2 cap2 : Nat) (w : World) (hc : SlC w b o (vals bs)) (hc2 : SlC w b2 o2 (ints ls)) (hok : OkT T bs ls) (c u : BitVec 64) (h : ¬ (ui c < (bs.length : Int) ∧ ui u < ui T)) :
    Calls Try.prog 24 #[.agg #[.int .u64 (ui T), .slice (some ⟨b, o, none⟩) bs.length cap, .slice (some ⟨b2, o2, none⟩) bs.length cap2], .int .u64 (ui c), .int .u64 (ui u)] w fun e w' => e = .returned (.tuple #[.int .i64 0, .int .u64 0, .int .i64 2]) ∧ Below w.heap.size w w' := by
  have HX := Lib.hid (BX.new T cap cap2 hc hc2)
  have HO := Lib.hid hok
  clear hc hc2 hok
  go_enter Try.func24, Try.ntmps24
  go_wp2_with fail
  refine (tell_dom T bs ls b o cap b2 o2 cap2 _ HX.out.cb HX.out.ca HO.out c u h).mono ?_
  rintro e w1 ⟨rfl, b1⟩
  have HX1 := Lib.hid (HX.out.next b1)
  go_wp2_with fail
  go_ret3
  exact ⟨rfl, HX1.out.bel⟩
theorem arank_yes (T : BitVec 64) (bs : List (BitVec 64)) (ls : List Int) (b o cap b2 o2 cap2 : Nat) (w : World) (hc : SlC w b o (vals bs)) (hc2 : SlC w b2 o2 (ints ls)) (hok : OkT T bs ls) (c : Nat) (u : BitVec 64) (hcn : c < bs.length) (hu : ui u < ui T) :
    Calls Try.prog 24 #[.agg #[.int .u64 (ui T), .slice (some ⟨b, o, none⟩) bs.length cap, .slice (some ⟨b2, o2, none⟩) bs.length cap2], .int .u64 (c : Int), .int .u64 (ui u)] w fun e w' => e = .returned (.tuple #[.int .i64 (tellT bs ls c u), .int .u64 (ui (pU bs ls (tellT bs ls c u) c u + wS bs ls (tellT bs ls c u) T c)), .int .i64 0]) ∧ Below w.heap.size w w' := by
  have HX := Lib.hid (BX.new T cap cap2 hc hc2)
  have HO := Lib.hid hok
  have hn2 := hok.n2
  have hcn1 : (c : Int) < (bs.length : Int) := by omega
  have hcn2 : (0 : Int) ≤ (c : Int) := by omega
  have hk := tell_yes T bs ls b o cap b2 o2 cap2 _ HX.out.cb HX.out.ca hok c u hcn hu
  clear hc hc2 hok
  generalize tellT bs ls c u = j at *
  go_enter Try.func24, Try.ntmps24
  go_wp2_with fail
  refine hk.mono ?_
  rintro e w1 ⟨rfl, b1⟩
  have HX1 := Lib.hid (HX.out.next b1)
  obtain ⟨d0, d1, d2⟩ := tab_cells HX1.out.box
  clear b1 HX hk
  go_wp2_with fail
  refine (part_at T bs ls b o cap b2 o2 cap2 _ HX1.out.cb HX1.out.ca HO.out c hcn j u).mono ?_
  rintro e w2 ⟨rfl, b2⟩
  have HX2 := Lib.hid (HX1.out.next b2)
  clear b2 HX1 d0 d1 d2
  obtain ⟨d0, d1, d2⟩ := tab_cells HX2.out.box
  go_wp2_with fail
  go_loopw [11, 31] (fun nn i wr => ∃ k : Nat, k ≤ c ∧ i = .int .i64 k ∧ nn = .int .u64 (ui (pU bs ls j c u + wS bs ls j T k)) ∧ BX w wr w.heap.size T bs ls b o cap b2 o2 cap2) (fun _ i _ => c - (intOf i).toNat)
  case atStart => exact ⟨0, by omega, rfl, by rw [wS, BitVec.add_zero], HX2.out⟩
  case round =>
    obtain ⟨k, hk, rfl, rfl, hbx⟩ := hrel
    have HB := Lib.hid hbx
    clear hbx d0 d1 d2
    obtain ⟨d0, d1, d2⟩ := tab_cells HB.out.box
    by_cases hlt : k < c
    · have hlt' : (k : Int) < (c : Int) := by omega
      go_wp2_with fail
      refine (part_at T bs ls b o cap b2 o2 cap2 _ HB.out.cb HB.out.ca HO.out k (by omega) j T).mono ?_
      rintro e w3 ⟨rfl, bb⟩
      have HB2 := Lib.hid (HB.out.next bb)
      clear bb HB d0 d1 d2 HX2
      go_wp2_with fail
      go_roundw
      case rel => exact ⟨k + 1, by omega, by go_num, by rw [wS, BitVec.add_assoc], HB2.out⟩
      case measure => simp [intOf]; omega
    · have hk2 : k = c := by omega
      subst hk2
      clear hlt
      go_wp2_with fail
      go_ret3
      exact ⟨rfl, HB.out.bel⟩
/-- the parts of the first columns with all u ahead of one -/
def aS (bs : List (BitVec 64)) (ls : List Int) (j : Int) (T : BitVec 64) (c : Nat) (u : BitVec 64) : Nat → BitVec 64
  | 0 => 0#64
  | k + 1 => if c < k then aS bs ls j T c u k else aS bs ls j T c u k + pU bs ls j k (if k = c then u else T)
theorem ahead_any (T : BitVec 64) (bs : List (BitVec 64)) (ls : List Int) (b o cap b2 o2 cap2 : Nat) (w : World) (hc : SlC w b o (vals bs)) (hc2 : SlC w b2 o2 (ints ls)) (hok : OkT T bs ls) (c : Nat) (u : BitVec 64) (j : Int) (hcn : c < bs.length) :
    Calls Try.prog 26 #[.agg #[.int .u64 (ui T), .slice (some ⟨b, o, none⟩) bs.length cap, .slice (some ⟨b2, o2, none⟩) bs.length cap2], .int .u64 (c : Int), .int .u64 (ui u), .int .i64 j] w fun e w' => e = .returned (.int .u64 (ui (aS bs ls j T c u bs.length))) ∧ Below w.heap.size w w' := by
  have HX := Lib.hid (BX.new T cap cap2 hc hc2)
  have HO := Lib.hid hok
  have hn2 := hok.n2
  have hcn1 : (c : Int) < (bs.length : Int) := by omega
  have hcn2 : (0 : Int) ≤ (c : Int) := by omega
  clear hc hc2 hok
  go_enter Try.func26, Try.ntmps26
  go_wp2_with fail
  go_loopw [9, 15] (fun nn i wr => ∃ k : Nat, k ≤ bs.length ∧ i = .int .i64 k ∧ nn = .int .u64 (ui (aS bs ls j T c u k)) ∧ BX w wr w.heap.size T bs ls b o cap b2 o2 cap2) (fun _ i _ => bs.length - (intOf i).toNat)
  case atStart => exact ⟨0, by omega, rfl, rfl, HX.out⟩
  case round =>
    obtain ⟨k, hk, rfl, rfl, hbx⟩ := hrel
    have HB := Lib.hid hbx
    clear hbx
    obtain ⟨d0, d1, d2⟩ := tab_cells HB.out.box
    by_cases hlt : k < bs.length
    · have hlt' : (k : Int) < (bs.length : Int) := by omega
      have hk' : (0 : Int) ≤ (k : Int) := by omega
      obtain ⟨e1, e2⟩ := HB.out.at HO.out k hlt
      clear HX
      generalize hx : bs.getD k 0#64 = x at *
      generalize ha0 : ls.getD k 0 = a at *
      by_cases hck : c < k
      · have hck' : (c : Int) < ui (BitVec.ofNat 64 k) := by rw [ui_len k (by omega)]; omega
        go_wp2_with fail
        go_roundw
        case rel => exact ⟨k + 1, by omega, by go_num, by rw [aS, if_pos hck], HB.out⟩
        case measure => simp [intOf]; omega
      · have hck' : ¬ (c : Int) < ui (BitVec.ofNat 64 k) := by rw [ui_len k (by omega)]; omega
        by_cases hkc : k = c
        · subst hkc
          have hm : (if k = k then u else T) = u := if_pos rfl
          have hkc' : (ui (BitVec.ofNat 64 k) == (k : Int)) = true := by rw [ui_len k (by omega)]; simp
          by_cases hj : (k : Int) = j
          · have hj' : ((k : Int) == j) = true := by simpa using hj
            by_cases ha : a = j
            · have ha' : (a == j) = true := by simpa using ha
              have hr : pU bs ls j k u = mnB u x + (u - mnB u x) := by
                unfold pU
                rw [hx, ha0]
                rw [partB_alt, if_pos hj, if_pos ha]
              clear hj ha
              go_wp2_with fail
              go_roundw
              case rel => exact ⟨k + 1, by omega, by go_num, by rw [aS, if_neg (by omega), hm, hr, ← BitVec.add_assoc], HB.out⟩
              case measure => simp [intOf]; omega
            · have ha' : (a == j) = false := by simpa using ha
              have hr : pU bs ls j k u = mnB u x := by
                unfold pU
                rw [hx, ha0]
                rw [partB_alt, if_pos hj, if_neg ha, BitVec.add_zero]
              clear hj ha
              go_wp2_with fail
              go_roundw
              case rel => exact ⟨k + 1, by omega, by go_num, by rw [aS, if_neg (by omega), hm, hr], HB.out⟩
              case measure => simp [intOf]; omega
          · have hj' : ((k : Int) == j) = false := by simpa using hj
            by_cases ha : a = j
            · have ha' : (a == j) = true := by simpa using ha
              have hr : pU bs ls j k u = u - mnB u x := by
                unfold pU
                rw [hx, ha0]
                rw [partB_alt, if_neg hj, if_pos ha, BitVec.zero_add]
              clear hj ha
              go_wp2_with fail
              go_roundw
              case rel => exact ⟨k + 1, by omega, by go_num, by rw [aS, if_neg (by omega), hm, hr], HB.out⟩
              case measure => simp [intOf]; omega
            · have ha' : (a == j) = false := by simpa using ha
              have hr : pU bs ls j k u = 0#64 := by
                unfold pU
                rw [hx, ha0]
                rw [partB_alt, if_neg hj, if_neg ha, BitVec.add_zero]
              clear hj ha
              go_wp2_with fail
              go_roundw
              case rel => exact ⟨k + 1, by omega, by go_num, by rw [aS, if_neg (by omega), hm, hr, BitVec.add_zero], HB.out⟩
              case measure => simp [intOf]; omega
        · have hkc' : (ui (BitVec.ofNat 64 k) == (c : Int)) = false := by rw [beq_eq_false_iff_ne, ui_len k (by omega)]; omega
          have hm : (if k = c then u else T) = T := if_neg hkc
          by_cases hj : (k : Int) = j
          · have hj' : ((k : Int) == j) = true := by simpa using hj
            by_cases ha : a = j
            · have ha' : (a == j) = true := by simpa using ha
              have hr : pU bs ls j k T = mnB T x + (T - mnB T x) := by
                unfold pU
                rw [hx, ha0]
                rw [partB_alt, if_pos hj, if_pos ha]
              clear hj ha
              go_wp2_with fail
              go_roundw
              case rel => exact ⟨k + 1, by omega, by go_num, by rw [aS, if_neg (by omega), hm, hr, ← BitVec.add_assoc], HB.out⟩
              case measure => simp [intOf]; omega
            · have ha' : (a == j) = false := by simpa using ha
              have hr : pU bs ls j k T = mnB T x := by
                unfold pU
                rw [hx, ha0]
                rw [partB_alt, if_pos hj, if_neg ha, BitVec.add_zero]
              clear hj ha
              go_wp2_with fail
              go_roundw
              case rel => exact ⟨k + 1, by omega, by go_num, by rw [aS, if_neg (by omega), hm, hr], HB.out⟩
              case measure => simp [intOf]; omega
          · have hj' : ((k : Int) == j) = false := by simpa using hj
            by_cases ha : a = j
            · have ha' : (a == j) = true := by simpa using ha
              have hr : pU bs ls j k T = T - mnB T x := by
                unfold pU
                rw [hx, ha0]
                rw [partB_alt, if_neg hj, if_pos ha, BitVec.zero_add]
              clear hj ha
              go_wp2_with fail
              go_roundw
              case rel => exact ⟨k + 1, by omega, by go_num, by rw [aS, if_neg (by omega), hm, hr], HB.out⟩
              case measure => simp [intOf]; omega
            · have ha' : (a == j) = false := by simpa using ha
              have hr : pU bs ls j k T = 0#64 := by
                unfold pU
                rw [hx, ha0]
                rw [partB_alt, if_neg hj, if_neg ha, BitVec.add_zero]
              clear hj ha
              go_wp2_with fail
              go_roundw
              case rel => exact ⟨k + 1, by omega, by go_num, by rw [aS, if_neg (by omega), hm, hr, BitVec.add_zero], HB.out⟩
              case measure => simp [intOf]; omega
    · have hk2 : k = bs.length := by omega
      subst hk2
      clear hlt
      go_wp2_with fail
      go_ret
      exact ⟨rfl, HB.out.bel⟩
end Go.Proofs.Ytodflmngbkiemaa
