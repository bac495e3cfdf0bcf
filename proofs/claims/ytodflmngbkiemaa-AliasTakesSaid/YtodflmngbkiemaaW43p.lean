/- The walk of chapter 43's Take, second part: a first draw, then too few words or a second one. No condition but on lengths. -/
import Derived.Test.YtodflmngbkiemaaW43o
namespace Go.Proofs.Ytodflmngbkiemaa
open Go.RowKit
def posF (j1 j2 : Nat) : Nat → Nat
  | 0 => 0
  | 1 => j1 + 1
  | _ => j2 + 1
def drF (d1 d2 : List Value) : Nat → List Value
  | 0 => []
  | 1 => d1
  | _ => d1 ++ d2
set_option maxRecDepth 100000 in
set_option maxHeartbeats 1000000 in
theorem atake_none2 (T n1 : BitVec 64) (bs : List (BitVec 64)) (ls : List Int) (b o cap b2 o2 cap2 : Nat) (w : World) (hc : SlC w b o (vals bs)) (hc2 : SlC w b2 o2 (ints ls)) (hok : OkT T bs ls) (B : Nat) (xs : List (BitVec 64)) (wv tv : Value) (h : TapeAt w B xs 0 wv tv) (hb : b < B) (hb2 : b2 < B) (hn1 : BitVec.ofNat 64 bs.length = n1) (hz : (n1 == 0#64) = false) (hz2 : (T == 0#64) = false) (j1 : Nat) (hj1 : j1 < xs.length) (ht1 : takesL xs[j1] n1 = true) (hno1 : ∀ i, 0 ≤ i → (hi : i < j1) → takesL (xs[i]'(by omega)) n1 = false) (a1 r1 : BitVec 64) (u1 : Int) (ha1 : mulHi xs[j1] n1 = a1) (hr1 : rankL xs[j1] n1 = r1) (hu1 : ((j1 - 0 + 1 : Nat) : Int) = u1) (hno2 : ∀ i, j1 + 1 ≤ i → (hi : i < xs.length) → takesL xs[i] T = false) :
    Calls Try.prog 45 #[.pointer (some ⟨B, 0, none⟩), .agg #[.int .u64 (ui T), .slice (some ⟨b, o, none⟩) bs.length cap, .slice (some ⟨b2, o2, none⟩) bs.length cap2]] w (ATn w B xs xs.length wv 7) := by
  obtain ⟨i0, hi, hi0, hi1, hi2⟩ := info_parts info_draw
  have HX := Lib.hid (BX.new T cap cap2 hc hc2)
  have HO := Lib.hid hok
  have HH := Lib.hid h
  have hn2 := hok.n2
  have HN1 := Lib.hid (And.intro ht1 hno1)
  have HV1 := Lib.hid (And.intro ha1 (And.intro hr1 hu1))
  have HN2 := Lib.hid hno2
  clear hc hc2 hok h ht1 hno1 ha1 hr1 hu1 hno2
  go_enter Try.func45, Try.ntmps45
  go_wp2_with fail
  refine (HX.out.chk HO.out).mono ?_
  rintro e w1 ⟨rfl, b1⟩
  have HX1 := Lib.hid (HX.out.next b1)
  obtain ⟨d0, d1, d2⟩ := tab_cells HX1.out.box
  have HA := Lib.hid (at_start (n1 := n1) HH.out HX1.out hb hb2)
  clear b1 HX
  go_wp2_with fail
  go_loopw [8, 28] (fun v i wr => ∃ k : Nat, k ≤ 1 ∧ i = .int .i64 k ∧ ∃ tvk, AT w wr B w1.heap.size n1 T bs ls b o cap b2 o2 cap2 xs (posF j1 0 k) wv tvk v k (drF (drC a1 r1 u1) [] k)) (fun _ i _ => 3 - (intOf i).toNat)
  case atStart => exact ⟨0, by omega, rfl, tv, HA.out⟩
  case round =>
    obtain ⟨k, hk, rfl, tvk, ha⟩ := hrel
    clear HA HX1 d0 d1 d2
    have HA := Lib.hid ha
    have l0 := ha.lit.cell 0
    have l1 := ha.lit.cell 1
    clear ha
    rcases k with _ | _ | k
    · go_wp2_with fail
      refine (take_found3 B xs 0 j1 wv tvk n1 hz _ HA.out.tape (Nat.zero_le _) hj1 HN1.out.1 HN1.out.2 a1 r1 u1 HV1.out.1 HV1.out.2.1 HV1.out.2.2).mono ?_
      rintro e w2 ⟨tv2, rfl, t2, k2, bb⟩
      have HA2 := Lib.hid ((HA.out.taken t2 k2 bb).next (below_new _ (.cells #[.int .u64 (ui a1), .int .u64 (ui r1), .int .i64 u1] 57)))
      have hbd := Blk.new w2 57 #[.int .u64 (ui a1), .int .u64 (ui r1), .int .i64 u1]
      obtain ⟨g0, g1, g2⟩ := draw_cells hbd
      have hsz := HA2.out.bel.size
      rw [size_alloc] at hsz
      have hBl := HH.out.blk.lt
      clear bb t2 k2 HA l0 l1 hbd
      go_wp2_with (at_builtin; refine wpList_append_own _ rfl _ _ 78 rfl w.heap.size 57 i0 (.agg #[.int .u64 0, .int .u64 0, .int .i64 0]) 3 24 Try.underlying78 hi hi0 hi1 hi2 rfl (by decide) _ _ _ rfl (HA2.out.own.alloc _) ⟨w2.heap.size + 1, 0, none⟩ 1 1 (drC a1 r1 u1) rfl rfl ?a1 ?a2 ?a3 ?a4 ?a5 ?_)
      case a1 =>
        have hh := drC_new (w2.alloc (.cells #[.int .u64 (ui a1), .int .u64 (ui r1), .int .i64 u1] 57)) a1 r1 u1 57
        rw [size_alloc] at hh
        exact hh
      case a2 => intro x hx; simp [drC] at hx; rcases hx with rfl | rfl | rfl <;> rfl
      case a3 => unfold maxLen; omega
      case a4 => omega
      case a5 => have := HA2.out.bel.size; have := HA2.out.hB; simp; omega
      intro v2 w2b hown hgrow _
      have HB2 := Lib.hid ((HA2.out.next (below_new _ (.cells #[.int .u64 (ui a1), .int .u64 (ui r1), .int .i64 u1] 57))).grown hgrow hown)
      clear hown hgrow HA2 g0 g1 g2
      go_wp2_with fail
      go_roundw
      case rel => exact ⟨1, by omega, by go_num, tv2, HB2.out⟩
      case measure => simp [intOf]
    · go_wp2_with fail
      refine (take_none B xs (j1 + 1) wv tvk T hz2 _ HA.out.tape HN2.out).mono ?_
      rintro e w3 ⟨tv3, rfl, t3, bb⟩
      have HT3 := Lib.hid t3
      have hbb := HA.out.bel.trans bb
      clear bb t3 HA l0 l1
      go_wp2_with fail
      go_ret3
      exact ⟨tv3, rfl, HT3.out.alloc _, hbb.alloc (by have := hbb.size; have := HH.out.blk.lt; omega) _⟩
    · omega
set_option maxRecDepth 100000 in
set_option maxHeartbeats 1000000 in
theorem atake_both (T n1 : BitVec 64) (bs : List (BitVec 64)) (ls : List Int) (b o cap b2 o2 cap2 : Nat) (w : World) (hc : SlC w b o (vals bs)) (hc2 : SlC w b2 o2 (ints ls)) (hok : OkT T bs ls) (B : Nat) (xs : List (BitVec 64)) (wv tv : Value) (h : TapeAt w B xs 0 wv tv) (hb : b < B) (hb2 : b2 < B) (hn1 : BitVec.ofNat 64 bs.length = n1) (hz : (n1 == 0#64) = false) (hz2 : (T == 0#64) = false) (j1 : Nat) (hj1 : j1 < xs.length) (ht1 : takesL xs[j1] n1 = true) (hno1 : ∀ i, 0 ≤ i → (hi : i < j1) → takesL (xs[i]'(by omega)) n1 = false) (a1 r1 : BitVec 64) (u1 : Int) (ha1 : mulHi xs[j1] n1 = a1) (hr1 : rankL xs[j1] n1 = r1) (hu1 : ((j1 - 0 + 1 : Nat) : Int) = u1) (j2 : Nat) (hj2 : j2 < xs.length) (hjj : j1 + 1 ≤ j2) (ht2 : takesL xs[j2] T = true) (hno2 : ∀ i, j1 + 1 ≤ i → (hi : i < j2) → takesL (xs[i]'(by omega)) T = false) (a2 r2 : BitVec 64) (u2 : Int) (ha2 : mulHi xs[j2] T = a2) (hr2 : rankL xs[j2] T = r2) (hu2 : ((j2 - (j1 + 1) + 1 : Nat) : Int) = u2) (c : Nat) (hcn : c < bs.length) (hca : ui a1 = (c : Int)) (hua : ui a2 < ui T) :
    Calls Try.prog 45 #[.pointer (some ⟨B, 0, none⟩), .agg #[.int .u64 (ui T), .slice (some ⟨b, o, none⟩) bs.length cap, .slice (some ⟨b2, o2, none⟩) bs.length cap2]] w (ATy w B xs (j2 + 1) wv (tellT bs ls c a2) (drC a1 r1 u1 ++ drC a2 r2 u2)) := by
  obtain ⟨i0, hi, hi0, hi1, hi2⟩ := info_parts info_draw
  have HX := Lib.hid (BX.new T cap cap2 hc hc2)
  have HO := Lib.hid hok
  have HH := Lib.hid h
  have hn2 := hok.n2
  have HN1 := Lib.hid (And.intro ht1 hno1)
  have HV1 := Lib.hid (And.intro ha1 (And.intro hr1 hu1))
  have HN2 := Lib.hid hno2
  have HV2 := Lib.hid (And.intro ha2 (And.intro hr2 hu2))
  have HT2 := Lib.hid ht2
  have HCA := Lib.hid hca
  clear hc hc2 hok h ht1 hno1 ha1 hr1 hu1 hno2 ha2 hr2 hu2 ht2 hca
  go_enter Try.func45, Try.ntmps45
  go_wp2_with fail
  refine (HX.out.chk HO.out).mono ?_
  rintro e w1 ⟨rfl, b1⟩
  have HX1 := Lib.hid (HX.out.next b1)
  obtain ⟨d0, d1, d2⟩ := tab_cells HX1.out.box
  have HA := Lib.hid (at_start (n1 := n1) HH.out HX1.out hb hb2)
  clear b1 HX
  go_wp2_with fail
  go_loopw [8, 28] (fun v i wr => ∃ k : Nat, k ≤ 2 ∧ i = .int .i64 k ∧ ∃ tvk, AT w wr B w1.heap.size n1 T bs ls b o cap b2 o2 cap2 xs (posF j1 j2 k) wv tvk v k (drF (drC a1 r1 u1) (drC a2 r2 u2) k)) (fun _ i _ => 3 - (intOf i).toNat)
  case atStart => exact ⟨0, by omega, rfl, tv, HA.out⟩
  case round =>
    obtain ⟨k, hk, rfl, tvk, ha⟩ := hrel
    clear HA HX1 d0 d1 d2
    have HA := Lib.hid ha
    have l0 := ha.lit.cell 0
    have l1 := ha.lit.cell 1
    clear ha
    rcases k with _ | _ | k
    · go_wp2_with fail
      refine (take_found3 B xs 0 j1 wv tvk n1 hz _ HA.out.tape (Nat.zero_le _) hj1 HN1.out.1 HN1.out.2 a1 r1 u1 HV1.out.1 HV1.out.2.1 HV1.out.2.2).mono ?_
      rintro e w2 ⟨tv2, rfl, t2, k2, bb⟩
      have HA2 := Lib.hid ((HA.out.taken t2 k2 bb).next (below_new _ (.cells #[.int .u64 (ui a1), .int .u64 (ui r1), .int .i64 u1] 57)))
      have hbd := Blk.new w2 57 #[.int .u64 (ui a1), .int .u64 (ui r1), .int .i64 u1]
      obtain ⟨g0, g1, g2⟩ := draw_cells hbd
      have hsz := HA2.out.bel.size
      rw [size_alloc] at hsz
      have hBl := HH.out.blk.lt
      clear bb t2 k2 HA l0 l1 hbd
      go_wp2_with (at_builtin; refine wpList_append_own _ rfl _ _ 78 rfl w.heap.size 57 i0 (.agg #[.int .u64 0, .int .u64 0, .int .i64 0]) 3 24 Try.underlying78 hi hi0 hi1 hi2 rfl (by decide) _ _ _ rfl (HA2.out.own.alloc _) ⟨w2.heap.size + 1, 0, none⟩ 1 1 (drC a1 r1 u1) rfl rfl ?a1 ?a2 ?a3 ?a4 ?a5 ?_)
      case a1 =>
        have hh := drC_new (w2.alloc (.cells #[.int .u64 (ui a1), .int .u64 (ui r1), .int .i64 u1] 57)) a1 r1 u1 57
        rw [size_alloc] at hh
        exact hh
      case a2 => intro x hx; simp [drC] at hx; rcases hx with rfl | rfl | rfl <;> rfl
      case a3 => unfold maxLen; omega
      case a4 => omega
      case a5 => have := HA2.out.bel.size; have := HA2.out.hB; simp; omega
      intro v2 w2b hown hgrow _
      have HB2 := Lib.hid ((HA2.out.next (below_new _ (.cells #[.int .u64 (ui a1), .int .u64 (ui r1), .int .i64 u1] 57))).grown hgrow hown)
      clear hown hgrow HA2 g0 g1 g2
      go_wp2_with fail
      go_roundw
      case rel => exact ⟨1, by omega, by go_num, tv2, HB2.out⟩
      case measure => simp [intOf]
    · go_wp2_with fail
      refine (take_found3 B xs (j1 + 1) j2 wv tvk T hz2 _ HA.out.tape hjj hj2 HT2.out HN2.out a2 r2 u2 HV2.out.1 HV2.out.2.1 HV2.out.2.2).mono ?_
      rintro e w3 ⟨tv3, rfl, t3, k3, bb⟩
      have HA3 := Lib.hid ((HA.out.taken t3 k3 bb).next (below_new _ (.cells #[.int .u64 (ui a2), .int .u64 (ui r2), .int .i64 u2] 57)))
      have hbd := Blk.new w3 57 #[.int .u64 (ui a2), .int .u64 (ui r2), .int .i64 u2]
      obtain ⟨g0, g1, g2⟩ := draw_cells hbd
      have hsz := HA3.out.bel.size
      rw [size_alloc] at hsz
      have hBl := HH.out.blk.lt
      clear bb t3 k3 HA l0 l1 hbd
      go_wp2_with (at_builtin; refine wpList_append_own _ rfl _ _ 78 rfl w.heap.size 57 i0 (.agg #[.int .u64 0, .int .u64 0, .int .i64 0]) 3 24 Try.underlying78 hi hi0 hi1 hi2 rfl (by decide) _ _ _ rfl (HA3.out.own.alloc _) ⟨w3.heap.size + 1, 0, none⟩ 1 1 (drC a2 r2 u2) rfl rfl ?b1 ?b2 ?b3 ?b4 ?b5 ?_)
      case b1 =>
        have hh := drC_new (w3.alloc (.cells #[.int .u64 (ui a2), .int .u64 (ui r2), .int .i64 u2] 57)) a2 r2 u2 57
        rw [size_alloc] at hh
        exact hh
      case b2 => intro x hx; simp [drC] at hx; rcases hx with rfl | rfl | rfl <;> rfl
      case b3 => unfold maxLen; omega
      case b4 => omega
      case b5 => have := HA3.out.bel.size; have := HA3.out.hB; simp; omega
      intro v3 w3b hown hgrow _
      have HB3 := Lib.hid ((HA3.out.next (below_new _ (.cells #[.int .u64 (ui a2), .int .u64 (ui r2), .int .i64 u2] 57))).grown hgrow hown)
      clear hown hgrow HA3 g0 g1 g2
      go_wp2_with fail
      go_roundw
      case rel => exact ⟨2, by omega, by go_num, tv3, HB3.out⟩
      case measure => simp [intOf]
    · obtain rfl : k = 0 := by omega
      have hB := HA.out.hB
      obtain ⟨g, cg, rfl, hg, hgl⟩ := HA.out.own.form (by omega)
      have e1 := HA.out.own.cellAt 0 (by omega)
      have e2 := HA.out.own.cellAt 3 (by omega)
      rw [show (drF (drC a1 r1 u1) (drC a2 r2 u2) (0 + 1 + 1))[0]? = some (.int .u64 (ui a1)) from rfl, HCA.out] at e1
      rw [show (drF (drC a1 r1 u1) (drC a2 r2 u2) (0 + 1 + 1))[3]? = some (.int .u64 (ui a2)) from rfl] at e2
      obtain ⟨d0, d1, d2⟩ := tab_cells HA.out.box
      go_wp2_with fail
      go_region_with (first
        | (go_at_call 23; (first | refine (tell_yes T bs ls b o cap b2 o2 cap2 _ HA.out.cb HA.out.ca HO.out c a2 hcn hua).mono ?_ | refine (tell_yes T bs ls b o cap b2 o2 cap2 _ HA.out.cb.drewS HA.out.ca.drewS HO.out c a2 hcn hua).mono ?_); rintro e w9 ⟨rfl, bb⟩; (first | have HA9 := Lib.hid (HA.out.next bb) | have HA9 := Lib.hid ((HA.out.next (Below.refl _ _).drew).next bb)); clear bb))
      all_goals go_wp2_with fail
      all_goals go_ret3
      all_goals exact ⟨tvk, _, rfl, HA9.out.tape, HA9.out.bel, HA9.out.own⟩
end Go.Proofs.Ytodflmngbkiemaa
