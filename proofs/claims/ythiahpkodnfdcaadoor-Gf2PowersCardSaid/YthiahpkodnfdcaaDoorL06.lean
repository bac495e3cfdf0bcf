/- The walk of chapter 6's law of degrees and coefficients. For every input. No condition but the table of trailing zeros. -/
import Derived.Test.YthiahpkodnfdcaaDoorG9
namespace Go.Proofs.YthiahpkodnfdcaaDoor
open Go.RowKit
theorem tells06_long (v : Value) (xs : List (BitVec 64)) (n : Int) (w : World) (h : SlK w v xs) (hl : xs.length ≤ 9223372036854775807) (hT : Tab w) (h6 : ¬ xs.length ≤ 6) :
    Calls Tryd.prog 3 #[v, .int .i64 n] w fun e w' => e = .returned (.bool true) ∧ Below w.heap.size w w' := by
  have H := Lib.hid h
  have HT := Lib.hid hT
  have h6' := decide_eq_false h6
  clear h hT
  go_enter Tryd.func3, Tryd.ntmps3
  go_wp2_with fail
  refine (awake06 w HT.out).mono ?_
  rintro e w1 ⟨rfl, b1⟩
  go_wp2_with fail
  have hk := short_any v xs w1 (H.out.below b1) hl
  rw [h6'] at hk
  refine hk.mono ?_
  rintro e w' ⟨rfl, rfl⟩
  clear hk
  go_wp2_with fail
  go_ret
  exact ⟨rfl, b1⟩
theorem tells06_neg (v : Value) (xs : List (BitVec 64)) (n : Int) (w : World) (h : SlK w v xs) (hT : Tab w) (h6 : xs.length ≤ 6) (hnhi : n ≤ 9223372036854775807) (hn : n < 0) :
    Calls Tryd.prog 3 #[v, .int .i64 n] w fun e w' => e = .returned (.bool true) ∧ Below w.heap.size w w' := by
  have H := Lib.hid h
  have HT := Lib.hid hT
  have h6' := decide_eq_true h6
  have hp : coefB (nv xs) n = false := by unfold coefB; rw [decide_eq_false (by omega)]; rfl
  have hdeg := (@sz_le (nv xs) (64 * xs.length)).2 (nv_lt xs)
  obtain ⟨s, hs⟩ : ∃ s, sz (nv xs) = s := ⟨_, rfl⟩
  have HS := Lib.hid hs
  have HP := Lib.hid hp
  obtain ⟨L, hL⟩ : ∃ L, 64 * xs.length = L := ⟨_, rfl⟩
  have HLL := Lib.hid hL
  have hL6 : L ≤ 384 := by omega
  have hLlt : nv xs < 2 ^ L := by rw [← hL]; exact nv_lt xs
  have HLT := Lib.hid hLlt
  try rw [hL] at hn
  clear h hT hp hs hdeg hL hLlt
  have hd : decide (0 ≤ n) = false := by simpa using hn
  go_enter Tryd.func3, Tryd.ntmps3
  go_wp2_with fail
  refine (awake06 w HT.out).mono ?_
  rintro e w1 ⟨rfl, b1⟩
  go_wp2_with fail
  have hk := short_any v xs w1 (H.out.below b1) (by omega)
  rw [h6'] at hk
  refine hk.mono ?_
  rintro e w' ⟨rfl, rfl⟩
  clear hk
  go_wp2_with fail
  refine (of_any v xs w1 (H.out.below b1) (by omega)).mono ?_
  rintro e w2 ⟨vb, rfl, s2, b2⟩
  rw [HLL.out] at s2
  obtain ⟨aob, capb, rfl⟩ := s2.len
  have HB := Lib.hid (And.intro s2 (b1.trans (b2.mono b1.size)))
  clear s2 b2 b1
  go_wp2_with fail
  have hk := deg_any v xs w2 (H.out.below HB.out.2) (by omega)
  rw [HS.out] at hk
  refine hk.mono ?_
  rintro e w' ⟨rfl, rfl⟩
  clear hk
  go_wp2_with fail
  have hk := rdeg_any _ (nv xs) L w2 HB.out.1 (by omega) HLT.out
  rw [HS.out] at hk
  refine hk.mono ?_
  rintro e w' ⟨rfl, rfl⟩
  clear hk
  go_wp2_with fail
  have hk := coef_any v xs w2 (H.out.below HB.out.2) (by omega) _ hnhi
  rw [HP.out] at hk
  refine hk.mono ?_
  rintro e w' ⟨rfl, rfl⟩
  clear hk
  go_wp2_with fail
  refine (trim_any v xs w2 (H.out.below HB.out.2) (by omega)).mono ?_
  rintro e w3 ⟨v3, rfl, s3, _, b3⟩
  have H3 := Lib.hid (And.intro s3 (And.intro (HB.out.1.below b3) (HB.out.2.trans (b3.mono HB.out.2.size))))
  clear s3 b3 HB
  go_wp2_with fail
  have hk := words06 v3 _ (cw (nv xs)) (nv xs) L w3 H3.out.1 H3.out.2.1 (by have := cw_len_lt ((@sz_le (nv xs) (64 * xs.length)).2 (nv_lt xs)); omega) (by omega) HLT.out
  rw [decide_eq_true rfl] at hk
  refine hk.mono ?_
  rintro e w4 ⟨rfl, b4⟩
  have hb := H3.out.2.2.trans (b4.mono H3.out.2.2.size)
  clear b4 H3 hk
  go_wp2_with fail
  go_ret
  exact ⟨rfl, hb⟩
theorem tells06_out (v : Value) (xs : List (BitVec 64)) (n : Int) (w : World) (h : SlK w v xs) (hT : Tab w) (h6 : xs.length ≤ 6) (hnhi : n ≤ 9223372036854775807) (hn : (64 * xs.length : Nat) ≤ n) :
    Calls Tryd.prog 3 #[v, .int .i64 n] w fun e w' => e = .returned (.bool true) ∧ Below w.heap.size w w' := by
  have H := Lib.hid h
  have HT := Lib.hid hT
  have h6' := decide_eq_true h6
  have hp : coefB (nv xs) n = false := by unfold coefB; rw [bit_big (nv_lt xs) (by omega), Bool.and_false]
  have hdeg := (@sz_le (nv xs) (64 * xs.length)).2 (nv_lt xs)
  obtain ⟨s, hs⟩ : ∃ s, sz (nv xs) = s := ⟨_, rfl⟩
  have HS := Lib.hid hs
  have HP := Lib.hid hp
  obtain ⟨L, hL⟩ : ∃ L, 64 * xs.length = L := ⟨_, rfl⟩
  have HLL := Lib.hid hL
  have hL6 : L ≤ 384 := by omega
  have hLlt : nv xs < 2 ^ L := by rw [← hL]; exact nv_lt xs
  have HLT := Lib.hid hLlt
  try rw [hL] at hn
  clear h hT hp hs hdeg hL hLlt
  have hd : decide (0 ≤ n) = true := by simp; omega
  have hd2 : ¬ n < (L : Int) := by omega
  go_enter Tryd.func3, Tryd.ntmps3
  go_wp2_with fail
  refine (awake06 w HT.out).mono ?_
  rintro e w1 ⟨rfl, b1⟩
  go_wp2_with fail
  have hk := short_any v xs w1 (H.out.below b1) (by omega)
  rw [h6'] at hk
  refine hk.mono ?_
  rintro e w' ⟨rfl, rfl⟩
  clear hk
  go_wp2_with fail
  refine (of_any v xs w1 (H.out.below b1) (by omega)).mono ?_
  rintro e w2 ⟨vb, rfl, s2, b2⟩
  rw [HLL.out] at s2
  obtain ⟨aob, capb, rfl⟩ := s2.len
  have HB := Lib.hid (And.intro s2 (b1.trans (b2.mono b1.size)))
  clear s2 b2 b1
  go_wp2_with fail
  have hk := deg_any v xs w2 (H.out.below HB.out.2) (by omega)
  rw [HS.out] at hk
  refine hk.mono ?_
  rintro e w' ⟨rfl, rfl⟩
  clear hk
  go_wp2_with fail
  have hk := rdeg_any _ (nv xs) L w2 HB.out.1 (by omega) HLT.out
  rw [HS.out] at hk
  refine hk.mono ?_
  rintro e w' ⟨rfl, rfl⟩
  clear hk
  go_wp2_with fail
  have hk := coef_any v xs w2 (H.out.below HB.out.2) (by omega) _ hnhi
  rw [HP.out] at hk
  refine hk.mono ?_
  rintro e w' ⟨rfl, rfl⟩
  clear hk
  go_wp2_with fail
  refine (trim_any v xs w2 (H.out.below HB.out.2) (by omega)).mono ?_
  rintro e w3 ⟨v3, rfl, s3, _, b3⟩
  have H3 := Lib.hid (And.intro s3 (And.intro (HB.out.1.below b3) (HB.out.2.trans (b3.mono HB.out.2.size))))
  clear s3 b3 HB
  go_wp2_with fail
  have hk := words06 v3 _ (cw (nv xs)) (nv xs) L w3 H3.out.1 H3.out.2.1 (by have := cw_len_lt ((@sz_le (nv xs) (64 * xs.length)).2 (nv_lt xs)); omega) (by omega) HLT.out
  rw [decide_eq_true rfl] at hk
  refine hk.mono ?_
  rintro e w4 ⟨rfl, b4⟩
  have hb := H3.out.2.2.trans (b4.mono H3.out.2.2.size)
  clear b4 H3 hk
  go_wp2_with fail
  go_ret
  exact ⟨rfl, hb⟩
theorem tells06_in (v : Value) (xs : List (BitVec 64)) (n : Int) (w : World) (h : SlK w v xs) (hT : Tab w) (h6 : xs.length ≤ 6) (hnhi : n ≤ 9223372036854775807) (m : Nat) (hm : n = (m : Int)) (hn : m < 64 * xs.length) :
    Calls Tryd.prog 3 #[v, .int .i64 n] w fun e w' => e = .returned (.bool true) ∧ Below w.heap.size w w' := by
  have H := Lib.hid h
  have HT := Lib.hid hT
  have h6' := decide_eq_true h6
  have hp : coefB (nv xs) n = (nv xs).testBit m := by subst hm; unfold coefB; rw [decide_eq_true (by omega), Int.toNat_natCast, Bool.true_and]
  have hdeg := (@sz_le (nv xs) (64 * xs.length)).2 (nv_lt xs)
  obtain ⟨s, hs⟩ : ∃ s, sz (nv xs) = s := ⟨_, rfl⟩
  have HS := Lib.hid hs
  have HP := Lib.hid hp
  obtain ⟨L, hL⟩ : ∃ L, 64 * xs.length = L := ⟨_, rfl⟩
  have HLL := Lib.hid hL
  have hL6 : L ≤ 384 := by omega
  have hLlt : nv xs < 2 ^ L := by rw [← hL]; exact nv_lt xs
  have HLT := Lib.hid hLlt
  try rw [hL] at hn
  clear h hT hp hs hdeg hL hLlt
  subst hm
  have hd : decide ((0 : Int) ≤ (m : Int)) = true := by simp
  have hd2 : (m : Int) < (L : Int) := by omega
  have hm0 : (0 : Int) ≤ (m : Int) := by omega
  have x1 : max (m : Int) 0 = (m : Int) := by omega
  have x2 : max ((L : Int) - 1) 0 = (L : Int) - 1 := by omega
  have x3 : min (m : Int) ((L : Int) - 1) = (m : Int) := by omega
  go_enter Tryd.func3, Tryd.ntmps3
  go_wp2_with fail
  refine (awake06 w HT.out).mono ?_
  rintro e w1 ⟨rfl, b1⟩
  go_wp2_with fail
  have hk := short_any v xs w1 (H.out.below b1) (by omega)
  rw [h6'] at hk
  refine hk.mono ?_
  rintro e w' ⟨rfl, rfl⟩
  clear hk
  go_wp2_with fail
  refine (of_any v xs w1 (H.out.below b1) (by omega)).mono ?_
  rintro e w2 ⟨vb, rfl, s2, b2⟩
  rw [HLL.out] at s2
  obtain ⟨aob, capb, rfl⟩ := s2.len
  have HB := Lib.hid (And.intro s2 (b1.trans (b2.mono b1.size)))
  clear s2 b2 b1
  obtain ⟨b, o, cp, e, _, hc⟩ := HB.out.1.cells (by omega)
  injection e with e1 _ e3
  subst e1 e3
  have c1 := hc m hn
  obtain ⟨q, hq⟩ : ∃ q, (nv xs).testBit m = q := ⟨_, rfl⟩
  rw [hq] at c1 HP
  clear hc hq
  go_wp2_with fail
  have hk := deg_any v xs w2 (H.out.below HB.out.2) (by omega)
  rw [HS.out] at hk
  refine hk.mono ?_
  rintro e w' ⟨rfl, rfl⟩
  clear hk
  go_wp2_with fail
  have hk := rdeg_any _ (nv xs) L w2 HB.out.1 (by omega) HLT.out
  rw [HS.out] at hk
  refine hk.mono ?_
  rintro e w' ⟨rfl, rfl⟩
  clear hk
  go_wp2_with fail
  have hk := coef_any v xs w2 (H.out.below HB.out.2) (by omega) _ hnhi
  rw [HP.out] at hk
  refine hk.mono ?_
  rintro e w' ⟨rfl, rfl⟩
  clear hk
  go_wp2_with fail
  refine (trim_any v xs w2 (H.out.below HB.out.2) (by omega)).mono ?_
  rintro e w3 ⟨v3, rfl, s3, _, b3⟩
  have H3 := Lib.hid (And.intro s3 (And.intro (HB.out.1.below b3) (HB.out.2.trans (b3.mono HB.out.2.size))))
  clear s3 b3 HB c1
  go_wp2_with fail
  have hk := words06 v3 _ (cw (nv xs)) (nv xs) L w3 H3.out.1 H3.out.2.1 (by have := cw_len_lt ((@sz_le (nv xs) (64 * xs.length)).2 (nv_lt xs)); omega) (by omega) HLT.out
  rw [decide_eq_true rfl] at hk
  refine hk.mono ?_
  rintro e w4 ⟨rfl, b4⟩
  have hb := H3.out.2.2.trans (b4.mono H3.out.2.2.size)
  clear b4 H3 hk
  go_wp2_with fail
  go_ret
  exact ⟨rfl, hb⟩
theorem tells06_law (v : Value) (xs : List (BitVec 64)) (n : Int) (_hlo : -9223372036854775808 ≤ n) (hhi : n ≤ 9223372036854775807) (w : World) (hx : SlV w v (vals xs)) (hl : xs.length ≤ 9223372036854775807) (hc : CapOk v) (hT : Tab w) :
    Calls Tryd.prog 3 #[v, .int .i64 n] w fun e w' => e = .returned (.bool true) ∧ Below w.heap.size w w' := by
  by_cases h6 : xs.length ≤ 6
  · by_cases hn : n < 0
    · exact tells06_neg v xs n w ⟨hx, hc⟩ hT h6 hhi hn
    · by_cases hn2 : (64 * xs.length : Nat) ≤ n
      · exact tells06_out v xs n w ⟨hx, hc⟩ hT h6 hhi hn2
      · exact tells06_in v xs n w ⟨hx, hc⟩ hT h6 hhi n.toNat (by omega) (by omega)
  · exact tells06_long v xs n w ⟨hx, hc⟩ hl hT h6
end Go.Proofs.YthiahpkodnfdcaaDoor
