/- The walk of chapter 38's statement on tapes that are aimed: it returns true. No condition. -/
import Derived.Test.YtodflmngbkiemaaW38g
import Derived.Test.YtodflmngbkiemaaWords
namespace Go.Proofs.Ytodflmngbkiemaa
open Go.RowKit
theorem aim_bad' (va : Value) (xs : List (BitVec 64)) (j : Nat) (n v : BitVec 64) (hn : (n == 0#64) = false) (hl : xs.length ≤ 1000) (hj : j < xs.length) (ht : takesL xs[j] n = true) (hno : ∀ i, (hi : i < j) → takesL (xs[i]'(by omega)) n = false) (r : BitVec 64) (hr : rankL xs[j] n = r)
    (hok : okM v r n = false) (w : World) (hx : SlV w va (vals xs)) :
    Calls Try.prog 43 #[va, .int .u64 (ui n), .int .u64 (ui v)] w fun e w' => e = .returned (.tuple #[.slice none 0 0, .int .i64 2]) ∧ Below w.heap.size w w' := by
  subst hr; exact aim_bad va xs j n v hn hl hj ht hno hok w hx
theorem aim_yes' (va : Value) (xs : List (BitVec 64)) (j : Nat) (n v : BitVec 64) (hn : (n == 0#64) = false) (hl : xs.length ≤ 1000) (hj : j < xs.length) (ht : takesL xs[j] n = true) (hno : ∀ i, (hi : i < j) → takesL (xs[i]'(by omega)) n = false) (r : BitVec 64) (hr : rankL xs[j] n = r)
    (hok : okM v r n = true) (w : World) (hx : SlV w va (vals xs)) :
    Calls Try.prog 43 #[va, .int .u64 (ui n), .int .u64 (ui v)] w fun e w' => ∃ m, e = .returned (.tuple #[m, .int .i64 0]) ∧ SlV w' m (vals (xs.set j (firstW v n + r))) ∧ Below w.heap.size w w' := by
  subst hr; exact aim_yes va xs j n v hn hl hj ht hno hok w hx
theorem aim_zero' (va : Value) (xs : List (BitVec 64)) (v : BitVec 64) (hl : xs.length ≤ 1000) (w : World) (hx : SlV w va (vals xs)) :
    Calls Try.prog 43 #[va, .int .u64 (ui 0#64), .int .u64 (ui v)] w fun e w' => e = .returned (.tuple #[.slice none 0 0, .int .i64 8]) ∧ Below w.heap.size w w' := aim_zero va xs v hl w hx
theorem set_get (xs : List (BitVec 64)) (j : Nat) (y : BitVec 64) (hj : j < xs.length) : (xs.set j y)[j]'(by simpa using hj) = y := by simp
theorem set_before (xs : List (BitVec 64)) (i j : Nat) (y : BitVec 64) (hj : j < xs.length) (hi : i < j) : (xs.set j y)[i]'(by simp; omega) = xs[i]'(by omega) := by
  rw [List.getElem_set_ne (by omega)]
theorem aims_walk (va : Value) (xs : List (BitVec 64)) (n v : BitVec 64) (w : World) (hx : SlV w va (vals xs)) (hl : xs.length ≤ 9223372036854775807) :
    Calls Try.prog 11 #[va, .int .u64 (ui n), .int .u64 (ui v)] w fun e w' => e = .returned (.bool true) ∧ Below w.heap.size w w' := by
  obtain ⟨ao, cap, hva⟩ := slV_len hx
  rw [vals_length] at hva
  subst hva
  by_cases h100 : xs.length ≤ 100
  · have h100' : ¬ (100 : Int) < (xs.length : Int) := by omega
    have HX := Lib.hid hx
    clear hx
    by_cases h0 : n = 0
    · subst h0
      have h00 : (ui 0#64 == 0) = true := rfl
      go_enter Try.func11, Try.ntmps11
      go_wp2_with fail
      refine (awake38_any _).mono ?_
      rintro e w1 ⟨rfl, b1⟩
      have hx1 := Lib.hid (HX.out.below b1)
      go_wp2_with fail
      refine (aim_zero' _ xs v (by omega) _ hx1.out).mono ?_
      rintro e w2 ⟨rfl, b2⟩
      have hb2 := b1.trans (b2.mono b1.size)
      have hx2 := Lib.hid (HX.out.below hb2)
      clear b1 b2 hx1
      go_wp2_with fail
      refine (reftake_none _ xs 0#64 (by omega) _ hx2.out (fun i hi => takes0 _)).mono ?_
      rintro e w3 ⟨rfl, b3⟩
      have hb3 := hb2.trans (b3.mono hb2.size)
      clear b3 hb2 hx2
      go_wp2_with fail
      go_ret
      exact ⟨rfl, hb3.alloc hb3.size _⟩
    · have hz : (n == 0#64) = false := by simpa using h0
      rcases first_or (takesL · n) xs with hno | ⟨j, hj, hj1, hno⟩
      · have HNO := Lib.hid hno
        clear hno
        go_enter Try.func11, Try.ntmps11
        go_wp2_with fail
        refine (awake38_any _).mono ?_
        rintro e w1 ⟨rfl, b1⟩
        have hx1 := Lib.hid (HX.out.below b1)
        go_wp2_with fail
        refine (aim_none _ xs n v hz (by omega) HNO.out _ hx1.out).mono ?_
        rintro e w2 ⟨rfl, b2⟩
        have hb2 := b1.trans (b2.mono b1.size)
        have hx2 := Lib.hid (HX.out.below hb2)
        clear b1 b2 hx1
        go_wp2_with fail
        refine (reftake_none _ xs n (by omega) _ hx2.out HNO.out).mono ?_
        rintro e w3 ⟨rfl, b3⟩
        have hb3 := hb2.trans (b3.mono hb2.size)
        clear b3 hb2 hx2
        go_wp2_with fail
        go_ret
        exact ⟨rfl, hb3.alloc hb3.size _⟩
      · have HNO := Lib.hid hno
        have HJ := Lib.hid hj1
        obtain ⟨_, t1, t2, t3⟩ := takes_ne HJ.out
        clear hno hj1
        obtain ⟨lo, hlo⟩ : ∃ lo, mulHi xs[j] n = lo := ⟨_, rfl⟩
        obtain ⟨r, hr⟩ : ∃ r, rankL xs[j] n = r := ⟨_, rfl⟩
        rw [hlo] at t1 t3
        rw [hr] at t2 t3
        have HLR := Lib.hid (And.intro hlo hr)
        have HXJ := Lib.hid t3
        clear hlo hr t3
        by_cases hv : ui v < ui n
        · have hok := okM_mk hv t2
          have hok2 := okM_mk t1 t2
          have HB := Lib.hid (word_back h0 hv t2)
          have HS : Hid ((xs.set j (firstW v n + r)).set j (firstW lo n + r) = xs) := by
            apply Lib.hid
            rw [List.set_set, HXJ.out, List.set_getElem_self]
          clear t1 t2
          go_enter Try.func11, Try.ntmps11
          go_wp2_with fail
          refine (awake38_any _).mono ?_
          rintro e w1 ⟨rfl, b1⟩
          have hx1 := Lib.hid (HX.out.below b1)
          go_wp2_with fail
          refine (aim_yes' _ xs j n v hz (by omega) hj HJ.out HNO.out r HLR.out.2 hok _ hx1.out).mono ?_
          rintro e w2 ⟨m, rfl, hm, b2⟩
          have hb2 := b1.trans (b2.mono b1.size)
          have hx2 := Lib.hid (HX.out.below hb2)
          obtain ⟨ao2, cap2, hmv⟩ := slV_len hm
          rw [vals_length, List.length_set] at hmv
          subst hmv
          have HM := Lib.hid hm
          clear b1 b2 hx1 hm
          go_wp2_with fail
          refine (reftake_found' _ xs j n (by omega) _ hx2.out hj HJ.out HNO.out lo r ((j : Int) + 1) HLR.out.1 HLR.out.2 (by omega)).mono ?_
          rintro e w3 ⟨rfl, b3⟩
          have hb3 := hb2.trans (b3.mono hb2.size)
          have HM3 := Lib.hid ((HM.out.below b3).below ((Below.refl _ _).alloc (Nat.le_refl _) (.cells #[.int .u64 (ui lo), .int .u64 (ui r), .int .i64 ((j : Int) + 1)] 57)))
          have HX3 := Lib.hid ((HX.out.below hb3).below ((Below.refl _ _).alloc (Nat.le_refl _) (.cells #[.int .u64 (ui lo), .int .u64 (ui r), .int .i64 ((j : Int) + 1)] 57)))
          have hD3 := Lib.hid (Blk.new w3 57 #[.int .u64 (ui lo), .int .u64 (ui r), .int .i64 ((j : Int) + 1)])
          have hb4 := hb3.alloc hb3.size (.cells #[.int .u64 (ui lo), .int .u64 (ui r), .int .i64 ((j : Int) + 1)] 57)
          clear b3 hb2 hb3 hx2 HM
          go_wp2_with fail
          refine (reftake_found' _ (xs.set j (firstW v n + r)) j n (by rw [List.length_set]; omega) _ HM3.out (by rw [List.length_set]; exact hj) (by rw [set_get xs j _ hj]; exact HB.out.2.2) (fun i hi => by rw [set_before xs i j _ hj hi]; exact HNO.out i hi) v r ((j : Int) + 1) (by rw [set_get xs j _ hj]; exact HB.out.1) (by rw [set_get xs j _ hj]; exact HB.out.2.1) (by omega)).mono ?_
          rintro e w5 ⟨rfl, b5⟩
          have hb5 := hb4.trans (b5.mono hb4.size)
          have HM5 := Lib.hid ((HM3.out.below b5).below ((Below.refl _ _).alloc (Nat.le_refl _) (.cells #[.int .u64 (ui v), .int .u64 (ui r), .int .i64 ((j : Int) + 1)] 57)))
          have HX5 := Lib.hid ((HX3.out.below b5).below ((Below.refl _ _).alloc (Nat.le_refl _) (.cells #[.int .u64 (ui v), .int .u64 (ui r), .int .i64 ((j : Int) + 1)] 57)))
          have hD5 := Lib.hid ((hD3.out.belowS b5).alloc (.cells #[.int .u64 (ui v), .int .u64 (ui r), .int .i64 ((j : Int) + 1)] 57))
          have hE5 := Lib.hid (Blk.new w5 57 #[.int .u64 (ui v), .int .u64 (ui r), .int .i64 ((j : Int) + 1)])
          have hb6 := hb5.alloc hb5.size (.cells #[.int .u64 (ui v), .int .u64 (ui r), .int .i64 ((j : Int) + 1)] 57)
          obtain ⟨d0, d1, d2⟩ := draw_cells (hD3.out.belowS b5)
          have hlt5 := (hD3.out.belowS b5).lt
          clear b5 hb4 hb5 HM3 HX3 hD3
          go_wp2_with fail
          refine (aim_yes' _ (xs.set j (firstW v n + r)) j n lo hz (by rw [List.length_set]; omega) (by rw [List.length_set]; exact hj) (by rw [set_get xs j _ hj]; exact HB.out.2.2) (fun i hi => by rw [set_before xs i j _ hj hi]; exact HNO.out i hi) r (by rw [set_get xs j _ hj]; exact HB.out.2.1) hok2 _ HM5.out).mono ?_
          rw [HS.out]
          rintro e w6 ⟨bk, rfl, hbk, b6⟩
          have hb7 := hb6.trans (b6.mono hb6.size)
          have HX6 := Lib.hid (HX5.out.below b6)
          have HD6 := Lib.hid (hD5.out.belowS b6)
          have HE6 := Lib.hid (hE5.out.belowS b6)
          obtain ⟨ao3, cap3, hbv⟩ := slV_len hbk
          rw [vals_length] at hbv
          subst hbv
          have HBK := Lib.hid hbk
          clear b6 hb6 HX5 hD5 hE5 HM5 hbk d0 d1 d2 hlt5
          obtain ⟨d0, d1, d2⟩ := draw_cells HD6.out
          obtain ⟨e0, e1, e2⟩ := draw_cells HE6.out
          go_wp2_with fail
          refine (words_any _ _ xs xs _ HBK.out HX6.out (by omega) (by omega)).mono ?_
          rw [decide_eq_true rfl]
          rintro e w8 ⟨rfl, b8⟩
          go_wp2_with fail
          go_ret
          exact ⟨rfl, hb7.trans (b8.mono hb7.size)⟩
        · have hok : okM v r n = false := okM_v hv
          clear t1 t2
          go_enter Try.func11, Try.ntmps11
          go_wp2_with fail
          refine (awake38_any _).mono ?_
          rintro e w1 ⟨rfl, b1⟩
          have hx1 := Lib.hid (HX.out.below b1)
          go_wp2_with fail
          refine (aim_bad' _ xs j n v hz (by omega) hj HJ.out HNO.out r HLR.out.2 hok _ hx1.out).mono ?_
          rintro e w2 ⟨rfl, b2⟩
          have hb2 := b1.trans (b2.mono b1.size)
          have hx2 := Lib.hid (HX.out.below hb2)
          clear b1 b2 hx1
          go_wp2_with fail
          refine (reftake_found' _ xs j n (by omega) _ hx2.out hj HJ.out HNO.out lo r ((j : Int) + 1) HLR.out.1 HLR.out.2 (by omega)).mono ?_
          rintro e w3 ⟨rfl, b3⟩
          have hb3 := hb2.trans (b3.mono hb2.size)
          clear b3 hb2 hx2
          go_wp2_with fail
          go_ret
          exact ⟨rfl, hb3.alloc hb3.size _⟩
  · have h100' : (100 : Int) < (xs.length : Int) := by omega
    clear hx h100
    go_enter Try.func11, Try.ntmps11
    go_wp2_with fail
    refine (awake38_any _).mono ?_
    rintro e w1 ⟨rfl, b1⟩
    go_wp2_with fail
    go_ret
    exact ⟨rfl, b1⟩
end Go.Proofs.Ytodflmngbkiemaa
