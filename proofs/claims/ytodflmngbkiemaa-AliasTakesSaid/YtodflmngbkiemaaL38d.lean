/- Chapter 38's laws on tapes: each returns true. No condition. -/
import Derived.Test.YtodflmngbkiemaaW38f
namespace Go.Proofs.Ytodflmngbkiemaa
open Go.RowKit
theorem run_draw (a b c d : BitVec 64) (i j : Int) (w : World) : (Op.equalIn 10000 57 (.agg #[.int .u64 (ui a), .int .u64 (ui b), .int .i64 i]) (.agg #[.int .u64 (ui c), .int .u64 (ui d), .int .i64 j])).run Try.prog w = .ok (ui a == ui c && ui b == ui d && i == j) w := by
  have u3 := Try.underlying24
  have a3 := Try.isAgg24
  have z3 := Try.sizeOf24
  have u4 := Try.underlying3
  have a4 := Try.isAgg3
  have z4 := Try.sizeOf3
  rw [show (10000 : Nat) = 9999 + 1 from rfl, Op.equalIn]
  simp only [Sem.run_bind, run_underlying Try.underlying57, Result.andThen_ok]
  go_simp
  by_cases h1 : a = c <;> by_cases h2 : b = d <;> by_cases h3 : i = j <;> simp [h1, h2, h3]
theorem egdraw : Try.prog.eqGuardType Try.prog.depth 57 = false := by kernel_rfl
attribute [go_sem] run_draw egdraw
theorem draw_cells {w : World} {b : Nat} {a c d : Value} (h : Blk w b 57 #[a, c, d]) : w.cell? ⟨b, 0, none⟩ = some a ∧ w.cell? ⟨b, 1, none⟩ = some c ∧ w.cell? ⟨b, 2, none⟩ = some d := ⟨h.cell 0, h.cell 1, h.cell 2⟩
theorem take_zero' (B : Nat) (xs : List (BitVec 64)) (k : Nat) (wv tv : Value) (w : World) (h : TapeAt w B xs k wv tv) :
    Calls Try.prog 31 #[.pointer (some ⟨B, 0, none⟩), .int .u64 (ui 0#64)] w fun e w' => e = .returned (.tuple #[.agg #[.int .u64 0, .int .u64 0, .int .i64 0], .int .i64 8]) ∧ TapeAt w' B xs k wv tv ∧ Below w.heap.size w w' := take_zero B xs k wv tv w h
theorem take_found' (B : Nat) (xs : List (BitVec 64)) (k j : Nat) (wv tv : Value) (n : BitVec 64) (hn : (n == 0#64) = false) (w : World) (h : TapeAt w B xs k wv tv) (hkj : k ≤ j) (hj : j < xs.length) (ht : takesL xs[j] n = true) (hno : ∀ i, k ≤ i → (hi : i < j) → takesL (xs[i]'(by omega)) n = false) (a b : BitVec 64) (c : Int) (ha : mulHi xs[j] n = a) (hb : rankL xs[j] n = b) (hc : ((j - k + 1 : Nat) : Int) = c) :
    Calls Try.prog 31 #[.pointer (some ⟨B, 0, none⟩), .int .u64 (ui n)] w fun e w' => ∃ tv', e = .returned (.tuple #[.agg #[.int .u64 (ui a), .int .u64 (ui b), .int .i64 c], .int .i64 0]) ∧ TapeAt w' B xs (j + 1) wv tv' ∧ Below B w w' := by
  subst ha hb hc; exact take_found B xs k j wv tv n hn w h hkj hj ht hno
theorem reftake_found' (va : Value) (xs : List (BitVec 64)) (j : Nat) (n : BitVec 64) (hl : xs.length ≤ 1000) (w : World) (hx : SlV w va (vals xs)) (hj : j < xs.length) (ht : takesL xs[j] n = true) (hno : ∀ i, (hi : i < j) → takesL (xs[i]'(by omega)) n = false) (a b : BitVec 64) (c : Int) (ha : mulHi xs[j] n = a) (hb : rankL xs[j] n = b) (hc : ((j + 1 : Nat) : Int) = c) :
    Calls Try.prog 33 #[va, .int .u64 (ui n)] w fun e w' => e = .returned (.tuple #[.agg #[.int .u64 (ui a), .int .u64 (ui b), .int .i64 c], .bool true]) ∧ Below w.heap.size w w' := by
  subst ha hb hc; exact reftake_found va xs j n hl w hx hj ht hno
theorem takes_walk (va : Value) (xs : List (BitVec 64)) (n : BitVec 64) (w : World) (hx : SlV w va (vals xs)) (hl : xs.length ≤ 9223372036854775807) :
    Calls Try.prog 8 #[va, .int .u64 (ui n)] w fun e w' => e = .returned (.bool true) ∧ Below w.heap.size w w' := by
  obtain ⟨ao, cap, hva⟩ := slV_len hx
  rw [vals_length] at hva
  subst hva
  by_cases h100 : xs.length ≤ 100
  · have h100' : ¬ (100 : Int) < (xs.length : Int) := by omega
    have HX := Lib.hid hx
    clear hx
    by_cases h0 : n = 0
    · subst h0
      have h00 : (ui 0#64 == 0) = true := rfl
      go_enter Try.func8, Try.ntmps8
      go_wp2_with fail
      refine (awake38_any _).mono ?_
      rintro e w1 ⟨rfl, b1⟩
      have hx1 := Lib.hid (HX.out.below b1)
      go_wp2_with fail
      refine (new_any _ xs (by omega) _ hx1.out).mono ?_
      rintro e w2 ⟨B, wv, rfl, hT, hBw, b2⟩
      have hb2 := b1.trans (b2.mono b1.size)
      have HT := Lib.hid hT
      clear hT b1 b2 hx1
      go_wp2_with fail
      refine (take_zero' B xs 0 wv _ w2 HT.out).mono ?_
      rintro e w3 ⟨rfl, hT2, b3⟩
      have hb3 := hb2.trans (b3.mono hb2.size)
      have HT2 := Lib.hid (hT2.alloc (.cells #[.int .u64 0, .int .u64 0, .int .i64 0] 57))
      clear hT2 b3 hb2 HT
      go_wp2_with fail
      refine (used_any B xs 0 wv _ _ HT2.out).mono ?_
      rintro e w' ⟨rfl, rfl⟩
      go_wp2_with fail
      go_ret
      exact ⟨rfl, hb3.alloc hb3.size _⟩
    · have hz : (n == 0#64) = false := by simpa using h0
      rcases first_or (takesL · n) xs with hno | ⟨j, hj, hj1, hno⟩
      · have HNO := Lib.hid hno
        clear hno
        go_enter Try.func8, Try.ntmps8
        go_wp2_with fail
        refine (awake38_any _).mono ?_
        rintro e w1 ⟨rfl, b1⟩
        have hx1 := Lib.hid (HX.out.below b1)
        go_wp2_with fail
        refine (new_any _ xs (by omega) _ hx1.out).mono ?_
        rintro e w2 ⟨B, wv, rfl, hT, hBw, b2⟩
        have hb2 := b1.trans (b2.mono b1.size)
        have hBw2 : w.heap.size ≤ B := Nat.le_trans b1.size hBw
        have HT := Lib.hid hT
        have hx2 := Lib.hid (HX.out.below hb2)
        clear hT b1 b2 hx1 hBw
        go_wp2_with fail
        refine (take_none B xs 0 wv _ n hz w2 HT.out (fun i _ hi => HNO.out i hi)).mono ?_
        rintro e w3 ⟨tv3, rfl, hT2, b3⟩
        have hb3 := hb2.trans (b3.mono hBw2)
        have HT2 := Lib.hid (hT2.alloc (.cells #[.int .u64 0, .int .u64 0, .int .i64 0] 57))
        have hx3 := Lib.hid ((HX.out.below hb3).below ((Below.refl _ _).alloc (Nat.le_refl _) (.cells #[.int .u64 0, .int .u64 0, .int .i64 0] 57)))
        have hb4 := hb3.alloc hb3.size (.cells #[.int .u64 0, .int .u64 0, .int .i64 0] 57)
        clear hT2 b3 hb2 HT hb3
        go_wp2_with fail
        refine (reftake_none _ xs n (by omega) _ hx3.out (fun i hi => HNO.out i hi)).mono ?_
        rintro e w5 ⟨rfl, b5⟩
        have hT5 := Lib.hid (HT2.out.belowS b5)
        have hD := (Blk.new w3 57 #[.int .u64 0, .int .u64 0, .int .i64 0]).belowS b5
        obtain ⟨d0, d1, d2⟩ := draw_cells hD
        have hb5 := hb4.trans (b5.mono hb4.size)
        have hlt5 := hD.lt
        clear b5 hb4 hx3 HT2 hD
        go_wp2_with fail
        refine (used_any B xs _ wv _ _ (hT5.out.alloc _)).mono ?_
        rintro e w' ⟨rfl, rfl⟩
        go_wp2_with fail
        go_ret
        exact ⟨rfl, hb5.alloc hb5.size _⟩
      · have HNO := Lib.hid hno
        have HJ := Lib.hid hj1
        obtain ⟨lo, hlo⟩ : ∃ lo, mulHi xs[j] n = lo := ⟨_, rfl⟩
        obtain ⟨r, hr⟩ : ∃ r, rankL xs[j] n = r := ⟨_, rfl⟩
        have HLR := Lib.hid (And.intro hlo hr)
        clear hlo hr
        clear hno hj1
        go_enter Try.func8, Try.ntmps8
        go_wp2_with fail
        refine (awake38_any _).mono ?_
        rintro e w1 ⟨rfl, b1⟩
        have hx1 := Lib.hid (HX.out.below b1)
        go_wp2_with fail
        refine (new_any _ xs (by omega) _ hx1.out).mono ?_
        rintro e w2 ⟨B, wv, rfl, hT, hBw, b2⟩
        have hb2 := b1.trans (b2.mono b1.size)
        have hBw2 : w.heap.size ≤ B := Nat.le_trans b1.size hBw
        have HT := Lib.hid hT
        have hx2 := Lib.hid (HX.out.below hb2)
        clear hT b1 b2 hx1 hBw
        go_wp2_with fail
        refine (take_found' B xs 0 j wv _ n hz w2 HT.out (by omega) hj HJ.out (fun i _ hi => HNO.out i hi) lo r ((j : Int) + 1) HLR.out.1 HLR.out.2 (by omega)).mono ?_
        rintro e w3 ⟨tv3, rfl, hT2, b3⟩
        have hb3 := hb2.trans (b3.mono hBw2)
        clear b3 hb2 HT
        have HT2 := Lib.hid (hT2.alloc (.cells #[.int .u64 (ui lo), .int .u64 (ui r), .int .i64 ((j : Int) + 1)] 57))
        have hx3 := Lib.hid ((HX.out.below hb3).below ((Below.refl _ _).alloc (Nat.le_refl _) (.cells #[.int .u64 (ui lo), .int .u64 (ui r), .int .i64 ((j : Int) + 1)] 57)))
        have hb4 := hb3.alloc hb3.size (.cells #[.int .u64 (ui lo), .int .u64 (ui r), .int .i64 ((j : Int) + 1)] 57)
        clear hT2 hb3
        go_wp2_with fail
        refine (reftake_found' _ xs j n (by omega) _ hx3.out hj HJ.out (fun i hi => HNO.out i hi) lo r ((j : Int) + 1) HLR.out.1 HLR.out.2 (by omega)).mono ?_
        rintro e w5 ⟨rfl, b5⟩
        have hT5 := Lib.hid (HT2.out.belowS b5)
        have hD := (Blk.new w3 57 #[.int .u64 (ui lo), .int .u64 (ui r), .int .i64 ((j : Int) + 1)]).belowS b5
        obtain ⟨d0, d1, d2⟩ := draw_cells hD
        have hD5 := Lib.hid hD
        have hb5 := hb4.trans (b5.mono hb4.size)
        have hlt5 := hD.lt
        clear b5 hb4 hx3 HT2 hD
        go_wp2_with fail
        have hT6 := Lib.hid (hT5.out.alloc (.cells #[.int .u64 (ui lo), .int .u64 (ui r), .int .i64 ((j : Int) + 1)] 57))
        have hW6 := Blk.new w5 57 #[.int .u64 (ui lo), .int .u64 (ui r), .int .i64 ((j : Int) + 1)]
        have hD6 := hD5.out.alloc (.cells #[.int .u64 (ui lo), .int .u64 (ui r), .int .i64 ((j : Int) + 1)] 57)
        have hb6 := hb5.alloc hb5.size (.cells #[.int .u64 (ui lo), .int .u64 (ui r), .int .i64 ((j : Int) + 1)] 57)
        obtain ⟨d0, d1, d2⟩ := draw_cells hD6
        obtain ⟨e0, e1, e2⟩ := draw_cells hW6
        clear hT5 hb5 hD6 hW6 hD5
        generalize w5.alloc (.cells #[.int .u64 (ui lo), .int .u64 (ui r), .int .i64 ((j : Int) + 1)] 57) = w6 at *
        have hU : ∀ q, Calls Try.prog 32 #[.pointer (some ⟨B, 0, none⟩)] (w6.drewN q) fun e w' => e = .returned (.int .i64 ((j : Int) + 1)) ∧ w' = w6.drewN q := by
          intro q
          have h := used_any B xs (j + 1) wv _ (w6.drewN q) hT6.out.drewN
          rw [show ((j + 1 : Nat) : Int) = (j : Int) + 1 by omega] at h
          exact h.mono fun _ _ h => ⟨h.1, h.2.symm⟩
        clear hT6
        go_quiet ((go_at_call 32; with_reducible exact Calls.quiet_of_same (hU _)))
        go_wp2_with fail
        go_ret
        exact ⟨rfl, below_drewN hb6 _⟩
  · have h100' : (100 : Int) < (xs.length : Int) := by omega
    clear hx h100
    go_enter Try.func8, Try.ntmps8
    go_wp2_with fail
    refine (awake38_any _).mono ?_
    rintro e w1 ⟨rfl, b1⟩
    go_wp2_with fail
    go_ret
    exact ⟨rfl, b1⟩
end Go.Proofs.Ytodflmngbkiemaa
