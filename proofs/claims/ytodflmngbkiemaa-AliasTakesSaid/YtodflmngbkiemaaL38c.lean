/- Chapter 38's laws: each taken word is the one of its number and its rank. No condition. -/
import Derived.Test.YtodflmngbkiemaaL38b
namespace Go.Proofs.Ytodflmngbkiemaa
open Go.RowKit
theorem okM_mk {v r n : BitVec 64} (h1 : ui v < ui n) (h2 : cmpE r n < 0) : okM v r n = true := by
  unfold okM; rw [decide_eq_true h1, decide_eq_true h2]; rfl
theorem okM_v {v r n : BitVec 64} (h1 : ¬ ui v < ui n) : okM v r n = false := by
  unfold okM; rw [decide_eq_false h1]; rfl
theorem okM_r {v r n : BitVec 64} (h1 : ¬ cmpE r n < 0) : okM v r n = false := by
  unfold okM; rw [decide_eq_false h1, Bool.and_false]
theorem even_walk (x n v r : BitVec 64) (w : World) : Calls Try.prog 10 #[.int .u64 (ui x), .int .u64 (ui n), .int .u64 (ui v), .int .u64 (ui r)] w fun e w' => e = .returned (.bool true) ∧ Below w.heap.size w w' := by
  by_cases h0 : n = 0
  · subst h0
    have h00 : (ui 0#64 == 0) = true := rfl
    have ht : takesL x 0#64 = false := by unfold takesL; rfl
    go_enter Try.func10, Try.ntmps10
    go_wp2_with fail
    refine (awake38_any _).mono ?_
    rintro e wc1 ⟨rfl, b1⟩
    have hb1 := b1
    go_wp2_with fail
    refine (reftakes_any _ _ _).mono ?_
    rintro e wc2 ⟨rfl, b2⟩
    have hb2 := hb1.trans (b2.mono hb1.size)
    clear hb1 b2
    go_wp2_with fail
    refine (word_zero' _ _ _).mono ?_
    rintro e wc3 ⟨rfl, b3⟩
    have hb3 := hb2.trans (b3.mono hb2.size)
    clear hb2 b3
    go_wp2_with fail
    go_ret
    exact ⟨rfl, hb3⟩
  · have hz : (n == 0#64) = false := by simpa using h0
    by_cases ht : takesL x n = true
    · obtain ⟨_, t1, t2, t3⟩ := takes_ne ht
      have hk1 := okM_mk t1 t2
      have HX := Lib.hid t3
      clear t3
      by_cases hv : ui v < ui n
      · by_cases hr : cmpE r n < 0
        · have hk := okM_mk hv hr
          obtain ⟨g1, g2, g3⟩ := word_back h0 hv hr
          have HB := Lib.hid (And.intro g1 (And.intro g2 g3))
          clear g1 g2 g3
          go_enter Try.func10, Try.ntmps10
          go_wp2_with fail
          refine (awake38_any _).mono ?_
          rintro e wc1 ⟨rfl, b1⟩
          have hb1 := b1
          go_wp2_with fail
          refine (reftakes_any _ _ _).mono ?_
          rintro e wc2 ⟨rfl, b2⟩
          have hb2 := hb1.trans (b2.mono hb1.size)
          clear hb1 b2
          go_wp2_with fail
          refine (rank_yes _ _ hz ht _).mono ?_
          rintro e wc3 ⟨rfl, b3⟩
          have hb3 := hb2.trans (b3.mono hb2.size)
          clear hb2 b3
          go_wp2_with fail
          refine (word_yes _ _ _ hz hk1 _).mono ?_
          rw [HX.out]
          rintro e wc4 ⟨rfl, b4⟩
          have hb4 := hb3.trans (b4.mono hb3.size)
          clear hb3 b4
          go_wp2_with fail
          refine (word_yes _ _ _ hz hk _).mono ?_
          rintro e wc5 ⟨rfl, b5⟩
          have hb5 := hb4.trans (b5.mono hb4.size)
          clear hb4 b5
          go_wp2_with fail
          refine (refeach_any _ _).mono ?_
          rintro e wc6 ⟨rfl, b6⟩
          have hb6 := hb5.trans (b6.mono hb5.size)
          clear hb5 b6
          go_wp2_with fail
          refine (cmpE_any _ _ _).mono ?_
          rintro e wc7 ⟨rfl, b7⟩
          have hb7 := hb6.trans (b7.mono hb6.size)
          clear hb6 b7
          go_wp2_with fail
          refine (refrank_any _ _ hz _).mono ?_
          rw [HB.out.1, HB.out.2.1]
          rintro e wc8 ⟨rfl, b8⟩
          have hb8 := hb7.trans (b8.mono hb7.size)
          clear hb7 b8
          go_wp2_with fail
          refine (reftakes_any _ _ _).mono ?_
          rw [HB.out.2.2]
          rintro e wc9 ⟨rfl, b9⟩
          have hb9 := hb8.trans (b9.mono hb8.size)
          clear hb8 b9
          go_wp2_with fail
          go_ret
          exact ⟨rfl, hb9⟩
        · have hk : okM v r n = false := okM_r hr
          have hr' : 0 ≤ cmpE r n := by omega
          clear hr
          go_enter Try.func10, Try.ntmps10
          go_wp2_with fail
          refine (awake38_any _).mono ?_
          rintro e wc1 ⟨rfl, b1⟩
          have hb1 := b1
          go_wp2_with fail
          refine (reftakes_any _ _ _).mono ?_
          rintro e wc2 ⟨rfl, b2⟩
          have hb2 := hb1.trans (b2.mono hb1.size)
          clear hb1 b2
          go_wp2_with fail
          refine (rank_yes _ _ hz ht _).mono ?_
          rintro e wc3 ⟨rfl, b3⟩
          have hb3 := hb2.trans (b3.mono hb2.size)
          clear hb2 b3
          go_wp2_with fail
          refine (word_yes _ _ _ hz hk1 _).mono ?_
          rw [HX.out]
          rintro e wc4 ⟨rfl, b4⟩
          have hb4 := hb3.trans (b4.mono hb3.size)
          clear hb3 b4
          go_wp2_with fail
          refine (word_no _ _ _ hz hk _).mono ?_
          rintro e wc5 ⟨rfl, b5⟩
          have hb5 := hb4.trans (b5.mono hb4.size)
          clear hb4 b5
          go_wp2_with fail
          refine (refeach_any _ _).mono ?_
          rintro e wc6 ⟨rfl, b6⟩
          have hb6 := hb5.trans (b6.mono hb5.size)
          clear hb5 b6
          go_wp2_with fail
          refine (cmpE_any _ _ _).mono ?_
          rintro e wc7 ⟨rfl, b7⟩
          have hb7 := hb6.trans (b7.mono hb6.size)
          clear hb6 b7
          go_wp2_with fail
          go_ret
          exact ⟨rfl, hb7⟩
      · have hk : okM v r n = false := okM_v hv
        go_enter Try.func10, Try.ntmps10
        go_wp2_with fail
        refine (awake38_any _).mono ?_
        rintro e wc1 ⟨rfl, b1⟩
        have hb1 := b1
        go_wp2_with fail
        refine (reftakes_any _ _ _).mono ?_
        rintro e wc2 ⟨rfl, b2⟩
        have hb2 := hb1.trans (b2.mono hb1.size)
        clear hb1 b2
        go_wp2_with fail
        refine (rank_yes _ _ hz ht _).mono ?_
        rintro e wc3 ⟨rfl, b3⟩
        have hb3 := hb2.trans (b3.mono hb2.size)
        clear hb2 b3
        go_wp2_with fail
        refine (word_yes _ _ _ hz hk1 _).mono ?_
        rw [HX.out]
        rintro e wc4 ⟨rfl, b4⟩
        have hb4 := hb3.trans (b4.mono hb3.size)
        clear hb3 b4
        go_wp2_with fail
        refine (word_no _ _ _ hz hk _).mono ?_
        rintro e wc5 ⟨rfl, b5⟩
        have hb5 := hb4.trans (b5.mono hb4.size)
        clear hb4 b5
        go_wp2_with fail
        go_ret
        exact ⟨rfl, hb5⟩
    · have ht : takesL x n = false := by simpa using ht
      by_cases hv : ui v < ui n
      · by_cases hr : cmpE r n < 0
        · have hk := okM_mk hv hr
          obtain ⟨g1, g2, g3⟩ := word_back h0 hv hr
          have HB := Lib.hid (And.intro g1 (And.intro g2 g3))
          clear g1 g2 g3
          go_enter Try.func10, Try.ntmps10
          go_wp2_with fail
          refine (awake38_any _).mono ?_
          rintro e wc1 ⟨rfl, b1⟩
          have hb1 := b1
          go_wp2_with fail
          refine (reftakes_any _ _ _).mono ?_
          rintro e wc2 ⟨rfl, b2⟩
          have hb2 := hb1.trans (b2.mono hb1.size)
          clear hb1 b2
          go_wp2_with fail
          refine (word_yes _ _ _ hz hk _).mono ?_
          rintro e wc3 ⟨rfl, b3⟩
          have hb3 := hb2.trans (b3.mono hb2.size)
          clear hb2 b3
          go_wp2_with fail
          refine (refeach_any _ _).mono ?_
          rintro e wc4 ⟨rfl, b4⟩
          have hb4 := hb3.trans (b4.mono hb3.size)
          clear hb3 b4
          go_wp2_with fail
          refine (cmpE_any _ _ _).mono ?_
          rintro e wc5 ⟨rfl, b5⟩
          have hb5 := hb4.trans (b5.mono hb4.size)
          clear hb4 b5
          go_wp2_with fail
          refine (refrank_any _ _ hz _).mono ?_
          rw [HB.out.1, HB.out.2.1]
          rintro e wc6 ⟨rfl, b6⟩
          have hb6 := hb5.trans (b6.mono hb5.size)
          clear hb5 b6
          go_wp2_with fail
          refine (reftakes_any _ _ _).mono ?_
          rw [HB.out.2.2]
          rintro e wc7 ⟨rfl, b7⟩
          have hb7 := hb6.trans (b7.mono hb6.size)
          clear hb6 b7
          go_wp2_with fail
          go_ret
          exact ⟨rfl, hb7⟩
        · have hk : okM v r n = false := okM_r hr
          have hr' : 0 ≤ cmpE r n := by omega
          clear hr
          go_enter Try.func10, Try.ntmps10
          go_wp2_with fail
          refine (awake38_any _).mono ?_
          rintro e wc1 ⟨rfl, b1⟩
          have hb1 := b1
          go_wp2_with fail
          refine (reftakes_any _ _ _).mono ?_
          rintro e wc2 ⟨rfl, b2⟩
          have hb2 := hb1.trans (b2.mono hb1.size)
          clear hb1 b2
          go_wp2_with fail
          refine (word_no _ _ _ hz hk _).mono ?_
          rintro e wc3 ⟨rfl, b3⟩
          have hb3 := hb2.trans (b3.mono hb2.size)
          clear hb2 b3
          go_wp2_with fail
          refine (refeach_any _ _).mono ?_
          rintro e wc4 ⟨rfl, b4⟩
          have hb4 := hb3.trans (b4.mono hb3.size)
          clear hb3 b4
          go_wp2_with fail
          refine (cmpE_any _ _ _).mono ?_
          rintro e wc5 ⟨rfl, b5⟩
          have hb5 := hb4.trans (b5.mono hb4.size)
          clear hb4 b5
          go_wp2_with fail
          go_ret
          exact ⟨rfl, hb5⟩
      · have hk : okM v r n = false := okM_v hv
        go_enter Try.func10, Try.ntmps10
        go_wp2_with fail
        refine (awake38_any _).mono ?_
        rintro e wc1 ⟨rfl, b1⟩
        have hb1 := b1
        go_wp2_with fail
        refine (reftakes_any _ _ _).mono ?_
        rintro e wc2 ⟨rfl, b2⟩
        have hb2 := hb1.trans (b2.mono hb1.size)
        clear hb1 b2
        go_wp2_with fail
        refine (word_no _ _ _ hz hk _).mono ?_
        rintro e wc3 ⟨rfl, b3⟩
        have hb3 := hb2.trans (b3.mono hb2.size)
        clear hb2 b3
        go_wp2_with fail
        go_ret
        exact ⟨rfl, hb3⟩
end Go.Proofs.Ytodflmngbkiemaa
