/- The walks of chapter 39's statements on words: each returns true. No condition. -/
import Derived.Test.YtekbhfagigpakaaL39
namespace Go.Proofs.Ytekbhfagigpakaa
open Go.RowKit
theorem run_u128 (a b c d : BitVec 64) (w : World) : (Op.equalIn 10000 40 (.agg #[.int .u64 (ui a), .int .u64 (ui b)]) (.agg #[.int .u64 (ui c), .int .u64 (ui d)])).run Try.prog w = .ok (ui a == ui c && ui b == ui d) w := by
  have u3 := Try.underlying22
  have a3 := Try.isAgg22
  have z3 := Try.sizeOf22
  rw [show (10000 : Nat) = 9999 + 1 from rfl, Op.equalIn]
  simp only [Sem.run_bind, run_underlying Try.underlying40, Result.andThen_ok]
  go_simp
  by_cases h1 : a = c <;> by_cases h2 : b = d <;> simp [h1, h2]
theorem rank_zero' (x : BitVec 64) (w : World) :
    Calls Try.prog 19 #[.int .u64 (ui x), .int .u64 (ui 0#64)] w fun e w' => e = .returned (.tuple #[.int .u64 0, .int .u64 0, .int .i64 8]) ∧ w = w' := rank_zero x w
theorem word_zero' (v r : BitVec 64) (w : World) :
    Calls Try.prog 22 #[.int .u64 (ui v), .int .u64 (ui r), .int .u64 (ui 0#64)] w fun e w' => e = .returned (.tuple #[.int .u64 0, .int .i64 8]) ∧ Below w.heap.size w w' := word_zero v r w
theorem words_walk (x n : BitVec 64) (w : World) : Calls Try.prog 5 #[.int .u64 (ui x), .int .u64 (ui n)] w fun e w' => e = .returned (.bool true) ∧ Below w.heap.size w w' := by
  by_cases h0 : n = 0
  · subst h0
    have h00 : (ui 0#64 == 0) = true := rfl
    have ht : takesM x 0#64 = false := by unfold takesM; rfl
    go_enter Try.func5, Try.ntmps5
    go_wp2_with fail
    refine (awake39_any _).mono ?_
    rintro e wc1 ⟨rfl, b1⟩
    have hb1 := b1
    go_wp2_with fail
    refine (bits_any _ _).mono ?_
    rintro e w' ⟨rfl, rfl⟩
    go_wp2_with fail
    refine (refbits_any _ _).mono ?_
    rintro e wc2 ⟨rfl, b2⟩
    have hb2 := hb1.trans (b2.mono hb1.size)
    clear hb1 b2
    go_wp2_with fail
    refine (each_any _ _).mono ?_
    rintro e wc3 ⟨rfl, b3⟩
    have hb3 := hb2.trans (b3.mono hb2.size)
    clear hb2 b3
    go_wp2_with fail
    refine (refeach_any _ _).mono ?_
    rintro e wc4 ⟨rfl, b4⟩
    have hb4 := hb3.trans (b4.mono hb3.size)
    clear hb3 b4
    go_wp2_with fail
    refine (takes_any _ _ _).mono ?_
    rintro e w' ⟨rfl, rfl⟩
    go_wp2_with fail
    refine (reftakes_any _ _ _).mono ?_
    rintro e wc5 ⟨rfl, b5⟩
    have hb5 := hb4.trans (b5.mono hb4.size)
    clear hb4 b5
    go_wp2_with fail
    refine (rank_zero' _ _).mono ?_
    rintro e w' ⟨rfl, rfl⟩
    go_wp2_with fail
    go_ret
    exact ⟨rfl, hb5⟩
  · have hz : (n == 0#64) = false := by simpa using h0
    by_cases ht : takesM x n = true
    · obtain ⟨_, h1, h2, _⟩ := takes_ne ht
      go_enter Try.func5, Try.ntmps5
      go_wp2_with fail
      refine (awake39_any _).mono ?_
      rintro e wc1 ⟨rfl, b1⟩
      have hb1 := b1
      go_wp2_with fail
      refine (bits_any _ _).mono ?_
      rintro e w' ⟨rfl, rfl⟩
      go_wp2_with fail
      refine (refbits_any _ _).mono ?_
      rintro e wc2 ⟨rfl, b2⟩
      have hb2 := hb1.trans (b2.mono hb1.size)
      clear hb1 b2
      go_wp2_with fail
      refine (each_any _ _).mono ?_
      rintro e wc3 ⟨rfl, b3⟩
      have hb3 := hb2.trans (b3.mono hb2.size)
      clear hb2 b3
      go_wp2_with fail
      refine (refeach_any _ _).mono ?_
      rintro e wc4 ⟨rfl, b4⟩
      have hb4 := hb3.trans (b4.mono hb3.size)
      clear hb3 b4
      go_wp2_with fail
      refine (takes_any _ _ _).mono ?_
      rintro e w' ⟨rfl, rfl⟩
      go_wp2_with fail
      refine (reftakes_any _ _ _).mono ?_
      rintro e wc5 ⟨rfl, b5⟩
      have hb5 := hb4.trans (b5.mono hb4.size)
      clear hb4 b5
      go_wp2_with fail
      refine (rank_yes _ _ hz ht _).mono ?_
      rintro e w' ⟨rfl, q, rfl⟩
      have hb6 := below_drewN hb5 q
      clear hb5
      generalize wc5.drewN q = wc6 at *
      go_wp2_with fail
      refine (reftakes_any _ _ _).mono ?_
      rintro e wc7 ⟨rfl, b7⟩
      have hb7 := hb6.trans (b7.mono hb6.size)
      clear hb6 b7
      go_wp2_with fail
      refine (reftells_any _ _ _).mono ?_
      rintro e wc8 ⟨rfl, b8⟩
      have hb8 := hb7.trans (b8.mono hb7.size)
      clear hb7 b8
      go_wp2_with fail
      refine (refeach_any _ _).mono ?_
      rintro e wc9 ⟨rfl, b9⟩
      have hb9 := hb8.trans (b9.mono hb8.size)
      clear hb8 b9
      go_wp2_with fail
      refine (cmpE_any _ _ _).mono ?_
      rintro e wc10 ⟨rfl, b10⟩
      have hb10 := hb9.trans (b10.mono hb9.size)
      clear hb9 b10
      go_wp2_with fail
      go_ret
      exact ⟨rfl, hb10⟩
    · have ht : takesM x n = false := by simpa using ht
      go_enter Try.func5, Try.ntmps5
      go_wp2_with fail
      refine (awake39_any _).mono ?_
      rintro e wc1 ⟨rfl, b1⟩
      have hb1 := b1
      go_wp2_with fail
      refine (bits_any _ _).mono ?_
      rintro e w' ⟨rfl, rfl⟩
      go_wp2_with fail
      refine (refbits_any _ _).mono ?_
      rintro e wc2 ⟨rfl, b2⟩
      have hb2 := hb1.trans (b2.mono hb1.size)
      clear hb1 b2
      go_wp2_with fail
      refine (each_any _ _).mono ?_
      rintro e wc3 ⟨rfl, b3⟩
      have hb3 := hb2.trans (b3.mono hb2.size)
      clear hb2 b3
      go_wp2_with fail
      refine (refeach_any _ _).mono ?_
      rintro e wc4 ⟨rfl, b4⟩
      have hb4 := hb3.trans (b4.mono hb3.size)
      clear hb3 b4
      go_wp2_with fail
      refine (takes_any _ _ _).mono ?_
      rintro e w' ⟨rfl, rfl⟩
      go_wp2_with fail
      refine (reftakes_any _ _ _).mono ?_
      rintro e wc5 ⟨rfl, b5⟩
      have hb5 := hb4.trans (b5.mono hb4.size)
      clear hb4 b5
      go_wp2_with fail
      refine (rank_not _ _ hz ht _).mono ?_
      rintro e w' ⟨rfl, rfl⟩
      go_wp2_with fail
      refine (reftakes_any _ _ _).mono ?_
      rintro e wc6 ⟨rfl, b6⟩
      have hb6 := hb5.trans (b6.mono hb5.size)
      clear hb5 b6
      go_wp2_with fail
      go_ret
      exact ⟨rfl, hb6⟩
theorem okM_mk {v r n : BitVec 64} (h1 : ui v < ui n) (h2 : cmpE r n < 0) : okM v r n = true := by
  unfold okM; rw [decide_eq_true h1, decide_eq_true h2]; rfl
theorem okM_v {v r n : BitVec 64} (h1 : ¬ ui v < ui n) : okM v r n = false := by
  unfold okM; rw [decide_eq_false h1]; rfl
theorem okM_r {v r n : BitVec 64} (h1 : ¬ cmpE r n < 0) : okM v r n = false := by
  unfold okM; rw [decide_eq_false h1, Bool.and_false]
theorem even_walk (x n v r : BitVec 64) (w : World) : Calls Try.prog 6 #[.int .u64 (ui x), .int .u64 (ui n), .int .u64 (ui v), .int .u64 (ui r)] w fun e w' => e = .returned (.bool true) ∧ Below w.heap.size w w' := by
  by_cases h0 : n = 0
  · subst h0
    have h00 : (ui 0#64 == 0) = true := rfl
    have ht : takesM x 0#64 = false := by unfold takesM; rfl
    go_enter Try.func6, Try.ntmps6
    go_wp2_with fail
    refine (awake39_any _).mono ?_
    rintro e wc1 ⟨rfl, b1⟩
    have hb1 := b1
    go_wp2_with fail
    refine (reftakes_any _ _ _).mono ?_
    rintro e wc2 ⟨rfl, b2⟩
    have hb2 := hb1.trans (b2.mono hb1.size)
    clear hb1 b2
    go_wp2_with fail
    refine (word_zero' _ _ _).mono ?_
    rintro e wc3 ⟨rfl, b3⟩
    have hb3 := hb2.trans (b3.mono hb2.size)
    clear hb2 b3
    go_wp2_with fail
    go_ret
    exact ⟨rfl, hb3⟩
  · have hz : (n == 0#64) = false := by simpa using h0
    by_cases ht : takesM x n = true
    · obtain ⟨_, t1, t2, t3⟩ := takes_ne ht
      have hk1 := okM_mk t1 t2
      have HX := Lib.hid t3
      clear t3
      by_cases hv : ui v < ui n
      · by_cases hr : cmpE r n < 0
        · have hk := okM_mk hv hr
          obtain ⟨g1, g2, _⟩ := word_back h0 hv hr
          have HB := Lib.hid (And.intro g1 g2)
          clear g1 g2
          go_enter Try.func6, Try.ntmps6
          go_wp2_with fail
          refine (awake39_any _).mono ?_
          rintro e wc1 ⟨rfl, b1⟩
          have hb1 := b1
          go_wp2_with fail
          refine (reftakes_any _ _ _).mono ?_
          rintro e wc2 ⟨rfl, b2⟩
          have hb2 := hb1.trans (b2.mono hb1.size)
          clear hb1 b2
          go_wp2_with fail
          refine (rank_yes _ _ hz ht _).mono ?_
          rintro e w' ⟨rfl, q, rfl⟩
          have hb3 := below_drewN hb2 q
          clear hb2
          generalize wc2.drewN q = wc3 at *
          go_wp2_with fail
          refine (word_yes _ _ _ hz hk1 _).mono ?_
          rw [HX.out]
          rintro e wc4 ⟨rfl, b4⟩
          have hb4 := hb3.trans (b4.mono hb3.size)
          clear hb3 b4
          go_wp2_with fail
          refine (word_yes _ _ _ hz hk _).mono ?_
          rintro e wc5 ⟨rfl, b5⟩
          have hb5 := hb4.trans (b5.mono hb4.size)
          clear hb4 b5
          go_wp2_with fail
          refine (refeach_any _ _).mono ?_
          rintro e wc6 ⟨rfl, b6⟩
          have hb6 := hb5.trans (b6.mono hb5.size)
          clear hb5 b6
          go_wp2_with fail
          refine (cmpE_any _ _ _).mono ?_
          rintro e wc7 ⟨rfl, b7⟩
          have hb7 := hb6.trans (b7.mono hb6.size)
          clear hb6 b7
          go_wp2_with fail
          refine (reftells_any _ _ _).mono ?_
          rw [HB.out.1, HB.out.2]
          rintro e wc8 ⟨rfl, b8⟩
          have hb8 := hb7.trans (b8.mono hb7.size)
          clear hb7 b8
          go_wp2_with fail
          go_ret
          exact ⟨rfl, hb8⟩
        · have hk : okM v r n = false := okM_r hr
          have hr' : 0 ≤ cmpE r n := by omega
          clear hr
          go_enter Try.func6, Try.ntmps6
          go_wp2_with fail
          refine (awake39_any _).mono ?_
          rintro e wc1 ⟨rfl, b1⟩
          have hb1 := b1
          go_wp2_with fail
          refine (reftakes_any _ _ _).mono ?_
          rintro e wc2 ⟨rfl, b2⟩
          have hb2 := hb1.trans (b2.mono hb1.size)
          clear hb1 b2
          go_wp2_with fail
          refine (rank_yes _ _ hz ht _).mono ?_
          rintro e w' ⟨rfl, q, rfl⟩
          have hb3 := below_drewN hb2 q
          clear hb2
          generalize wc2.drewN q = wc3 at *
          go_wp2_with fail
          refine (word_yes _ _ _ hz hk1 _).mono ?_
          rw [HX.out]
          rintro e wc4 ⟨rfl, b4⟩
          have hb4 := hb3.trans (b4.mono hb3.size)
          clear hb3 b4
          go_wp2_with fail
          refine (word_no _ _ _ hz hk _).mono ?_
          rintro e wc5 ⟨rfl, b5⟩
          have hb5 := hb4.trans (b5.mono hb4.size)
          clear hb4 b5
          go_wp2_with fail
          refine (refeach_any _ _).mono ?_
          rintro e wc6 ⟨rfl, b6⟩
          have hb6 := hb5.trans (b6.mono hb5.size)
          clear hb5 b6
          go_wp2_with fail
          refine (cmpE_any _ _ _).mono ?_
          rintro e wc7 ⟨rfl, b7⟩
          have hb7 := hb6.trans (b7.mono hb6.size)
          clear hb6 b7
          go_wp2_with fail
          go_ret
          exact ⟨rfl, hb7⟩
      · have hk : okM v r n = false := okM_v hv
        go_enter Try.func6, Try.ntmps6
        go_wp2_with fail
        refine (awake39_any _).mono ?_
        rintro e wc1 ⟨rfl, b1⟩
        have hb1 := b1
        go_wp2_with fail
        refine (reftakes_any _ _ _).mono ?_
        rintro e wc2 ⟨rfl, b2⟩
        have hb2 := hb1.trans (b2.mono hb1.size)
        clear hb1 b2
        go_wp2_with fail
        refine (rank_yes _ _ hz ht _).mono ?_
        rintro e w' ⟨rfl, q, rfl⟩
        have hb3 := below_drewN hb2 q
        clear hb2
        generalize wc2.drewN q = wc3 at *
        go_wp2_with fail
        refine (word_yes _ _ _ hz hk1 _).mono ?_
        rw [HX.out]
        rintro e wc4 ⟨rfl, b4⟩
        have hb4 := hb3.trans (b4.mono hb3.size)
        clear hb3 b4
        go_wp2_with fail
        refine (word_no _ _ _ hz hk _).mono ?_
        rintro e wc5 ⟨rfl, b5⟩
        have hb5 := hb4.trans (b5.mono hb4.size)
        clear hb4 b5
        go_wp2_with fail
        go_ret
        exact ⟨rfl, hb5⟩
    · have ht : takesM x n = false := by simpa using ht
      by_cases hv : ui v < ui n
      · by_cases hr : cmpE r n < 0
        · have hk := okM_mk hv hr
          obtain ⟨g1, g2, _⟩ := word_back h0 hv hr
          have HB := Lib.hid (And.intro g1 g2)
          clear g1 g2
          go_enter Try.func6, Try.ntmps6
          go_wp2_with fail
          refine (awake39_any _).mono ?_
          rintro e wc1 ⟨rfl, b1⟩
          have hb1 := b1
          go_wp2_with fail
          refine (reftakes_any _ _ _).mono ?_
          rintro e wc2 ⟨rfl, b2⟩
          have hb2 := hb1.trans (b2.mono hb1.size)
          clear hb1 b2
          go_wp2_with fail
          refine (word_yes _ _ _ hz hk _).mono ?_
          rintro e wc3 ⟨rfl, b3⟩
          have hb3 := hb2.trans (b3.mono hb2.size)
          clear hb2 b3
          go_wp2_with fail
          refine (refeach_any _ _).mono ?_
          rintro e wc4 ⟨rfl, b4⟩
          have hb4 := hb3.trans (b4.mono hb3.size)
          clear hb3 b4
          go_wp2_with fail
          refine (cmpE_any _ _ _).mono ?_
          rintro e wc5 ⟨rfl, b5⟩
          have hb5 := hb4.trans (b5.mono hb4.size)
          clear hb4 b5
          go_wp2_with fail
          refine (reftells_any _ _ _).mono ?_
          rw [HB.out.1, HB.out.2]
          rintro e wc6 ⟨rfl, b6⟩
          have hb6 := hb5.trans (b6.mono hb5.size)
          clear hb5 b6
          go_wp2_with fail
          go_ret
          exact ⟨rfl, hb6⟩
        · have hk : okM v r n = false := okM_r hr
          have hr' : 0 ≤ cmpE r n := by omega
          clear hr
          go_enter Try.func6, Try.ntmps6
          go_wp2_with fail
          refine (awake39_any _).mono ?_
          rintro e wc1 ⟨rfl, b1⟩
          have hb1 := b1
          go_wp2_with fail
          refine (reftakes_any _ _ _).mono ?_
          rintro e wc2 ⟨rfl, b2⟩
          have hb2 := hb1.trans (b2.mono hb1.size)
          clear hb1 b2
          go_wp2_with fail
          refine (word_no _ _ _ hz hk _).mono ?_
          rintro e wc3 ⟨rfl, b3⟩
          have hb3 := hb2.trans (b3.mono hb2.size)
          clear hb2 b3
          go_wp2_with fail
          refine (refeach_any _ _).mono ?_
          rintro e wc4 ⟨rfl, b4⟩
          have hb4 := hb3.trans (b4.mono hb3.size)
          clear hb3 b4
          go_wp2_with fail
          refine (cmpE_any _ _ _).mono ?_
          rintro e wc5 ⟨rfl, b5⟩
          have hb5 := hb4.trans (b5.mono hb4.size)
          clear hb4 b5
          go_wp2_with fail
          go_ret
          exact ⟨rfl, hb5⟩
      · have hk : okM v r n = false := okM_v hv
        go_enter Try.func6, Try.ntmps6
        go_wp2_with fail
        refine (awake39_any _).mono ?_
        rintro e wc1 ⟨rfl, b1⟩
        have hb1 := b1
        go_wp2_with fail
        refine (reftakes_any _ _ _).mono ?_
        rintro e wc2 ⟨rfl, b2⟩
        have hb2 := hb1.trans (b2.mono hb1.size)
        clear hb1 b2
        go_wp2_with fail
        refine (word_no _ _ _ hz hk _).mono ?_
        rintro e wc3 ⟨rfl, b3⟩
        have hb3 := hb2.trans (b3.mono hb2.size)
        clear hb2 b3
        go_wp2_with fail
        go_ret
        exact ⟨rfl, hb3⟩
end Go.Proofs.Ytekbhfagigpakaa
