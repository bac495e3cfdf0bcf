/- The walk of chapter 13's statement Pcg32Tells: it returns true. No condition. -/
import Derived.Test.YtaldnlmkjoaaoaaW7
namespace Go.Proofs.Ytaldnlmkjoaaoaa
open Go.RowKit
theorem pback_step (s inc : BitVec 64) : stepB ((s - (inc ||| 1#64)) * oddInv timesC) inc = s := by
  unfold stepB
  have h := inv_t
  show (s - (inc ||| 1#64)) * oddInv timesC * timesC + (inc ||| 1#64) = s
  generalize oddInv timesC = i at *; generalize inc ||| 1#64 = c; grind
theorem pstep_back (s inc : BitVec 64) : (stepB s inc - (inc ||| 1#64)) * oddInv timesC = s := by
  unfold stepB
  have h := inv_t
  show (s * timesC + (inc ||| 1#64) - (inc ||| 1#64)) * oddInv timesC = s
  generalize oddInv timesC = i at *; generalize inc ||| 1#64 = c; grind
def tk64 (s inc : BitVec 64) (n j : Nat) : List (BitVec 64) := ((told32 s inc n).take j).map fun x => BitVec.setWidth 64 x
theorem tk64_succ (s inc : BitVec 64) (n j : Nat) (hj : j < n) : tk64 s inc n j ++ [BitVec.setWidth 64 (outB (itr (stepB · inc) j s))] = tk64 s inc n (j + 1) := by
  unfold tk64
  rw [List.take_succ_eq_append_getElem (by rw [told32_length]; exact hj)]
  simp [told32]
theorem tk64_all (s inc : BitVec 64) (n : Nat) : tk64 s inc n n = told64 s inc n := by
  unfold tk64 told64
  rw [List.take_of_length_le (by rw [told32_length]; exact Nat.le_refl _)]
theorem told_get (s inc : BitVec 64) (n j : Nat) (hj : j < n) : (vals32 (told32 s inc n))[j]? = some (.int .u32 (uw (outB (itr (stepB · inc) j s)))) := by
  simp [vals32, told32, hj]
theorem tells13_walk (s inc : BitVec 64) (k : Int) (_h1 : -9223372036854775808 ≤ k) (_h2 : k ≤ 9223372036854775807) (w : World) :
    Calls Try.prog 9 #[.int .u64 (ui s), .int .u64 (ui inc), .int .i64 k] w fun e w' => e = .returned (.bool true) ∧ Below w.heap.size w w' := by
  obtain ⟨i0, hi, hz0, hz1, hz2⟩ := info_parts info_u64
  have HB1 := Lib.hid (pback_step s inc)
  have HB2 := Lib.hid (pstep_back s inc)
  by_cases c1 : k ≤ 300
  · have c1' : ¬ 300 < k := by omega
    obtain ⟨n, hn⟩ : ∃ n, n = (min k 4096).toNat := ⟨_, rfl⟩
    have hn2 : n = k.toNat := by omega
    have hn3 : n ≤ 300 := by omega
    go_enter Try.func9, Try.ntmps9
    go_wp2_with fail
    refine (awake13_any _).mono ?_
    rintro e w' ⟨rfl, rfl⟩
    go_wp2_with fail
    refine (ptold_any _ _ _ _).mono ?_
    rintro e w1 ⟨v1, rfl, o1, b1⟩
    have s1 := SlV.of_owns o1
    rw [← hn] at s1
    clear o1
    have HN := Lib.hid hn
    have HN2 := Lib.hid hn2
    clear hn hn2
    rcases s1.cases with ⟨hx0, ao, cap, rfl⟩ | ⟨b, o, cap, rfl, hpos, hc⟩
    · have hn0 : n = 0 := by have := congrArg List.length hx0; rw [vals32_length, told32_length] at this; exact this
      subst hn0
      clear s1 hx0
      go_wp2_with fail
      go_loopw [7, 19] (fun v i wr => i = .int .i64 0 ∧ v = .slice none 0 0 ∧ wr = w1) (fun _ _ _ => 0)
      case atStart => exact ⟨rfl, rfl, rfl⟩
      case round =>
        obtain ⟨rfl, rfl, rfl⟩ := hrel
        have hown : wr.ownsRow wr.heap.size 22 1 (.slice none 0 0) 0 (vals (told64 s inc 0)) := World.ownsRow_nil _ _ _ _
        have hb := Below.refl wr.heap.size wr
        have hw1 := Lib.hid b1
        clear b1
        have b1 := hw1.out
        have sA := SlV.of_owns hown
        have B0 := b1
        go_wp2_with fail
        refine (step_any _ _ _).mono ?_
        rintro e w' ⟨rfl, rfl⟩
        go_wp2_with fail
        refine (refstep_any _ _ _).mono ?_
        rintro e w' ⟨rfl, rfl⟩
        go_wp2_with fail
        refine (pout_any _ _).mono ?_
        rintro e w' ⟨rfl, rfl⟩
        go_wp2_with fail
        refine (refout_any _ _).mono ?_
        rintro e w' ⟨rfl, rfl⟩
        go_wp2_with fail
        refine (pback_any _ _ _).mono ?_
        rintro e w' ⟨rfl, rfl⟩
        go_wp2_with fail
        refine (refstep_any _ _ _).mono ?_
        rintro e w' ⟨rfl, rfl⟩
        rw [HB1.out]
        go_wp2_with fail
        refine (step_any _ _ _).mono ?_
        rintro e w' ⟨rfl, rfl⟩
        go_wp2_with fail
        refine (pback_any _ _ _).mono ?_
        rintro e w' ⟨rfl, rfl⟩
        rw [HB2.out]
        go_wp2_with fail
        refine (reftold_any _ _ _ c1 _).mono ?_
        rintro e w5 ⟨v5, rfl, o5, b5⟩
        have s5 := SlV.of_owns o5
        rw [show k.toNat = 0 from HN2.out.symm] at s5
        go_wp2_with fail
        refine (words_any _ _ _ _ _ (sA.below b5) s5 (by rw [told64_length]; omega) (by rw [told64_length]; omega)).mono ?_
        rintro e w6 ⟨rfl, b6⟩
        have B6 := (B0.trans (b5.mono B0.size)).trans (b6.mono (Nat.le_trans B0.size b5.size))
        go_wp2
        go_ret
        exact ⟨ret_bool (by simp), B6⟩
    · rw [vals32_length, told32_length] at *
      clear s1
      go_wp2_with fail
      go_loopw [7, 19] (fun v i wr => ∃ j : Nat, j ≤ n ∧ i = .int .i64 j ∧ wr.ownsRow w1.heap.size 22 1 v j (vals (tk64 s inc n j)) ∧ Below w1.heap.size w1 wr) (fun _ i _ => n - (intOf i).toNat)
      case atStart => exact ⟨0, by omega, rfl, World.ownsRow_nil _ _ _ _, Below.refl _ _⟩
      case round =>
        obtain ⟨j, hj, rfl, hown, hb⟩ := hrel
        by_cases hlt : j < n
        · have c0 := hc j _ (told_get s inc n j hlt)
          rw [← hb.cell (p := ⟨b, o + j, none⟩) (World.block_lt_of_cell? w1 _ c0)] at c0
          clear hc
          have hlt' : (j : Int) < (n : Int) := by omega
          have hsz := hb.size
          go_wp2_with (at_builtin; refine wpList_append_own _ rfl _ _ 39 rfl (w1.heap.size) 22 i0 (.int .u64 0) 1 8 Try.underlying39 hi hz0 hz1 hz2 rfl (by decide) _ _ _ rfl (hown.alloc _) ⟨wr.heap.size, 0, none⟩ 1 1 [.int .u64 (ui ((outB (itr (stepB · inc) j s)).setWidth 64))] rfl rfl ?c1 ?c2 ?c3 ?c4 ?c5 ?_)
          case c1 => exact cell_one_new _ _ _
          case c2 => intro u hu; simp at hu; subst hu; rfl
          case c3 => unfold maxLen; omega
          case c4 => omega
          case c5 => simp; omega
          intro v' w4 hown' hgrow _
          have hB : Below w1.heap.size w1 w4 := (hb.alloc hb.size _).grown hgrow (by simp; omega) (fun q hq => (hown.lt q hq).1)
          rw [← vals_snoc, tk64_succ s inc n j hlt] at hown'
          clear hgrow hown
          go_wp2_with fail
          go_roundw
          case rel => exact ⟨j + 1, by omega, by go_num, hown', hB⟩
          case measure => simp [intOf]; omega
        · have hjn : j = n := by omega
          subst hjn
          rw [tk64_all] at hown
          have sA : SlV wr _ (vals (told64 s inc j)) := SlV.of_owns hown
          have B0 : Below w.heap.size w wr := b1.trans (hb.mono b1.size)
          clear hc
          go_wp2_with fail
          refine (step_any _ _ _).mono ?_
          rintro e w' ⟨rfl, rfl⟩
          go_wp2_with fail
          refine (refstep_any _ _ _).mono ?_
          rintro e w' ⟨rfl, rfl⟩
          go_wp2_with fail
          refine (pout_any _ _).mono ?_
          rintro e w' ⟨rfl, rfl⟩
          go_wp2_with fail
          refine (refout_any _ _).mono ?_
          rintro e w' ⟨rfl, rfl⟩
          go_wp2_with fail
          refine (pback_any _ _ _).mono ?_
          rintro e w' ⟨rfl, rfl⟩
          go_wp2_with fail
          refine (refstep_any _ _ _).mono ?_
          rintro e w' ⟨rfl, rfl⟩
          rw [HB1.out]
          go_wp2_with fail
          refine (step_any _ _ _).mono ?_
          rintro e w' ⟨rfl, rfl⟩
          go_wp2_with fail
          refine (pback_any _ _ _).mono ?_
          rintro e w' ⟨rfl, rfl⟩
          rw [HB2.out]
          go_wp2_with fail
          refine (reftold_any _ _ _ c1 _).mono ?_
          rintro e w5 ⟨v5, rfl, o5, b5⟩
          have s5 := SlV.of_owns o5
          rw [show k.toNat = j from HN2.out.symm] at s5
          go_wp2_with fail
          refine (words_any _ _ _ _ _ (sA.below b5) s5 (by rw [told64_length]; omega) (by rw [told64_length]; omega)).mono ?_
          rintro e w6 ⟨rfl, b6⟩
          have B6 := (B0.trans (b5.mono B0.size)).trans (b6.mono (Nat.le_trans B0.size b5.size))
          go_wp2
          go_ret
          exact ⟨ret_bool (by simp), B6⟩
  · go_enter Try.func9, Try.ntmps9
    go_wp2_with fail
    refine (awake13_any _).mono ?_
    rintro e w' ⟨rfl, rfl⟩
    go_wp2
    go_ret
    exact ⟨rfl, Below.refl _ _⟩
end Go.Proofs.Ytaldnlmkjoaaoaa
