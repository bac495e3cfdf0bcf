/- The walks of chapter 39's statements: each returns true. No condition but on lengths. -/
import Derived.Test.YtekbhfagigpakaaW39d
namespace Go.Proofs.Ytekbhfagigpakaa
open Go.RowKit
theorem lim_le {n : BitVec 64} (h : n ≠ 0) : n.toNat ≤ 2 ^ kB n ∧ 0 < n.toNat := by
  have h0 : n.toNat ≠ 0 := fun e => h (BitVec.eq_of_toNat_eq e)
  have hb := bl_lt (n - 1#64).toNat
  have e : (n - 1#64).toNat = n.toNat - 1 := by
    rw [BitVec.toNat_sub]
    have h1 : (1#64).toNat = 1 := rfl
    have := n.isLt
    rw [h1]; omega
  unfold kB
  rw [if_neg h]
  rw [e] at hb ⊢
  omega
theorem ui_lt_iff (x y : BitVec 64) : ui x < ui y ↔ x.toNat < y.toNat := by unfold ui; omega
theorem cmpE_lt (r n : BitVec 64) (h : n ≠ 0) : cmpE r n < 0 ↔ r.toNat < 2 ^ (64 - kB n) := by
  have hk := kB_le n
  unfold cmpE eachHi eachLo
  rw [if_neg h, if_neg h]
  unfold shlHi shlLo
  by_cases hm : 64 - kB n = 64
  · rw [if_pos hm, if_pos hm, hm]
    unfold cmpW
    rw [if_neg (by intro e; cases e.1), if_pos (.inl (by decide))]
    have := r.isLt
    constructor
    · intro _; exact this
    · intro _; omega
  · rw [if_neg hm, if_neg hm]
    have hp : (1#64 <<< (64 - kB n)).toNat = 2 ^ (64 - kB n) := by
      rw [BitVec.toNat_shiftLeft, Nat.shiftLeft_eq]
      show 1 * _ % _ = _
      rw [Nat.one_mul, Nat.mod_eq_of_lt (Nat.pow_lt_pow_right (by decide) (by omega))]
    rw [← hp, ← ui_lt_iff]
    unfold cmpW
    by_cases e : r = 1#64 <<< (64 - kB n)
    · rw [if_pos ⟨rfl, e⟩, ← e]; simp
    · rw [if_neg (fun h => e h.2)]
      by_cases hl : ui r < ui (1#64 <<< (64 - kB n))
      · rw [if_pos (.inr ⟨rfl, hl⟩)]; simp [hl]
      · rw [if_neg (by intro h; rcases h with h | h; · exact absurd h (by decide)
                       · exact hl h.2)]
        simp [hl]
theorem takes_ne {x n : BitVec 64} (h : takesM x n = true) : n ≠ 0 ∧ ui (lowM x n) < ui n ∧ cmpE (x >>> kB n) n < 0 ∧ (x >>> kB n) <<< kB n ||| lowM x n = x := by
  unfold takesM at h
  rw [Bool.and_eq_true, decide_eq_true_eq, decide_eq_true_eq] at h
  obtain ⟨h1, h2⟩ := h
  have h0 : n ≠ 0 := by rintro rfl; exact absurd h1 (by decide)
  have hk := kB_le n
  refine ⟨h0, h2, ?_, ?_⟩
  · rw [cmpE_lt _ _ h0, BitVec.toNat_ushiftRight, Nat.shiftRight_eq_div_pow]
    apply (Nat.div_lt_iff_lt_mul (Nat.two_pow_pos _)).2
    rw [← Nat.pow_add, show 64 - kB n + kB n = 64 by omega]
    exact x.isLt
  · apply BitVec.eq_of_toNat_eq
    have hm := Nat.mod_lt x.toNat (Nat.two_pow_pos (kB n))
    have hd := Nat.div_add_mod x.toNat (2 ^ kB n)
    have hx := x.isLt
    rw [BitVec.toNat_or, BitVec.toNat_shiftLeft, BitVec.toNat_ushiftRight, Nat.shiftRight_eq_div_pow, lowM_nat, Nat.mod_eq_of_lt (by rw [Nat.shiftLeft_eq, Nat.mul_comm]; omega), ← Nat.shiftLeft_add_eq_or_of_lt hm, Nat.shiftLeft_eq, Nat.mul_comm]
    exact hd
theorem word_back {v r n : BitVec 64} (h0 : n ≠ 0) (hv : ui v < ui n) (hr : cmpE r n < 0) : lowM (r <<< kB n ||| v) n = v ∧ (r <<< kB n ||| v) >>> kB n = r ∧ takesM (r <<< kB n ||| v) n = true := by
  rw [cmpE_lt _ _ h0] at hr
  obtain ⟨h1, h2⟩ := lim_le h0
  have hk := kB_le n
  rw [ui_lt_iff] at hv
  have hv2 : v.toNat < 2 ^ kB n := by omega
  have hb : r.toNat * 2 ^ kB n + v.toNat < 2 ^ 64 := by
    have := Nat.mul_le_mul_right (2 ^ kB n) (show r.toNat + 1 ≤ 2 ^ (64 - kB n) from hr)
    rw [Nat.succ_mul, ← Nat.pow_add, show 64 - kB n + kB n = 64 by omega] at this
    omega
  have e : (r <<< kB n ||| v).toNat = v.toNat + 2 ^ kB n * r.toNat := by
    rw [BitVec.toNat_or, BitVec.toNat_shiftLeft, Nat.mod_eq_of_lt (by rw [Nat.shiftLeft_eq]; omega), ← Nat.shiftLeft_add_eq_or_of_lt hv2, Nat.shiftLeft_eq, Nat.mul_comm, Nat.add_comm]
  have e1 : lowM (r <<< kB n ||| v) n = v := by
    apply BitVec.eq_of_toNat_eq
    rw [lowM_nat, e, Nat.add_mul_mod_self_left, Nat.mod_eq_of_lt hv2]
  refine ⟨e1, ?_, ?_⟩
  · apply BitVec.eq_of_toNat_eq
    rw [BitVec.toNat_ushiftRight, Nat.shiftRight_eq_div_pow, e, Nat.add_mul_div_left _ _ (Nat.two_pow_pos _), Nat.div_eq_of_lt hv2, Nat.zero_add]
  · unfold takesM
    rw [e1, decide_eq_true (by unfold ui; omega : 0 < ui n), decide_eq_true ((ui_lt_iff _ _).2 hv)]; rfl
theorem first_or (f : BitVec 64 → Bool) (xs : List (BitVec 64)) : (∀ i, (hi : i < xs.length) → f xs[i] = false) ∨ ∃ j, ∃ hj : j < xs.length, f xs[j] = true ∧ ∀ i, (hi : i < j) → f (xs[i]'(by omega)) = false := by
  induction xs with
  | nil => exact .inl fun i hi => absurd hi (by simp)
  | cons x xs ih =>
    by_cases h : f x = true
    · exact .inr ⟨0, by simp, h, fun i hi => absurd hi (by omega)⟩
    · rcases ih with ih | ⟨j, hj, h1, h2⟩
      · refine .inl fun i hi => ?_
        rcases i with _ | i
        · simpa using h
        · simpa using ih i (by simpa using hi)
      · refine .inr ⟨j + 1, by simpa using hj, by simpa using h1, fun i hi => ?_⟩
        rcases i with _ | i
        · simpa using h
        · simpa using h2 i (by omega)
theorem bits_5 (w : World) : Calls Try.prog 9 #[.int .u64 5] w fun e w' => e = .returned (.int .i64 3) ∧ w = w' := by
  have h := bits_any 5#64 w
  rw [show kB 5#64 = 3 from by decide +kernel] at h
  exact h
theorem two_words (w : World) (a b : BitVec 64) : SlV (w.alloc (.cells #[.int .u64 (ui a), .int .u64 (ui b)] 22)) (.slice (some ⟨w.heap.size, 0, none⟩) 2 2) (vals [a, b]) := by
  refine .inr ⟨_, _, _, rfl, ?_⟩
  intro i u hu
  rcases i with _ | _ | i
  · simp [vals] at hu; subst hu; simp
  · simp [vals] at hu; subst hu; simp
  · simp [vals] at hu
theorem awake39_any (w : World) : Calls Try.prog 8 #[] w fun e w' => e = .returned (.bool true) ∧ Below w.heap.size w w' := by
  have hx : SlV (w.alloc (.cells #[.int .u64 7, .int .u64 12] 22)) (.slice (some ⟨w.heap.size, 0, none⟩) 2 2) (vals [7#64, 12#64]) := two_words w 7#64 12#64
  have HX := Lib.hid hx
  clear hx
  go_enter Try.func8, Try.ntmps8
  go_wp2_with fail
  refine (new_any _ [7#64, 12#64] (by decide) _ HX.out).mono ?_
  rintro e w1 ⟨B, wv, rfl, hT, hBw, hb⟩
  have hb1 : Below w.heap.size w w1 := ((Below.refl _ _).alloc (Nat.le_refl _) _).trans (hb.mono (by simp))
  have hBw1 : w.heap.size ≤ B := by simp at hBw; omega
  have ht := take_found B [7#64, 12#64] 0 1 wv _ 5#64 (by decide) w1 hT (by omega) (by decide) (by decide +kernel) (by
    intro i _ hi
    obtain rfl : i = 0 := by omega
    exact show takesM 7#64 5#64 = false from by decide +kernel)
  have e1 : lowM ([7#64, 12#64][1]'(by decide)) 5#64 = 4#64 := by decide +kernel
  rw [e1] at ht
  have e2 : ([7#64, 12#64][1]'(by decide)) >>> kB 5#64 = 1#64 := by decide +kernel
  rw [e2] at ht
  have HT := Lib.hid ht
  clear ht e1 e2 hT hb hBw
  go_wp2_with fail
  refine HT.out.mono ?_
  rintro e w2 ⟨tv', rfl, hT2, b2⟩
  have hb2 := hb1.trans (b2.mono hBw1)
  have q4 : (ui 4#64 == 4) = true := rfl
  clear hT2 b2 hb1
  go_wp2_with fail
  refine (bits_5 _).mono ?_
  rintro e w' ⟨rfl, rfl⟩
  go_wp2_with fail
  go_ret
  exact ⟨rfl, hb2.alloc hb2.size _⟩
theorem half_facts {n : BitVec 64} (h0 : n ≠ 0) (h1 : n ≠ 1#64) : 1 ≤ kB n ∧ (1 : Int) ≤ ui (n >>> (ui (BitVec.ofNat 64 (kB n) - 1#64)).toNat) ∧ (kB n ≠ 64 → ui n ≤ ui (1#64 <<< min (ui (BitVec.ofNat 64 (kB n))).toNat 64)) ∧ 1 < ui n := by
  have hk := kB_le n
  obtain ⟨g1, g2⟩ := lim_le h0
  have h2 : 2 ≤ n.toNat := by
    have : n.toNat ≠ 1 := fun e => h1 (BitVec.eq_of_toNat_eq e)
    omega
  have e : (n - 1#64).toNat = n.toNat - 1 := by
    rw [BitVec.toNat_sub]
    have h1 : (1#64).toNat = 1 := rfl
    have := n.isLt
    rw [h1]; omega
  have hb : 1 ≤ kB n := by
    rcases Nat.eq_zero_or_pos (kB n) with h | h
    · rw [h] at g1; simp at g1; omega
    · exact h
  have ht : 2 ^ (kB n - 1) ≤ n.toNat - 1 := by
    have := bl_top (n - 1#64).toNat (by rw [e]; omega)
    unfold kB
    rw [if_neg h0]
    rw [e] at this ⊢
    exact this
  refine ⟨hb, ?_, ?_, by unfold ui; omega⟩
  · have e3 : (ui (BitVec.ofNat 64 (kB n) - 1#64)).toNat = kB n - 1 := by
      unfold ui
      rw [Int.toNat_natCast, BitVec.toNat_sub]
      have h1 : (1#64).toNat = 1 := rfl
      have h2 : (BitVec.ofNat 64 (kB n)).toNat = kB n := by rw [BitVec.toNat_ofNat, Nat.mod_eq_of_lt (by omega)]
      rw [h1, h2]; omega
    rw [e3]
    unfold ui
    rw [BitVec.toNat_ushiftRight, Nat.shiftRight_eq_div_pow]
    have : 1 ≤ n.toNat / 2 ^ (kB n - 1) := (Nat.le_div_iff_mul_le (Nat.two_pow_pos _)).2 (by omega)
    omega
  · intro h64
    have e3 : min (ui (BitVec.ofNat 64 (kB n))).toNat 64 = kB n := by rw [ui_nat _ (by omega)]; omega
    rw [e3]
    unfold ui
    rw [BitVec.toNat_shiftLeft, Nat.shiftLeft_eq]
    have h1 : (1#64).toNat = 1 := rfl
    rw [h1, Nat.one_mul, Nat.mod_eq_of_lt (Nat.pow_lt_pow_right (by decide) (by omega))]
    omega
theorem half_walk (n : BitVec 64) (w : World) : Calls Try.prog 3 #[.int .u64 (ui n)] w fun e w' => e = .returned (.bool true) ∧ Below w.heap.size w w' := by
  have hk := kB_le n
  by_cases h0 : n = 0
  · subst h0
    have h00 : (ui 0#64 == 0) = true := rfl
    have hk0 : (((kB 0#64 : Nat) : Int) == 0) = true := by decide
    go_enter Try.func3, Try.ntmps3
    go_wp2_with fail
    refine (awake39_any _).mono ?_
    rintro e w1 ⟨rfl, b1⟩
    go_wp2_with fail
    refine (bits_any _ _).mono ?_
    rintro e w' ⟨rfl, rfl⟩
    go_wp2_with fail
    go_ret
    exact ⟨rfl, b1⟩
  · have hz : (n == 0#64) = false := by simpa using h0
    by_cases h1 : n = 1#64
    · subst h1
      have hk0 : (((kB 1#64 : Nat) : Int) == 0) = true := by decide
      have hz1 : (ui 1#64 == 1) = true := rfl
      go_enter Try.func3, Try.ntmps3
      go_wp2_with fail
      refine (awake39_any _).mono ?_
      rintro e w1 ⟨rfl, b1⟩
      go_wp2_with fail
      refine (bits_any _ _).mono ?_
      rintro e w' ⟨rfl, rfl⟩
      go_wp2_with fail
      all_goals go_ret
      all_goals exact ⟨rfl, b1⟩
    · obtain ⟨f1, f2, f3, f4⟩ := half_facts h0 h1
      have hz1 : (n == 1#64) = false := by simpa using h1
      have f1' : (1 : Int) ≤ ((kB n : Nat) : Int) := by omega
      by_cases h64 : kB n = 64
      · have h64' : (((kB n : Nat) : Int) == 64) = true := by rw [h64]; rfl
        clear f3 h64
        go_enter Try.func3, Try.ntmps3
        go_wp2_with fail
        refine (awake39_any _).mono ?_
        rintro e w1 ⟨rfl, b1⟩
        go_wp2_with fail
        refine (bits_any _ _).mono ?_
        rintro e w' ⟨rfl, rfl⟩
        go_wp2_with fail
        all_goals go_ret
        all_goals exact ⟨rfl, b1⟩
      · have f3' := f3 h64
        have h64' : (((kB n : Nat) : Int) == 64) = false := by rw [beq_eq_false_iff_ne]; omega
        clear f3
        go_enter Try.func3, Try.ntmps3
        go_wp2_with fail
        refine (awake39_any _).mono ?_
        rintro e w1 ⟨rfl, b1⟩
        go_wp2_with fail
        refine (bits_any _ _).mono ?_
        rintro e w' ⟨rfl, rfl⟩
        go_wp2_with fail
        all_goals go_ret
        all_goals exact ⟨rfl, b1⟩
end Go.Proofs.Ytekbhfagigpakaa
