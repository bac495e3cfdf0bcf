/- The walks of chapter 39's functions (masks), the program's and the reference's. No condition but on lengths. -/
import Derived.Test.YtekbhfagigpakaaTape
namespace Go.Proofs.Ytekbhfagigpakaa
open Go.RowKit
/-- how many bits a limit less one has -/
def kB (n : BitVec 64) : Nat := if n = 0 then 0 else bl (n - 1#64).toNat
theorem kB_le (n : BitVec 64) : kB n ≤ 64 := by
  unfold kB; split
  · omega
  · exact bl_le _ _ (BitVec.isLt _)
def lowM (x n : BitVec 64) : BitVec 64 := x &&& ((1#64 <<< kB n) - 1#64)
theorem lowM_nat (x n : BitVec 64) : (lowM x n).toNat = x.toNat % 2 ^ kB n := by
  have hk := kB_le n
  unfold lowM
  have e : ((1#64 <<< kB n) - 1#64).toNat = 2 ^ kB n - 1 := by
    rw [BitVec.toNat_sub, BitVec.toNat_shiftLeft, Nat.shiftLeft_eq]
    have h1 : (1#64).toNat = 1 := rfl
    rw [h1, Nat.one_mul]
    have hp := Nat.two_pow_pos (kB n)
    by_cases h : kB n = 64
    · rw [h]
    · rw [Nat.mod_eq_of_lt (Nat.pow_lt_pow_right (by decide) (by omega) : 2 ^ kB n < 2 ^ 64)]
      have : 2 ^ kB n < 2 ^ 64 := Nat.pow_lt_pow_right (by decide) (by omega)
      omega
  rw [BitVec.toNat_and, e, Nat.and_two_pow_sub_one_eq_mod]
theorem lowM_eq (x n : BitVec 64) : lowM x n = BitVec.ofNat 64 (x.toNat % 2 ^ kB n) := by
  apply BitVec.eq_of_toNat_eq
  rw [lowM_nat, BitVec.toNat_ofNat, Nat.mod_eq_of_lt (Nat.lt_of_le_of_lt (Nat.mod_le _ _) x.isLt)]
theorem shr_eq (x n : BitVec 64) : x >>> kB n = BitVec.ofNat 64 (x.toNat / 2 ^ kB n) := by
  apply BitVec.eq_of_toNat_eq
  rw [BitVec.toNat_ushiftRight, Nat.shiftRight_eq_div_pow, BitVec.toNat_ofNat, Nat.mod_eq_of_lt (Nat.lt_of_le_of_lt (Nat.div_le_self _ _) x.isLt)]
@[go_sem] theorem ofInt_pow (k : Nat) : BitVec.ofInt 64 ((2 : Int) ^ k) = 1#64 <<< k := by
  rw [show ((2 : Int) ^ k) = ((2 ^ k : Nat) : Int) by simp, BitVec.ofInt_natCast]
  apply BitVec.eq_of_toNat_eq
  rw [BitVec.toNat_ofNat, BitVec.toNat_shiftLeft, Nat.shiftLeft_eq]
  show _ = 1 * _ % _
  rw [Nat.one_mul]
@[go_sem] theorem ui_div_pow (x : BitVec 64) (n : Nat) : ui x / (2 : Int) ^ n = ui (x >>> n) := by
  unfold ui
  rw [BitVec.toNat_ushiftRight, Nat.shiftRight_eq_div_pow, show ((2 : Int) ^ n) = ((2 ^ n : Nat) : Int) by simp, ← Int.natCast_ediv]
/-- whether a word is taken -/
def takesM (x n : BitVec 64) : Bool := decide (0 < ui n) && decide (ui (lowM x n) < ui n)
theorem bits_any (n : BitVec 64) (w : World) :
    Calls Try.prog 9 #[.int .u64 (ui n)] w fun e w' => e = .returned (.int .i64 (kB n)) ∧ w = w' := by
  by_cases h : n = 0
  · subst h
    have hz : (ui 0#64 == 0) = true := rfl
    go_enter Try.func9, Try.ntmps9
    go_wp2_with fail
    go_ret
    exact ⟨rfl, rfl⟩
  · have hz : (n == 0#64) = false := by simpa using h
    have hk : kB n = bl (n - 1#64).toNat := by unfold kB; rw [if_neg h]
    have HK := Lib.hid hk
    clear h hk
    go_enter Try.func9, Try.ntmps9
    go_wp2_with fail
    refine (len64_any _ _).mono ?_
    rw [← HK.out]
    rintro e w' ⟨rfl, rfl⟩
    go_wp2_with fail
    go_ret
    exact ⟨rfl, rfl⟩
theorem refbits_any (n : BitVec 64) (w : World) :
    Calls Try.prog 14 #[.int .u64 (ui n)] w fun e w' => e = .returned (.int .i64 (kB n)) ∧ Below w.heap.size w w' := by
  by_cases h : n = 0
  · subst h
    have hz : (ui 0#64 == 0) = true := rfl
    go_enter Try.func14, Try.ntmps14
    go_wp2_with fail
    go_ret
    exact ⟨rfl, Below.refl _ _⟩
  · have hz : (n == 0#64) = false := by simpa using h
    have hk : kB n = bl (n - 1#64).toNat := by unfold kB; rw [if_neg h]
    have HK := Lib.hid hk
    clear h hk
    go_enter Try.func14, Try.ntmps14
    go_wp2_with fail
    refine (of_any (n - 1#64) 64 (by omega) _).mono ?_
    rintro e w1 ⟨v, rfl, hown, b1⟩
    go_wp2_with fail
    refine (len_any v (n - 1#64).toNat 64 (BitVec.isLt _) (by omega) _ (SlV.of_owns hown)).mono ?_
    rw [← HK.out]
    rintro e w' ⟨rfl, rfl⟩
    go_wp2_with fail
    go_ret
    exact ⟨rfl, b1⟩
theorem low_any (x n : BitVec 64) (w : World) :
    Calls Try.prog 35 #[.int .u64 (ui x), .int .u64 (ui n)] w fun e w' => e = .returned (.int .u64 (ui (lowM x n))) ∧ w = w' := by
  have hk := kB_le n
  go_enter Try.func35, Try.ntmps35
  go_wp2_with fail
  refine (bits_any _ _).mono ?_
  rintro e w' ⟨rfl, rfl⟩
  go_wp2_with fail
  go_ret
  exact ⟨rfl, rfl⟩
theorem takes_any (x n : BitVec 64) (w : World) :
    Calls Try.prog 17 #[.int .u64 (ui x), .int .u64 (ui n)] w fun e w' => e = .returned (.bool (takesM x n)) ∧ w = w' := by
  by_cases h : 0 < ui n
  · have ht : takesM x n = decide (ui (lowM x n) < ui n) := by unfold takesM; rw [decide_eq_true h, Bool.true_and]
    have HT := Lib.hid ht
    clear ht
    go_enter Try.func17, Try.ntmps17
    go_wp2_with fail
    refine (low_any _ _ _).mono ?_
    rintro e w' ⟨rfl, rfl⟩
    go_wp2_with fail
    go_ret
    exact ⟨ret_b HT.out.symm, rfl⟩
  · have ht : takesM x n = false := by unfold takesM; rw [decide_eq_false h, Bool.false_and]
    have HT := Lib.hid ht
    clear ht
    go_enter Try.func17, Try.ntmps17
    go_wp2_with fail
    go_ret
    exact ⟨ret_b HT.out.symm, rfl⟩
theorem reftells_any (x n : BitVec 64) (w : World) :
    Calls Try.prog 20 #[.int .u64 (ui x), .int .u64 (ui n)] w fun e w' => e = .returned (.tuple #[.int .u64 (ui (lowM x n)), .int .u64 (ui (x >>> kB n))]) ∧ Below w.heap.size w w' := by
  have hk := kB_le n
  go_enter Try.func20, Try.ntmps20
  go_wp2_with fail
  refine (of_any x 64 (by omega) _).mono ?_
  rintro e w1 ⟨v, rfl, hown, b1⟩
  rw [bvs_length, show Int.toNat 64 = 64 from rfl] at hown
  go_wp2_with fail
  refine (refbits_any _ _).mono ?_
  rintro e w2 ⟨rfl, b2⟩
  have hx := (SlV.of_owns hown).below b2
  rcases hown.2 with ⟨_, h0⟩ | ⟨g, cap, cur, rfl, _, _, hcap, hmax, _⟩
  · cases h0
  have hc : ∀ i u, (bvs x.toNat 64)[i]? = some u → w2.cell? ⟨g, 0 + i, none⟩ = some u := by
    rcases hx with ⟨hn, _⟩ | ⟨b, o, c, he, h⟩
    · cases hn
    · injection he with e1 e2 e3
      injection e1 with e1
      injection e1 with e4 e5
      subst e4; subst e5
      exact h
  have h1 := SlV.bits_take (cap := cap) hc hk rfl
  have hk' : (kB n : Int) ≤ 64 := by omega
  have hkc : (kB n : Int) ≤ (cap : Int) := by omega
  have hkn : kB n ≤ cap := by omega
  unfold maxLen at hmax
  have v1 : ∀ nq, Calls Try.prog 36 #[.slice (some ⟨g, 0, none⟩) (kB n) cap, .int .i64 0] (w2.drewN nq) fun e w' => e = .returned (.int .u64 (ui (lowM x n))) ∧ w' = w2.drewN nq := by
    intro nq
    have h := word_any (.slice (some ⟨g, 0, none⟩) (kB n) cap) (x.toNat % 2 ^ kB n) (kB n) (Nat.mod_lt _ (Nat.two_pow_pos _)) (by omega) 0 (by omega) (by omega) (w2.drewN nq) (by
      rw [bvs_congr (show x.toNat % 2 ^ kB n % 2 ^ kB n = x.toNat % 2 ^ kB n from Nat.mod_mod _ _)]; exact h1)
    rw [show Int.toNat 0 = 0 from rfl, Nat.pow_zero, Nat.div_one, ← lowM_eq] at h
    exact h.mono fun _ _ h => ⟨h.1, h.2.symm⟩
  have hlt2 : x.toNat / 2 ^ kB n < 2 ^ (64 - kB n) := by
    apply (Nat.div_lt_iff_lt_mul (Nat.two_pow_pos _)).2
    rw [← Nat.pow_add, show 64 - kB n + kB n = 64 by omega]
    exact x.isLt
  have hb := b1.trans (b2.mono b1.size)
  by_cases hck : cap = kB n
  · have hk64 : kB n = 64 := by omega
    have v2 : ∀ nq, Calls Try.prog 36 #[.slice (some ⟨g, 0, none⟩) 0 0, .int .i64 0] (w2.drewN nq) fun e w' => e = .returned (.int .u64 (ui (x >>> kB n))) ∧ w' = w2.drewN nq := by
      intro nq
      have h := word_any (.slice (some ⟨g, 0, none⟩) 0 0) (x.toNat / 2 ^ kB n) (64 - kB n) hlt2 (by omega) 0 (by omega) (by omega) (w2.drewN nq) (by
        rw [hk64, bvs_zero]; exact .inl ⟨rfl, _, _, rfl⟩)
      rw [show Int.toNat 0 = 0 from rfl, Nat.pow_zero, Nat.div_one, ← shr_eq] at h
      exact h.mono fun _ _ h => ⟨h.1, h.2.symm⟩
    clear hx hown hc h1 hlt2 hk64
    subst hck
    go_wp2_with fail
    go_quiet ((first | (go_at_call 36; with_reducible exact Calls.quiet_of_same (v1 _)) | (go_at_call 36; with_reducible exact Calls.quiet_of_same (v2 _))))
    go_wp2_with fail
    go_ret2
    exact ⟨rfl, below_drewN hb _⟩
  · have v2 : ∀ nq, Calls Try.prog 36 #[.slice (some ⟨g, kB n, none⟩) (64 - kB n) (cap - kB n), .int .i64 0] (w2.drewN nq) fun e w' => e = .returned (.int .u64 (ui (x >>> kB n))) ∧ w' = w2.drewN nq := by
      intro nq
      have h := word_any (.slice (some ⟨g, kB n, none⟩) (64 - kB n) (cap - kB n)) (x.toNat / 2 ^ kB n) (64 - kB n) hlt2 (by omega) 0 (by omega) (by omega) (w2.drewN nq) (by
        have := SlV.bits_drop (cap := cap - kB n) hc hk rfl
        rwa [Nat.zero_add] at this)
      rw [show Int.toNat 0 = 0 from rfl, Nat.pow_zero, Nat.div_one, ← shr_eq] at h
      exact h.mono fun _ _ h => ⟨h.1, h.2.symm⟩
    clear hx hown hc h1 hlt2
    go_wp2_with fail
    go_quiet ((first | (go_at_call 36; with_reducible exact Calls.quiet_of_same (v1 _)) | (go_at_call 36; with_reducible exact Calls.quiet_of_same (v2 _))))
    go_wp2_with fail
    go_ret2
    exact ⟨rfl, below_drewN hb _⟩
theorem reftakes_any (x n : BitVec 64) (w : World) :
    Calls Try.prog 18 #[.int .u64 (ui x), .int .u64 (ui n)] w fun e w' => e = .returned (.bool (takesM x n)) ∧ Below w.heap.size w w' := by
  by_cases h : 0 < ui n
  · have ht : takesM x n = decide (ui (lowM x n) < ui n) := by unfold takesM; rw [decide_eq_true h, Bool.true_and]
    have HT := Lib.hid ht
    clear ht
    go_enter Try.func18, Try.ntmps18
    go_wp2_with fail
    refine (reftells_any _ _ _).mono ?_
    rintro e w1 ⟨rfl, b1⟩
    go_wp2_with fail
    go_ret
    exact ⟨ret_b HT.out.symm, b1⟩
  · have ht : takesM x n = false := by unfold takesM; rw [decide_eq_false h, Bool.false_and]
    have HT := Lib.hid ht
    clear ht
    go_enter Try.func18, Try.ntmps18
    go_wp2_with fail
    refine (reftells_any _ _ _).mono ?_
    rintro e w1 ⟨rfl, b1⟩
    go_wp2_with fail
    go_ret
    exact ⟨ret_b HT.out.symm, b1⟩
theorem ret_t3 {a b c a' b' c' : Value} (h : a = a') (h2 : b = b') (h3 : c = c') : Ending.returned (.tuple #[a, b, c]) = .returned (.tuple #[a', b', c']) := by rw [h, h2, h3]
theorem rank_zero (x : BitVec 64) (w : World) :
    Calls Try.prog 19 #[.int .u64 (ui x), .int .u64 0] w fun e w' => e = .returned (.tuple #[.int .u64 0, .int .u64 0, .int .i64 8]) ∧ w = w' := by
  go_enter Try.func19, Try.ntmps19
  go_wp2_with fail
  go_ret3
  exact ⟨rfl, rfl⟩
theorem rank_not (x n : BitVec 64) (hn : (n == 0#64) = false) (ht : takesM x n = false) (w : World) :
    Calls Try.prog 19 #[.int .u64 (ui x), .int .u64 (ui n)] w fun e w' => e = .returned (.tuple #[.int .u64 0, .int .u64 0, .int .i64 2]) ∧ w = w' := by
  go_enter Try.func19, Try.ntmps19
  go_wp2_with fail
  refine (takes_any _ _ _).mono ?_
  rintro e w' ⟨rfl, rfl⟩
  go_wp2_with fail
  go_ret3
  exact ⟨rfl, rfl⟩
theorem rank_yes (x n : BitVec 64) (hn : (n == 0#64) = false) (ht : takesM x n = true) (w : World) :
    Calls Try.prog 19 #[.int .u64 (ui x), .int .u64 (ui n)] w fun e w' => e = .returned (.tuple #[.int .u64 (ui (lowM x n)), .int .u64 (ui (x >>> kB n)), .int .i64 0]) ∧ ∃ q, w' = w.drewN q := by
  have hk : (0 : Int) ≤ (kB n : Int) := by omega
  go_enter Try.func19, Try.ntmps19
  go_wp2_with fail
  refine (takes_any _ _ _).mono ?_
  rintro e w' ⟨rfl, rfl⟩
  go_wp2_with fail
  go_quiet ((first | (go_at_call 35; with_reducible exact Calls.quiet_of_same ((low_any _ _ _).mono fun _ _ h => ⟨h.1, h.2.symm⟩)) | (go_at_call 9; with_reducible exact Calls.quiet_of_same ((bits_any _ _).mono fun _ _ h => ⟨h.1, h.2.symm⟩))))
  go_wp2_with fail
  go_ret3
  exact ⟨rfl, _, rfl⟩
/-- 2 to the m as two words -/
def shlHi (m : Nat) : BitVec 64 := if m = 64 then 1#64 else 0#64
def shlLo (m : Nat) : BitVec 64 := if m = 64 then 0#64 else 1#64 <<< m
theorem shl128_mid (ah al : BitVec 64) (m : Int) (h1 : 0 < m) (h3 : m < 64) (w : World) :
    Calls Try.prog 33 #[.agg #[.int .u64 (ui ah), .int .u64 (ui al)], .int .i64 m] w fun e w' => e = .returned (.agg #[.int .u64 (ui (ah <<< m.toNat ||| al >>> (64 - m).toNat)), .int .u64 (ui (al <<< m.toNat))]) ∧ Below w.heap.size w w' := by
  have h4 : 0 ≤ 64 - m := by omega
  have h5 : 0 ≤ m := by omega
  go_enter Try.func33, Try.ntmps33
  go_wp2_with fail
  go_region
  go_wp2_with fail
  exact bodyPost_ret (v := (.agg #[.int .u64 (ui (ah <<< m.toNat ||| al >>> (64 - m).toNat)), .int .u64 (ui (al <<< m.toNat))])) (by simp [results, Try.results33, go_sem]) rfl ⟨rfl, (((Below.refl _ _).alloc (Nat.le_refl _) _).alloc (by simp) _).drew⟩
theorem shl128_any (m : Int) (h0 : 0 ≤ m) (hm : m ≤ 64) (w : World) :
    Calls Try.prog 33 #[.agg #[.int .u64 0, .int .u64 1], .int .i64 m] w fun e w' => e = .returned (.agg #[.int .u64 (ui (shlHi m.toNat)), .int .u64 (ui (shlLo m.toNat))]) ∧ Below w.heap.size w w' := by
  by_cases h1 : m = 0
  · subst h1
    go_enter Try.func33, Try.ntmps33
    go_wp2_with fail
    exact bodyPost_ret (v := (.agg #[.int .u64 0, .int .u64 1])) (by simp [results, Try.results33, go_sem]) rfl ⟨rfl, ((Below.refl _ _).alloc (Nat.le_refl _) _).alloc (by simp) _⟩
  · by_cases h2 : m = 64
    · subst h2
      go_enter Try.func33, Try.ntmps33
      go_wp2_with fail
      exact bodyPost_ret (v := (.agg #[.int .u64 (ui 1#64), .int .u64 0])) (by simp [results, Try.results33, go_sem]) rfl ⟨rfl, ((Below.refl _ _).alloc (Nat.le_refl _) _).alloc (by simp) _⟩
    · have h := shl128_mid 0#64 1#64 m (by omega) (by omega) w
      have e1 : (0#64 <<< m.toNat ||| 1#64 >>> (64 - m).toNat) = shlHi m.toNat := by
        unfold shlHi; rw [if_neg (by omega)]
        rw [BitVec.zero_shiftLeft, BitVec.zero_or]
        apply BitVec.eq_of_toNat_eq
        rw [BitVec.toNat_ushiftRight, Nat.shiftRight_eq_div_pow]
        show 1 / _ = 0
        exact Nat.div_eq_of_lt (Nat.one_lt_two_pow (by omega))
      have e2 : 1#64 <<< m.toNat = shlLo m.toNat := by unfold shlLo; rw [if_neg (by omega)]
      rw [e1, e2] at h
      exact h
def eachHi (n : BitVec 64) : BitVec 64 := if n = 0 then 0#64 else shlHi (64 - kB n)
def eachLo (n : BitVec 64) : BitVec 64 := if n = 0 then 0#64 else shlLo (64 - kB n)
theorem each_any (n : BitVec 64) (w : World) :
    Calls Try.prog 15 #[.int .u64 (ui n)] w fun e w' => e = .returned (.agg #[.int .u64 (ui (eachHi n)), .int .u64 (ui (eachLo n))]) ∧ Below w.heap.size w w' := by
  have hk := kB_le n
  by_cases h : n = 0
  · subst h
    have hz : (ui 0#64 == 0) = true := rfl
    go_enter Try.func15, Try.ntmps15
    go_wp2_with fail
    exact bodyPost_ret (v := (.agg #[.int .u64 0, .int .u64 0])) (by simp [results, Try.results15, go_sem]) rfl ⟨rfl, (Below.refl _ _).alloc (Nat.le_refl _) _⟩
  · have hz : (n == 0#64) = false := by simpa using h
    have e1 : shlHi (64 - (kB n : Int)).toNat = eachHi n := by unfold eachHi; rw [if_neg h, show (64 - (kB n : Int)).toNat = 64 - kB n by omega]
    have e2 : shlLo (64 - (kB n : Int)).toNat = eachLo n := by unfold eachLo; rw [if_neg h, show (64 - (kB n : Int)).toNat = 64 - kB n by omega]
    have E := Lib.hid (And.intro e1 e2)
    clear e1 e2 h
    go_enter Try.func15, Try.ntmps15
    go_wp2_with fail
    refine (bits_any _ _).mono ?_
    rintro e w' ⟨rfl, rfl⟩
    go_wp2_with fail
    refine (shl128_any _ (by omega) (by omega) _).mono ?_
    rw [E.out.1, E.out.2]
    rintro e w1 ⟨rfl, b1⟩
    have hT := (Two.new w (.int .u64 0) (.int .u64 0) 40).below b1 (by simp)
    have hS := hT.set (.int .u64 (ui (eachHi n))) (.int .u64 (ui (eachLo n)))
    have hB := ((Below.refl _ _).alloc (Nat.le_refl _) _).trans (b1.mono (by simp))
    obtain ⟨d0, d1, g0, g1, hlt⟩ := hT
    have hlt' : w.heap.size < w1.heap.size := hlt
    clear hlt b1
    go_wp2_with fail
    obtain ⟨e0, e1, _, _, _⟩ := hS
    exact bodyPost_ret (v := (.agg #[.int .u64 (ui (eachHi n)), .int .u64 (ui (eachLo n))])) (by simp [results, Try.results15, go_sem, e0, e1]) rfl ⟨rfl, below_set2 hB (Nat.le_refl _) (Nat.le_refl _) _ _⟩
theorem to2_any (va : Value) (v : Nat) (hv : v < 2 ^ 128) (w : World) (hx : SlV w va (bvs v 128)) :
    Calls Try.prog 38 #[va] w fun e w' => e = .returned (.agg #[.int .u64 (ui (BitVec.ofNat 64 (v / 2 ^ 64))), .int .u64 (ui (BitVec.ofNat 64 v))]) ∧ Below w.heap.size w w' := by
  have hx2 : SlV (w.alloc (.cells #[.int .u64 0, .int .u64 0] 40)) va (bvs v 128) := hx.below ((Below.refl _ _).alloc (Nat.le_refl _) _)
  have h1 := word_any va v 128 hv (by omega) 64 (by omega) (by omega) _ hx2
  have h2 := word_any va v 128 hv (by omega) 0 (by omega) (by omega) _ hx2
  rw [show Int.toNat 64 = 64 from rfl] at h1
  rw [show Int.toNat 0 = 0 from rfl, Nat.pow_zero, Nat.div_one] at h2
  generalize BitVec.ofNat 64 (v / 2 ^ 64) = hi at *
  generalize BitVec.ofNat 64 v = lo at *
  have H1 := Lib.hid h1
  have H2 := Lib.hid h2
  clear h1 h2 hx hx2 hv
  go_enter Try.func38, Try.ntmps38
  go_wp2_with fail
  refine H1.out.mono ?_
  rintro e w' ⟨rfl, rfl⟩
  go_wp2_with fail
  refine H2.out.mono ?_
  rintro e w' ⟨rfl, rfl⟩
  go_wp2_with fail
  exact bodyPost_ret (v := (.agg #[.int .u64 (ui hi), .int .u64 (ui lo)])) (by simp [results, Try.results38, go_sem]) rfl ⟨rfl, (Below.refl _ _).alloc (Nat.le_refl _) _⟩
/-- which of two is less -/
def cmpW (ah al bh bl_ : BitVec 64) : Int := if ah = bh ∧ al = bl_ then 0 else if ui ah < ui bh ∨ (ah = bh ∧ ui al < ui bl_) then -1 else 1
theorem cmp_any (ah al bh bl_ : BitVec 64) (w : World) :
    Calls Try.prog 21 #[.agg #[.int .u64 (ui ah), .int .u64 (ui al)], .agg #[.int .u64 (ui bh), .int .u64 (ui bl_)]] w fun e w' => e = .returned (.int .i64 (cmpW ah al bh bl_)) ∧ Below w.heap.size w w' := by
  go_enter Try.func21, Try.ntmps21
  go_wp2_with fail
  all_goals go_ret
  all_goals exact ⟨ret_i64 (by unfold cmpW; grind), ((Below.refl _ _).alloc (Nat.le_refl _) _).alloc (by simp) _⟩
end Go.Proofs.Ytekbhfagigpakaa
