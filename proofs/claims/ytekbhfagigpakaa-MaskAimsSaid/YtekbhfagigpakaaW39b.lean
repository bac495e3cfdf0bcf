/- The walks of chapter 39's functions (masks): how many words for each number, words, the reference's. No condition but on lengths. -/
import Derived.Test.YtekbhfagigpakaaW39
namespace Go.Proofs.Ytekbhfagigpakaa
open Go.RowKit
theorem shl_words (m : Nat) (hm : m ≤ 64) : BitVec.ofNat 64 (1 * 2 ^ m / 2 ^ 64) = shlHi m ∧ BitVec.ofNat 64 (1 * 2 ^ m) = shlLo m := by
  rw [Nat.one_mul]
  unfold shlHi shlLo
  by_cases h : m = 64
  · subst h; rw [if_pos rfl, if_pos rfl]; exact ⟨rfl, rfl⟩
  · rw [if_neg h, if_neg h]
    have : 2 ^ m < 2 ^ 64 := Nat.pow_lt_pow_right (by decide) (by omega)
    refine ⟨by rw [Nat.div_eq_of_lt this], ?_⟩
    apply BitVec.eq_of_toNat_eq
    rw [BitVec.toNat_ofNat, BitVec.toNat_shiftLeft, Nat.shiftLeft_eq]
    show _ = 1 * 2 ^ m % _
    rw [Nat.one_mul]
theorem Two.belowS {w w' : World} {B : Nat} {a b : Value} (h : Two w B a b) (hb : Below w.heap.size w w') : Two w' B a b := h.below hb h.lt
theorem refpower_any (m : Int) (h0 : 0 ≤ m) (hm : m ≤ 64) (w : World) :
    Calls Try.prog 34 #[.int .i64 m] w fun e w' => e = .returned (.agg #[.int .u64 (ui (shlHi m.toNat)), .int .u64 (ui (shlLo m.toNat))]) ∧ Below w.heap.size w w' := by
  have hT := (Two.new w (.int .u64 0) (.int .u64 0) 40).alloc (.cells #[.int .i64 1] 3)
  have hB : Below w.heap.size w ((w.alloc (.cells #[.int .u64 0, .int .u64 0] 40)).alloc (.cells #[.int .i64 1] 3)) := ((Below.refl _ _).alloc (Nat.le_refl _) _).alloc (by simp) _
  have hx1 : SlV ((w.alloc (.cells #[.int .u64 0, .int .u64 0] 40)).alloc (.cells #[.int .i64 1] 3)) (.slice (some ⟨w.heap.size + 1, 0, none⟩) 1 1) (bvs 1 1) := by
    refine .inr ⟨_, _, _, rfl, ?_⟩
    intro i u hu
    rcases i with _ | i
    · simp [bvs, bi] at hu
      subst hu
      simp
    · simp [bvs] at hu
  have hlt : 1 * 2 ^ m.toNat < 2 ^ 128 := by rw [Nat.one_mul]; exact Nat.pow_lt_pow_right (by decide) (by omega)
  have hsw := shl_words m.toNat (by omega)
  go_enter Try.func34, Try.ntmps34
  go_wp2_with fail
  refine (shl_any _ 1 1 (by decide) (by omega) m 128 h0 (by omega) (by omega) _ hx1).mono ?_
  rintro e w1 ⟨v, rfl, hown, b1⟩
  rw [bvs_length, show Int.toNat 128 = 128 from rfl] at hown
  have hT1 := hT.belowS b1
  have hB1 := hB.trans (b1.mono hB.size)
  have HO := Lib.hid hown
  clear hT hB hx1 hown
  go_wp2_with fail
  refine (to2_any v _ hlt _ (SlV.of_owns HO.out)).mono ?_
  rw [hsw.1, hsw.2]
  rintro e w2 ⟨rfl, b2⟩
  have hT2 := hT1.belowS b2
  have hB2 := hB1.trans (b2.mono hB1.size)
  have hS := hT2.set (.int .u64 (ui (shlHi m.toNat))) (.int .u64 (ui (shlLo m.toNat)))
  obtain ⟨d0, d1, g0, g1, hlt2⟩ := hT2
  clear hT1 hB1 b1 b2 hsw hlt
  go_wp2_with fail
  obtain ⟨e0, e1, _, _, _⟩ := hS
  exact bodyPost_ret (v := (.agg #[.int .u64 (ui (shlHi m.toNat)), .int .u64 (ui (shlLo m.toNat))])) (by simp [results, Try.results34, go_sem, e0, e1]) rfl ⟨rfl, below_set2 hB2 (Nat.le_refl _) (Nat.le_refl _) _ _⟩
theorem refeach_any (n : BitVec 64) (w : World) :
    Calls Try.prog 16 #[.int .u64 (ui n)] w fun e w' => e = .returned (.agg #[.int .u64 (ui (eachHi n)), .int .u64 (ui (eachLo n))]) ∧ Below w.heap.size w w' := by
  have hk := kB_le n
  by_cases h : n = 0
  · subst h
    have hz : (ui 0#64 == 0) = true := rfl
    go_enter Try.func16, Try.ntmps16
    go_wp2_with fail
    exact bodyPost_ret (v := (.agg #[.int .u64 0, .int .u64 0])) (by simp [results, Try.results16, go_sem]) rfl ⟨rfl, (Below.refl _ _).alloc (Nat.le_refl _) _⟩
  · have hz : (n == 0#64) = false := by simpa using h
    have e1 : shlHi (64 - (kB n : Int)).toNat = eachHi n := by unfold eachHi; rw [if_neg h, show (64 - (kB n : Int)).toNat = 64 - kB n by omega]
    have e2 : shlLo (64 - (kB n : Int)).toNat = eachLo n := by unfold eachLo; rw [if_neg h, show (64 - (kB n : Int)).toNat = 64 - kB n by omega]
    have E := Lib.hid (And.intro e1 e2)
    have hT := Two.new w (.int .u64 0) (.int .u64 0) 40
    have hB : Below w.heap.size w (w.alloc (.cells #[.int .u64 0, .int .u64 0] 40)) := (Below.refl _ _).alloc (Nat.le_refl _) _
    clear e1 e2 h
    go_enter Try.func16, Try.ntmps16
    go_wp2_with fail
    refine (refbits_any _ _).mono ?_
    rintro e w1 ⟨rfl, b1⟩
    have hT1 := hT.belowS b1
    have hB1 := hB.trans (b1.mono hB.size)
    clear hT hB b1
    go_wp2_with fail
    refine (refpower_any _ (by omega) (by omega) _).mono ?_
    rw [E.out.1, E.out.2]
    rintro e w2 ⟨rfl, b2⟩
    have hT2 := hT1.belowS b2
    have hB2 := hB1.trans (b2.mono hB1.size)
    have hS := hT2.set (.int .u64 (ui (eachHi n))) (.int .u64 (ui (eachLo n)))
    obtain ⟨d0, d1, g0, g1, hlt2⟩ := hT2
    clear hT1 hB1 b2
    go_wp2_with fail
    obtain ⟨e0, e1, _, _, _⟩ := hS
    exact bodyPost_ret (v := (.agg #[.int .u64 (ui (eachHi n)), .int .u64 (ui (eachLo n))])) (by simp [results, Try.results16, go_sem, e0, e1]) rfl ⟨rfl, below_set2 hB2 (Nat.le_refl _) (Nat.le_refl _) _ _⟩
/-- a rank against how many there are -/
def cmpE (r n : BitVec 64) : Int := cmpW 0#64 r (eachHi n) (eachLo n)
theorem cmpE_any (r n : BitVec 64) (w : World) :
    Calls Try.prog 21 #[.agg #[.int .u64 0, .int .u64 (ui r)], .agg #[.int .u64 (ui (eachHi n)), .int .u64 (ui (eachLo n))]] w fun e w' => e = .returned (.int .i64 (cmpE r n)) ∧ Below w.heap.size w w' := cmp_any 0#64 r (eachHi n) (eachLo n) w
theorem word_zero (v r : BitVec 64) (w : World) :
    Calls Try.prog 22 #[.int .u64 (ui v), .int .u64 (ui r), .int .u64 0] w fun e w' => e = .returned (.tuple #[.int .u64 0, .int .i64 8]) ∧ Below w.heap.size w w' := by
  go_enter Try.func22, Try.ntmps22
  go_wp2_with fail
  go_ret2
  exact ⟨rfl, Below.refl _ _⟩
def okM (v r n : BitVec 64) : Bool := decide (ui v < ui n) && decide (cmpE r n < 0)
theorem word_no (v r n : BitVec 64) (hn : (n == 0#64) = false) (h : okM v r n = false) (w : World) :
    Calls Try.prog 22 #[.int .u64 (ui v), .int .u64 (ui r), .int .u64 (ui n)] w fun e w' => e = .returned (.tuple #[.int .u64 0, .int .i64 2]) ∧ Below w.heap.size w w' := by
  by_cases hv : ui v < ui n
  · have hc : 0 ≤ cmpE r n := by
      unfold okM at h; rw [decide_eq_true hv, Bool.true_and, decide_eq_false_iff_not] at h; omega
    clear h
    go_enter Try.func22, Try.ntmps22
    go_wp2_with fail
    refine (each_any _ _).mono ?_
    rintro e w1 ⟨rfl, b1⟩
    go_wp2_with fail
    refine (cmpE_any _ _ _).mono ?_
    rintro e w2 ⟨rfl, b2⟩
    go_wp2_with fail
    go_ret2
    exact ⟨rfl, b1.trans (b2.mono b1.size)⟩
  · clear h
    go_enter Try.func22, Try.ntmps22
    go_wp2_with fail
    go_ret2
    exact ⟨rfl, Below.refl _ _⟩
theorem word_yes (v r n : BitVec 64) (hn : (n == 0#64) = false) (h : okM v r n = true) (w : World) :
    Calls Try.prog 22 #[.int .u64 (ui v), .int .u64 (ui r), .int .u64 (ui n)] w fun e w' => e = .returned (.tuple #[.int .u64 (ui (r <<< kB n ||| v)), .int .i64 0]) ∧ Below w.heap.size w w' := by
  unfold okM at h
  rw [Bool.and_eq_true, decide_eq_true_eq, decide_eq_true_eq] at h
  obtain ⟨hv, hc⟩ := h
  have hk : (0 : Int) ≤ (kB n : Int) := by omega
  go_enter Try.func22, Try.ntmps22
  go_wp2_with fail
  refine (each_any _ _).mono ?_
  rintro e w1 ⟨rfl, b1⟩
  go_wp2_with fail
  refine (cmpE_any _ _ _).mono ?_
  rintro e w2 ⟨rfl, b2⟩
  go_wp2_with fail
  refine (bits_any _ _).mono ?_
  rintro e w' ⟨rfl, rfl⟩
  go_wp2_with fail
  go_ret2
  exact ⟨rfl, b1.trans (b2.mono b1.size)⟩
end Go.Proofs.Ytekbhfagigpakaa
