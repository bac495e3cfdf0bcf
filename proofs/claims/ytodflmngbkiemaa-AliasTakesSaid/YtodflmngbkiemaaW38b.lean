/- The walks of chapter 38's functions, second part: ranks and words. No condition but its own. -/
import Derived.Test.YtodflmngbkiemaaW38
namespace Go.Proofs.Ytodflmngbkiemaa
open Go.RowKit
theorem Two.belowS {w w' : World} {B : Nat} {a b : Value} (h : Two w B a b) (hb : Below w.heap.size w w') : Two w' B a b := h.below hb h.lt
theorem each_zero : eachHiL 0#64 = 0#64 ∧ eachLoL 0#64 = 0#64 := by
  unfold eachHiL eachLoL eachNL
  rw [show (0#64 : BitVec 64).toNat = 0 from rfl, Nat.div_zero]
  exact ⟨rfl, rfl⟩
theorem divz_any (w : World) :
    Calls Try.prog 61 #[.agg #[.int .u64 1, .int .u64 0], .int .u64 0] w fun e w' => e = .returned (.tuple #[.agg #[.int .u64 0, .int .u64 0], .int .u64 0]) ∧ Below w.heap.size w w' := by
  go_enter Try.func61, Try.ntmps61
  go_wp2_with fail
  exact bodyPost_ret (v := .tuple #[.agg #[.int .u64 0, .int .u64 0], .int .u64 0]) (by simp [results, Try.results61, go_sem]) rfl ⟨rfl, ((Below.refl _ _).alloc (Nat.le_refl _) _).alloc (by simp) _⟩
theorem eachz_any (w : World) :
    Calls Try.prog 35 #[.int .u64 0] w fun e w' => e = .returned (.agg #[.int .u64 0, .int .u64 0]) ∧ Below w.heap.size w w' := by
  go_enter Try.func35, Try.ntmps35
  go_wp2_with fail
  refine (divz_any _).mono ?_
  rintro e w1 ⟨rfl, b1⟩
  have hT := ((Two.new w (.int .u64 0) (.int .u64 0) 65).below b1 (by simp)).alloc (.cells #[.int .u64 0, .int .u64 0] 65)
  have hS := hT.set (.int .u64 0) (.int .u64 0)
  have hB := (((Below.refl _ _).alloc (Nat.le_refl _) _).trans (b1.mono (by simp))).alloc (by have := b1.size; simp at this; omega) (.cells #[.int .u64 0, .int .u64 0] 65)
  obtain ⟨d0, d1, g0, g1, hlt⟩ := hT
  have HS := Lib.hid hS
  clear b1 hS
  go_wp2_with fail
  obtain ⟨e0, e1, _, _, _⟩ := HS.out
  exact bodyPost_ret (v := (.agg #[.int .u64 0, .int .u64 0])) (by simp [results, Try.results35, go_sem, e0, e1]) rfl ⟨rfl, below_set2 hB (Nat.le_refl _) (Nat.le_refl _) _ _⟩
theorem eacha_any (n : BitVec 64) (w : World) :
    Calls Try.prog 35 #[.int .u64 (ui n)] w fun e w' => e = .returned (.agg #[.int .u64 (ui (eachHiL n)), .int .u64 (ui (eachLoL n))]) ∧ Below w.heap.size w w' := by
  by_cases h : n = 0#64
  · subst h; rw [each_zero.1, each_zero.2]; exact eachz_any w
  · exact each_any n (by simpa using h) w
/-- a rank against how many there are -/
def cmpE (r n : BitVec 64) : Int := cmpW 0#64 r (eachHiL n) (eachLoL n)
theorem cmpE_any (r n : BitVec 64) (w : World) :
    Calls Try.prog 41 #[.agg #[.int .u64 0, .int .u64 (ui r)], .agg #[.int .u64 (ui (eachHiL n)), .int .u64 (ui (eachLoL n))]] w fun e w' => e = .returned (.int .i64 (cmpE r n)) ∧ Below w.heap.size w w' := cmp_any 0#64 r (eachHiL n) (eachLoL n) w
@[go_sem] theorem field_hi (a b : BitVec 64) (w : World) : (Instr.field 65 (.agg #[.int .u64 (ui a), .int .u64 (ui b)]) 0).run Try.prog w = .ok (.int .u64 (ui a)) w := by kernel_rfl
@[go_sem] theorem field_lo (a b : BitVec 64) (w : World) : (Instr.field 65 (.agg #[.int .u64 (ui a), .int .u64 (ui b)]) 1).run Try.prog w = .ok (.int .u64 (ui b)) w := by kernel_rfl
theorem rank_zero (x : BitVec 64) (w : World) :
    Calls Try.prog 39 #[.int .u64 (ui x), .int .u64 0] w fun e w' => e = .returned (.tuple #[.int .u64 0, .int .u64 0, .int .i64 8]) ∧ w = w' := by
  go_enter Try.func39, Try.ntmps39
  go_wp2_with fail
  go_ret3
  exact ⟨rfl, rfl⟩
theorem rank_not (x n : BitVec 64) (hn : (n == 0#64) = false) (ht : takesL x n = false) (w : World) :
    Calls Try.prog 39 #[.int .u64 (ui x), .int .u64 (ui n)] w fun e w' => e = .returned (.tuple #[.int .u64 0, .int .u64 0, .int .i64 2]) ∧ w = w' := by
  go_enter Try.func39, Try.ntmps39
  go_wp2_with fail
  refine (takes_any _ _ _).mono ?_
  rintro e w' ⟨rfl, rfl⟩
  go_wp2_with fail
  go_ret3
  exact ⟨rfl, rfl⟩
theorem rank_yes (x n : BitVec 64) (hn : (n == 0#64) = false) (ht : takesL x n = true) (w : World) :
    Calls Try.prog 39 #[.int .u64 (ui x), .int .u64 (ui n)] w fun e w' => e = .returned (.tuple #[.int .u64 (ui (mulHi x n)), .int .u64 (ui (rankL x n)), .int .i64 0]) ∧ Below w.heap.size w w' := by
  have hr : x - firstW (mulHi x n) n = rankL x n := rfl
  have HR := Lib.hid hr
  clear hr
  go_enter Try.func39, Try.ntmps39
  go_wp2_with fail
  refine (takes_any _ _ _).mono ?_
  rintro e w' ⟨rfl, rfl⟩
  go_wp2_with fail
  refine (wmul_any _ _ _).mono ?_
  rintro e w1 ⟨rfl, b1⟩
  go_wp2_with fail
  refine (first_any _ _ hn _).mono ?_
  rintro e w2 ⟨rfl, b2⟩
  go_wp2_with fail
  rw [← HR.out]
  go_ret3
  exact ⟨rfl, b1.trans (b2.mono b1.size)⟩
theorem word_zero (v r : BitVec 64) (w : World) :
    Calls Try.prog 42 #[.int .u64 (ui v), .int .u64 (ui r), .int .u64 0] w fun e w' => e = .returned (.tuple #[.int .u64 0, .int .i64 8]) ∧ Below w.heap.size w w' := by
  go_enter Try.func42, Try.ntmps42
  go_wp2_with fail
  go_ret2
  exact ⟨rfl, Below.refl _ _⟩
def okM (v r n : BitVec 64) : Bool := decide (ui v < ui n) && decide (cmpE r n < 0)
theorem word_no (v r n : BitVec 64) (hn : (n == 0#64) = false) (h : okM v r n = false) (w : World) :
    Calls Try.prog 42 #[.int .u64 (ui v), .int .u64 (ui r), .int .u64 (ui n)] w fun e w' => e = .returned (.tuple #[.int .u64 0, .int .i64 2]) ∧ Below w.heap.size w w' := by
  by_cases hv : ui v < ui n
  · have hc : 0 ≤ cmpE r n := by
      unfold okM at h; rw [decide_eq_true hv, Bool.true_and, decide_eq_false_iff_not] at h; omega
    clear h
    go_enter Try.func42, Try.ntmps42
    go_wp2_with fail
    refine (eacha_any _ _).mono ?_
    rintro e w1 ⟨rfl, b1⟩
    go_wp2_with fail
    refine (cmpE_any _ _ _).mono ?_
    rintro e w2 ⟨rfl, b2⟩
    go_wp2_with fail
    go_ret2
    exact ⟨rfl, b1.trans (b2.mono b1.size)⟩
  · clear h
    go_enter Try.func42, Try.ntmps42
    go_wp2_with fail
    go_ret2
    exact ⟨rfl, Below.refl _ _⟩
theorem word_yes (v r n : BitVec 64) (hn : (n == 0#64) = false) (h : okM v r n = true) (w : World) :
    Calls Try.prog 42 #[.int .u64 (ui v), .int .u64 (ui r), .int .u64 (ui n)] w fun e w' => e = .returned (.tuple #[.int .u64 (ui (firstW v n + r)), .int .i64 0]) ∧ Below w.heap.size w w' := by
  unfold okM at h
  rw [Bool.and_eq_true, decide_eq_true_eq, decide_eq_true_eq] at h
  obtain ⟨hv, hc⟩ := h
  go_enter Try.func42, Try.ntmps42
  go_wp2_with fail
  refine (eacha_any _ _).mono ?_
  rintro e w1 ⟨rfl, b1⟩
  go_wp2_with fail
  refine (cmpE_any _ _ _).mono ?_
  rintro e w2 ⟨rfl, b2⟩
  go_wp2_with fail
  refine (first_any _ _ hn _).mono ?_
  rintro e w3 ⟨rfl, b3⟩
  go_wp2_with fail
  go_ret2
  exact ⟨rfl, (b1.trans (b2.mono b1.size)).trans (b3.mono (Nat.le_trans b1.size b2.size))⟩
end Go.Proofs.Ytodflmngbkiemaa
