/- The walks of chapter 38's functions (Lemire's method), the program's and the reference's. No condition but on lengths. -/
import Derived.Test.YtodflmngbkiemaaTwo
namespace Go.Proofs.Ytodflmngbkiemaa
open Go.RowKit
@[go_sem] theorem ofInt_neg_ui (x : BitVec 64) : BitVec.ofInt 64 (-ui x) = -x := by
  rw [BitVec.ofInt_neg, ofInt_ui]
theorem ui_pos_iff (x : BitVec 64) : (0 : Int) < ui x ↔ ¬ x = 0#64 := by
  rw [ui_def]
  constructor
  · rintro h rfl; exact absurd h (by decide)
  · intro h
    have : x.toNat ≠ 0 := fun e => h (BitVec.eq_of_toNat_eq e)
    omega
theorem loss_zero (w : World) :
    Calls Try.prog 29 #[.int .u64 0] w fun e w' => e = .returned (.int .u64 0) ∧ w = w' := by
  go_enter Try.func29, Try.ntmps29
  go_wp2_with fail
  go_ret
  exact ⟨rfl, rfl⟩
theorem loss_any (n : BitVec 64) (w : World) :
    Calls Try.prog 29 #[.int .u64 (ui n)] w fun e w' => e = .returned (.int .u64 (ui (lossW n))) ∧ w = w' := by
  by_cases h : n = 0#64
  · subst h; exact loss_zero w
  · have hz : (n == 0#64) = false := by simpa using h
    have hy : ¬ ui n = 0 := ui_ne0 (pos_of_ne hz)
    clear h
    go_enter Try.func29, Try.ntmps29
    go_wp2_with fail
    go_ret
    exact ⟨rfl, rfl⟩
theorem each_any (n : BitVec 64) (hn : (n == 0#64) = false) (w : World) :
    Calls Try.prog 35 #[.int .u64 (ui n)] w fun e w' => e = .returned (.agg #[.int .u64 (ui (eachHiL n)), .int .u64 (ui (eachLoL n))]) ∧ Below w.heap.size w w' := by
  have h := wdiv_any 1#64 0#64 n hn
  obtain ⟨e1, e2⟩ := each_words n (pos_of_ne hn)
  rw [e1, e2] at h
  have H := Lib.hid h
  clear h e1 e2
  go_enter Try.func35, Try.ntmps35
  go_wp2_with fail
  refine (H.out _).mono ?_
  rintro e w1 ⟨rfl, b1⟩
  have hT := ((Two.new w (.int .u64 0) (.int .u64 0) 65).below b1 (by simp)).alloc (.cells #[.int .u64 (ui (eachHiL n)), .int .u64 (ui (eachLoL n))] 65)
  have hS := hT.set (.int .u64 (ui (eachHiL n))) (.int .u64 (ui (eachLoL n)))
  have hB := (((Below.refl _ _).alloc (Nat.le_refl _) _).trans (b1.mono (by simp))).alloc (by have := b1.size; simp at this; omega) (.cells #[.int .u64 (ui (eachHiL n)), .int .u64 (ui (eachLoL n))] 65)
  obtain ⟨d0, d1, g0, g1, hlt⟩ := hT
  have HS := Lib.hid hS
  clear b1 hS
  go_wp2_with fail
  obtain ⟨e0, e1, _, _, _⟩ := HS.out
  exact bodyPost_ret (v := (.agg #[.int .u64 (ui (eachHiL n)), .int .u64 (ui (eachLoL n))])) (by simp [results, Try.results35, go_sem, e0, e1]) rfl ⟨rfl, below_set2 hB (Nat.le_refl _) (Nat.le_refl _) _ _⟩
theorem takes_any (x n : BitVec 64) (w : World) :
    Calls Try.prog 37 #[.int .u64 (ui x), .int .u64 (ui n)] w fun e w' => e = .returned (.bool (takesL x n)) ∧ w = w' := by
  by_cases h : 0 < ui n
  · have ht : takesL x n = decide (ui (lossW n) ≤ ui (x * n)) := by unfold takesL; rw [decide_eq_true h, Bool.true_and]
    have HT := Lib.hid ht
    clear ht
    go_enter Try.func37, Try.ntmps37
    go_wp2_with fail
    refine (loss_any _ _).mono ?_
    rintro e w' ⟨rfl, rfl⟩
    go_wp2_with fail
    go_ret
    exact ⟨ret_b HT.out.symm, rfl⟩
  · have ht : takesL x n = false := by unfold takesL; rw [decide_eq_false h, Bool.false_and]
    have HT := Lib.hid ht
    clear ht
    go_enter Try.func37, Try.ntmps37
    go_wp2_with fail
    go_ret
    exact ⟨ret_b HT.out.symm, rfl⟩
theorem first_any (v n : BitVec 64) (hn : (n == 0#64) = false) (w : World) :
    Calls Try.prog 67 #[.int .u64 (ui v), .int .u64 (ui n)] w fun e w' => e = .returned (.int .u64 (ui (firstW v n))) ∧ Below w.heap.size w w' := by
  have h := wdiv_any v (lossW n) n hn
  have hf := first_words v n (pos_of_ne hn)
  have hp : (0 : Int) < ui (divR (divR 0#64 v n) (lossW n) n) ↔ ¬ divR (divR 0#64 v n) (lossW n) n = 0#64 := ui_pos_iff _
  generalize divR (divR 0#64 v n) (lossW n) n = r at *
  generalize divQ (divR 0#64 v n) (lossW n) n = q at *
  generalize divQ 0#64 v n = q2 at *
  have H := Lib.hid h
  have HF := Lib.hid hf
  have HP := Lib.hid hp
  clear h hf hp
  by_cases c : (0 : Int) < ui r
  · have E := Lib.hid (HF.out.2 (HP.out.1 c))
    go_enter Try.func67, Try.ntmps67
    go_wp2_with fail
    refine (loss_any _ _).mono ?_
    rintro e w' ⟨rfl, rfl⟩
    go_wp2_with fail
    refine (H.out _).mono ?_
    rintro e w1 ⟨rfl, b1⟩
    go_wp2_with fail
    rw [← E.out]
    go_ret
    exact ⟨rfl, b1.alloc b1.size _⟩
  · have E := Lib.hid (HF.out.1 (by rwa [HP.out, Classical.not_not] at c))
    go_enter Try.func67, Try.ntmps67
    go_wp2_with fail
    refine (loss_any _ _).mono ?_
    rintro e w' ⟨rfl, rfl⟩
    go_wp2_with fail
    refine (H.out _).mono ?_
    rintro e w1 ⟨rfl, b1⟩
    go_wp2_with fail
    rw [← E.out]
    go_ret
    exact ⟨rfl, b1.alloc b1.size _⟩
end Go.Proofs.Ytodflmngbkiemaa
