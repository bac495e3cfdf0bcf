/- The walks of chapter 38's aims: a tape aimed at a number. No condition but on lengths. -/
import Derived.Test.YtodflmngbkiemaaL38d
namespace Go.Proofs.Ytodflmngbkiemaa
open Go.RowKit
theorem aim_zero (va : Value) (xs : List (BitVec 64)) (v : BitVec 64) (hl : xs.length ≤ 1000) (w : World) (hx : SlV w va (vals xs)) :
    Calls Try.prog 43 #[va, .int .u64 0, .int .u64 (ui v)] w fun e w' => e = .returned (.tuple #[.slice none 0 0, .int .i64 8]) ∧ Below w.heap.size w w' := by
  go_enter Try.func43, Try.ntmps43
  go_wp2_with fail
  refine (new_any va xs hl _ hx).mono ?_
  rintro e w1 ⟨B, wv, rfl, hT, hBw, hb⟩
  go_wp2_with fail
  refine (take_zero B xs 0 wv _ w1 hT).mono ?_
  rintro e w2 ⟨rfl, hT2, b2⟩
  have hb2 := hb.trans (b2.mono hb.size)
  go_wp2_with fail
  go_ret2
  exact ⟨rfl, hb2.alloc hb2.size _⟩
theorem aim_none (va : Value) (xs : List (BitVec 64)) (n v : BitVec 64) (hn : (n == 0#64) = false) (hl : xs.length ≤ 1000) (hno : ∀ i, (hi : i < xs.length) → takesL xs[i] n = false) (w : World) (hx : SlV w va (vals xs)) :
    Calls Try.prog 43 #[va, .int .u64 (ui n), .int .u64 (ui v)] w fun e w' => e = .returned (.tuple #[.slice none 0 0, .int .i64 7]) ∧ Below w.heap.size w w' := by
  have HNO := Lib.hid hno
  clear hno
  go_enter Try.func43, Try.ntmps43
  go_wp2_with fail
  refine (new_any va xs hl _ hx).mono ?_
  rintro e w1 ⟨B, wv, rfl, hT, hBw, hb⟩
  go_wp2_with fail
  refine (take_none B xs 0 wv _ n hn w1 hT (fun i _ hi => HNO.out i hi)).mono ?_
  rintro e w2 ⟨tv', rfl, hT2, b2⟩
  have hb2 := hb.trans (b2.mono hBw)
  go_wp2_with fail
  go_ret2
  exact ⟨rfl, hb2.alloc hb2.size _⟩
theorem aim_bad (va : Value) (xs : List (BitVec 64)) (j : Nat) (n v : BitVec 64) (hn : (n == 0#64) = false) (hl : xs.length ≤ 1000) (hj : j < xs.length) (ht : takesL xs[j] n = true) (hno : ∀ i, (hi : i < j) → takesL (xs[i]'(by omega)) n = false)
    (hok : okM v (rankL xs[j] n) n = false) (w : World) (hx : SlV w va (vals xs)) :
    Calls Try.prog 43 #[va, .int .u64 (ui n), .int .u64 (ui v)] w fun e w' => e = .returned (.tuple #[.slice none 0 0, .int .i64 2]) ∧ Below w.heap.size w w' := by
  have HNO := Lib.hid hno
  have HX := Lib.hid hx
  obtain ⟨r, hr⟩ : ∃ r, rankL xs[j] n = r := ⟨_, rfl⟩
  obtain ⟨lo, hlo⟩ : ∃ lo, mulHi xs[j] n = lo := ⟨_, rfl⟩
  rw [hr] at hok
  try rw [hr]
  have HX2 := Lib.hid (And.intro hr hlo)
  have hj0 : (((j : Int) + 1) == 0) = false := by rw [beq_eq_false_iff_ne]; omega
  clear hno hx hr hlo
  go_enter Try.func43, Try.ntmps43
  go_wp2_with fail
  refine (new_any va xs hl _ HX.out).mono ?_
  rintro e w1 ⟨B, wv, rfl, hT, hBw, hb⟩
  go_wp2_with fail
  refine (take_found' B xs 0 j wv _ n hn w1 hT (by omega) hj ht (fun i _ hi => HNO.out i hi) lo r ((j : Int) + 1) HX2.out.2 HX2.out.1 (by omega)).mono ?_
  rintro e w2 ⟨tv', rfl, hT2, b2⟩
  have hb2 := hb.trans (b2.mono hBw)
  clear b2 hb hT hT2
  go_wp2_with fail
  refine (word_no v r n hn hok _).mono ?_
  rintro e w3 ⟨rfl, b3⟩
  have hb3 := (hb2.alloc hb2.size _).trans (b3.mono (Nat.le_trans hb2.size (by simp)))
  go_wp2_with fail
  go_ret2
  exact ⟨rfl, hb3⟩
theorem aim_yes (va : Value) (xs : List (BitVec 64)) (j : Nat) (n v : BitVec 64) (hn : (n == 0#64) = false) (hl : xs.length ≤ 1000) (hj : j < xs.length) (ht : takesL xs[j] n = true) (hno : ∀ i, (hi : i < j) → takesL (xs[i]'(by omega)) n = false)
    (hok : okM v (rankL xs[j] n) n = true) (w : World) (hx : SlV w va (vals xs)) :
    Calls Try.prog 43 #[va, .int .u64 (ui n), .int .u64 (ui v)] w fun e w' => ∃ v', e = .returned (.tuple #[v', .int .i64 0]) ∧ SlV w' v' (vals (xs.set j (firstW v n + rankL xs[j] n))) ∧ Below w.heap.size w w' := by
  have HNO := Lib.hid hno
  have HX := Lib.hid hx
  obtain ⟨r, hr⟩ : ∃ r, rankL xs[j] n = r := ⟨_, rfl⟩
  obtain ⟨lo, hlo⟩ : ∃ lo, mulHi xs[j] n = lo := ⟨_, rfl⟩
  rw [hr] at hok
  try rw [hr]
  have HX2 := Lib.hid (And.intro hr hlo)
  have hj0 : (((j : Int) + 1) == 0) = false := by rw [beq_eq_false_iff_ne]; omega
  clear hno hx hr hlo
  go_enter Try.func43, Try.ntmps43
  go_wp2_with fail
  refine (new_any va xs hl _ HX.out).mono ?_
  rintro e w1 ⟨B, wv, rfl, hT, hBw, hb⟩
  go_wp2_with fail
  refine (take_found' B xs 0 j wv _ n hn w1 hT (by omega) hj ht (fun i _ hi => HNO.out i hi) lo r ((j : Int) + 1) HX2.out.2 HX2.out.1 (by omega)).mono ?_
  rintro e w2 ⟨tv', rfl, hT2, b2⟩
  have hb2 := hb.trans (b2.mono hBw)
  clear b2 hb hT hT2
  go_wp2_with fail
  refine (word_yes v r n hn hok _).mono ?_
  rintro e w3 ⟨rfl, b3⟩
  have hD := (Blk.new w2 57 #[.int .u64 (ui lo), .int .u64 (ui r), .int .i64 ((j : Int) + 1)]).below b3 (by simp)
  have c2 := hD.cell 2
  rw [show (#[Value.int .u64 (ui lo), .int .u64 (ui r), .int .i64 ((j : Int) + 1)] : Array Value)[2]? = some (.int .i64 ((j : Int) + 1)) from rfl] at c2
  have hb3 := (hb2.alloc hb2.size _).trans (b3.mono (Nat.le_trans hb2.size (by simp)))
  have hx3 : SlV w3 va (vals xs) := HX.out.below hb3
  have HX3 := Lib.hid hx3
  clear hD b3 hb2 hx3
  go_wp2_with fail
  refine (put_yes va xs _ _ hl w3 HX3.out (by omega) (by omega)).mono ?_
  rintro e w4 ⟨v', rfl, h1, b4⟩
  have hb4 := hb3.trans (b4.mono hb3.size)
  have H1 := Lib.hid h1
  clear h1 b4
  go_wp2_with fail
  go_ret2
  refine ⟨v', rfl, ?_, hb4⟩
  have h := H1.out
  rw [Int.toNat_natCast] at h
  exact h
end Go.Proofs.Ytodflmngbkiemaa
