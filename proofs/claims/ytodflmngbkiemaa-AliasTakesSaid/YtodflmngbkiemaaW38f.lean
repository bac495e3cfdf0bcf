/- The walks of chapter 38's draws: the reference's; a word put on a tape. No condition but on lengths. -/
import Derived.Test.YtodflmngbkiemaaL38c
namespace Go.Proofs.Ytodflmngbkiemaa
open Go.RowKit
theorem reftake_found (va : Value) (xs : List (BitVec 64)) (j : Nat) (n : BitVec 64) (hl : xs.length ≤ 1000) (w : World) (hx : SlV w va (vals xs)) (hj : j < xs.length) (ht : takesL xs[j] n = true) (hno : ∀ i, (hi : i < j) → takesL (xs[i]'(by omega)) n = false) :
    Calls Try.prog 33 #[va, .int .u64 (ui n)] w fun e w' => e = .returned (.tuple #[.agg #[.int .u64 (ui (mulHi xs[j] n)), .int .u64 (ui (rankL xs[j] n)), .int .i64 ((j + 1 : Nat) : Int)], .bool true]) ∧ Below w.heap.size w w' := by
  have hz : (n == 0#64) = false := by simpa using (takes_ne ht).1
  rcases hx.cases with ⟨hn, _⟩ | ⟨b, o, cap, rfl, hp, hc⟩
  · have := congrArg List.length hn
    rw [vals_length] at this
    simp at this; subst this; simp at hj
  rw [vals_length] at *
  have HC := Lib.hid hc
  have HNO := Lib.hid hno
  clear hno hc hx
  go_enter Try.func33, Try.ntmps33
  go_wp2_with fail
  go_loopw [12] (fun i wr => ∃ k : Nat, k ≤ j ∧ i = .int .i64 k ∧ Blk wr w.heap.size 57 #[.int .u64 0, .int .u64 0, .int .i64 0] ∧ Below w.heap.size w wr) (fun i _ => xs.length - (intOf i).toNat)
  case atStart => exact ⟨0, by omega, rfl, Blk.new _ _ _, (Below.refl _ _).alloc (Nat.le_refl _) _⟩
  case round =>
    obtain ⟨k, hk, rfl, hres, hb⟩ := hrel
    have hkl : k < xs.length := by omega
    have c1 := HC.out k _ (vals_get xs k hkl)
    rw [← hb.cell (p := ⟨b, o + k, none⟩) (World.block_lt_of_cell? w _ c1)] at c1
    have hk' : (k : Int) < (xs.length : Int) := by omega
    have hk0 : (0 : Int) ≤ (k : Int) := by omega
    have HRES := Lib.hid hres
    clear hres
    by_cases hlt : k < j
    · have hf := HNO.out k hlt
      go_wp2_with fail
      refine (reftakes_any _ _ _).mono ?_
      rintro e w1 ⟨rfl, b1⟩
      have hres1 := HRES.out.below b1 HRES.out.lt
      have hb1 := hb.trans (b1.mono hb.size)
      have HR1 := Lib.hid hres1
      clear b1 hb hres1 c1
      go_wp2_with fail
      go_roundw
      case rel => exact ⟨k + 1, by omega, by go_num, HR1.out, hb1⟩
      case measure => simp [intOf]; omega
    · obtain rfl : k = j := by omega
      go_wp2_with fail
      refine (reftakes_any _ _ _).mono ?_
      rintro e w1 ⟨rfl, b1⟩
      have hres1 := HRES.out.below b1 HRES.out.lt
      have hb1 := hb.trans (b1.mono hb.size)
      have HR1 := Lib.hid hres1
      clear b1 hb hres1 c1
      go_wp2_with fail
      refine (refrank_any _ _ hz _).mono ?_
      rintro e w2 ⟨rfl, b2⟩
      have hres1 := HR1.out.below b2 HR1.out.lt
      have hB2 := hb1.trans (b2.mono hb1.size)
      clear b2 hb1
      have r0 := hres1.cell 0
      have r1 := hres1.cell 1
      have r2 := hres1.cell 2
      have f0 := hres1.frozen 0
      have f1 := hres1.frozen 1
      have f2 := hres1.frozen 2
      have hlt2 := hres1.lt
      rw [show (#[Value.int .u64 0, .int .u64 0, .int .i64 0] : Array Value)[0]? = some (.int .u64 0) from rfl] at r0
      rw [show (#[Value.int .u64 0, .int .u64 0, .int .i64 0] : Array Value)[1]? = some (.int .u64 0) from rfl] at r1
      rw [show (#[Value.int .u64 0, .int .u64 0, .int .i64 0] : Array Value)[2]? = some (.int .i64 0) from rfl] at r2
      have HS3 := Lib.hid (((hres1.set_ 0 (.int .u64 (ui (mulHi xs[k] n)))).set_ 1 (.int .u64 (ui (rankL xs[k] n)))).set_ 2 (.int .i64 ((k : Int) + 1)))
      have hB3 := ((hB2.setCell (p := ⟨w.heap.size, 0, none⟩) (Nat.le_refl _) (.int .u64 (ui (mulHi xs[k] n)))).setCell (p := ⟨w.heap.size, 1, none⟩) (Nat.le_refl _) (.int .u64 (ui (rankL xs[k] n)))).setCell (p := ⟨w.heap.size, 2, none⟩) (Nat.le_refl _) (.int .i64 ((k : Int) + 1))
      clear hres1
      go_wp2_with fail
      have e0 := HS3.out.cell 0
      have e1 := HS3.out.cell 1
      have e2 := HS3.out.cell 2
      have hs : (((#[Value.int .u64 0, .int .u64 0, .int .i64 0] : Array Value).setIfInBounds 0 (.int .u64 (ui (mulHi xs[k] n)))).setIfInBounds 1 (.int .u64 (ui (rankL xs[k] n)))).setIfInBounds 2 (.int .i64 ((k : Int) + 1)) = #[.int .u64 (ui (mulHi xs[k] n)), .int .u64 (ui (rankL xs[k] n)), .int .i64 ((k : Int) + 1)] := rfl
      rw [hs] at e0 e1 e2
      rw [show (#[Value.int .u64 (ui (mulHi xs[k] n)), .int .u64 (ui (rankL xs[k] n)), .int .i64 ((k : Int) + 1)] : Array Value)[0]? = some (.int .u64 (ui (mulHi xs[k] n))) from rfl] at e0
      rw [show (#[Value.int .u64 (ui (mulHi xs[k] n)), .int .u64 (ui (rankL xs[k] n)), .int .i64 ((k : Int) + 1)] : Array Value)[1]? = some (.int .u64 (ui (rankL xs[k] n))) from rfl] at e1
      rw [show (#[Value.int .u64 (ui (mulHi xs[k] n)), .int .u64 (ui (rankL xs[k] n)), .int .i64 ((k : Int) + 1)] : Array Value)[2]? = some (.int .i64 ((k : Int) + 1)) from rfl] at e2
      exact bodyPost_ret (v := .tuple #[.agg #[.int .u64 (ui (mulHi xs[k] n)), .int .u64 (ui (rankL xs[k] n)), .int .i64 ((k : Int) + 1)], .bool true]) (by simp [results, Try.results33, go_sem, e0, e1, e2]) rfl ⟨rfl, hB3⟩
theorem reftake_none (va : Value) (xs : List (BitVec 64)) (n : BitVec 64) (hl : xs.length ≤ 1000) (w : World) (hx : SlV w va (vals xs)) (hno : ∀ i, (hi : i < xs.length) → takesL xs[i] n = false) :
    Calls Try.prog 33 #[va, .int .u64 (ui n)] w fun e w' => e = .returned (.tuple #[.agg #[.int .u64 0, .int .u64 0, .int .i64 0], .bool false]) ∧ Below w.heap.size w w' := by
  obtain ⟨ao, cap, rfl⟩ := slV_len hx
  rw [vals_length] at *
  have HC : Hid (∀ k, k < xs.length → ∃ b o, ao = some ⟨b, o, none⟩ ∧ ∀ k x, xs[k]? = some x → w.cell? ⟨b, o + k, none⟩ = some (.int .u64 (ui x))) := by
    apply Lib.hid
    intro k hk
    rcases hx with ⟨hn, _⟩ | ⟨b, o, c, he, h⟩
    · have := congrArg List.length hn
      rw [vals_length] at this
      simp at this; subst this; simp at hk
    · injection he with e1 e2 e3
      refine ⟨b, o, e1, fun k x hx => h k _ (by simp [vals, hx])⟩
  have HNO := Lib.hid hno
  clear hno hx
  go_enter Try.func33, Try.ntmps33
  go_wp2_with fail
  go_loopw [12] (fun i wr => ∃ k : Nat, k ≤ xs.length ∧ i = .int .i64 k ∧ Blk wr w.heap.size 57 #[.int .u64 0, .int .u64 0, .int .i64 0] ∧ Below w.heap.size w wr) (fun i _ => xs.length - (intOf i).toNat)
  case atStart => exact ⟨0, by omega, rfl, Blk.new _ _ _, (Below.refl _ _).alloc (Nat.le_refl _) _⟩
  case round =>
    obtain ⟨k, hk, rfl, hres, hb⟩ := hrel
    by_cases hkl : k < xs.length
    · obtain ⟨b, o, rfl, hc⟩ := HC.out k hkl
      have c1 := hc k xs[k] (List.getElem?_eq_getElem hkl)
      rw [← hb.cell (p := ⟨b, o + k, none⟩) (World.block_lt_of_cell? w _ c1)] at c1
      have hk' : (k : Int) < (xs.length : Int) := by omega
      have hk0 : (0 : Int) ≤ (k : Int) := by omega
      have HRES := Lib.hid hres
      clear hres hc
      have hf := HNO.out k hkl
      go_wp2_with fail
      refine (reftakes_any _ _ _).mono ?_
      rintro e w1 ⟨rfl, b1⟩
      have hres1 := HRES.out.below b1 HRES.out.lt
      have hb1 := hb.trans (b1.mono hb.size)
      have HR1 := Lib.hid hres1
      clear b1 hb hres1 c1
      go_wp2_with fail
      go_roundw
      case rel => exact ⟨k + 1, by omega, by go_num, HR1.out, hb1⟩
      case measure => simp [intOf]; omega
    · have hk' : ¬ (k : Int) < (xs.length : Int) := by omega
      have r0 := hres.cell 0
      have r1 := hres.cell 1
      have r2 := hres.cell 2
      have f0 := hres.frozen 0
      have f1 := hres.frozen 1
      have f2 := hres.frozen 2
      have hlt2 := hres.lt
      rw [show (#[Value.int .u64 0, .int .u64 0, .int .i64 0] : Array Value)[0]? = some (.int .u64 0) from rfl] at r0
      rw [show (#[Value.int .u64 0, .int .u64 0, .int .i64 0] : Array Value)[1]? = some (.int .u64 0) from rfl] at r1
      rw [show (#[Value.int .u64 0, .int .u64 0, .int .i64 0] : Array Value)[2]? = some (.int .i64 0) from rfl] at r2
      have HS3 := Lib.hid (((hres.set_ 0 (.int .u64 0)).set_ 1 (.int .u64 0)).set_ 2 (.int .i64 0))
      have hB3 := ((hb.setCell (p := ⟨w.heap.size, 0, none⟩) (Nat.le_refl _) (.int .u64 0)).setCell (p := ⟨w.heap.size, 1, none⟩) (Nat.le_refl _) (.int .u64 0)).setCell (p := ⟨w.heap.size, 2, none⟩) (Nat.le_refl _) (.int .i64 0)
      clear hres
      go_wp2_with fail
      have e0 := HS3.out.cell 0
      have e1 := HS3.out.cell 1
      have e2 := HS3.out.cell 2
      have hs : (((#[Value.int .u64 0, .int .u64 0, .int .i64 0] : Array Value).setIfInBounds 0 (.int .u64 0)).setIfInBounds 1 (.int .u64 0)).setIfInBounds 2 (.int .i64 0) = #[.int .u64 0, .int .u64 0, .int .i64 0] := rfl
      rw [hs] at e0 e1 e2
      rw [show (#[Value.int .u64 0, .int .u64 0, .int .i64 0] : Array Value)[0]? = some (.int .u64 0) from rfl] at e0
      rw [show (#[Value.int .u64 0, .int .u64 0, .int .i64 0] : Array Value)[1]? = some (.int .u64 0) from rfl] at e1
      rw [show (#[Value.int .u64 0, .int .u64 0, .int .i64 0] : Array Value)[2]? = some (.int .i64 0) from rfl] at e2
      exact bodyPost_ret (v := .tuple #[.agg #[.int .u64 0, .int .u64 0, .int .i64 0], .bool false]) (by simp [results, Try.results33, go_sem, e0, e1, e2]) rfl ⟨rfl, hB3⟩
theorem put_yes (va : Value) (xs : List (BitVec 64)) (j : Int) (x : BitVec 64) (hl : xs.length ≤ 1000) (w : World) (hx : SlV w va (vals xs)) (hj0 : 0 ≤ j) (hj : j < xs.length) :
    Calls Try.prog 70 #[va, .int .i64 j, .int .u64 (ui x)] w fun e w' => ∃ v', e = .returned (.tuple #[v', .int .i64 0]) ∧ SlV w' v' (vals (xs.set j.toNat x)) ∧ Below w.heap.size w w' := by
  obtain ⟨ao, cap, rfl⟩ := slV_len hx
  rw [vals_length] at *
  obtain ⟨m, rfl⟩ := Int.eq_ofNat_of_zero_le hj0
  have hm : m < xs.length := by omega
  go_enter Try.func70, Try.ntmps70
  go_wp2_with fail
  refine (clone_any _ xs (by omega) w hx).mono ?_
  rintro e w1 ⟨v', rfl, _, hown, hb⟩
  have hown := hown (by omega)
  rcases hown.2 with ⟨_, h0⟩ | ⟨g, cap2, cur, rfl, hg, _, _, _, _⟩
  · omega
  have c := hown.cellAt m (by omega)
  rw [vals_get xs m hm] at c
  have f := hown.frozenAt m
  have hS := (hown.stored m (.int .u64 (ui x))).1
  have hB := hb.setCell (p := ⟨g, m, none⟩) hg (.int .u64 (ui x))
  have HS := Lib.hid hS
  have hgl : g < w1.heap.size := World.block_lt_of_cell? w1 _ c
  clear hS hown hx
  go_wp2_with fail
  go_ret2
  refine ⟨_, rfl, ?_, hB⟩
  have h := SlV.of_owns HS.out
  have e : (vals xs).set m (.int .u64 (ui x)) = vals (xs.set m x) := by unfold vals; rw [List.map_set]
  rw [e] at h
  exact h
/-! a tape aimed at a number -/
end Go.Proofs.Ytodflmngbkiemaa
