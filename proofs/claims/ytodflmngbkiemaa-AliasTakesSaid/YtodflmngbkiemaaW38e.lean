/- The walks of chapter 38's draws, second part: too few words; a limit of none. No condition but on lengths. -/
import Derived.Test.YtodflmngbkiemaaW38d
namespace Go.Proofs.Ytodflmngbkiemaa
open Go.RowKit
theorem take_none (B : Nat) (xs : List (BitVec 64)) (k : Nat) (wv tv : Value) (n : BitVec 64) (hn : (n == 0#64) = false) (w : World) (h : TapeAt w B xs k wv tv) (hno : ∀ i, k ≤ i → (hi : i < xs.length) → takesL xs[i] n = false) :
    Calls Try.prog 31 #[.pointer (some ⟨B, 0, none⟩), .int .u64 (ui n)] w fun e w' => ∃ tv', e = .returned (.tuple #[.agg #[.int .u64 0, .int .u64 0, .int .i64 0], .int .i64 7]) ∧ TapeAt w' B xs xs.length wv tv' ∧ Below B w w' := by
  have hfew := h.few
  have hle := h.le
  have hBlt := h.blk.lt
  have HS := Lib.hid (take_start B xs k wv tv w h)
  have HNO := Lib.hid hno
  clear hno h
  go_enter Try.func31, Try.ntmps31
  go_wp2_with fail
  go_step3
  go_wp2_with fail
  go_step3
  go_wp2_with fail
  go_loopg [7] (xs.length + 1 - k) (fun gk _ wr => ∃ i u : Nat, gk = xs.length + 1 - i ∧ k ≤ i ∧ i ≤ xs.length ∧ RowKit.Hid (u = i - k) ∧ u ≤ 1000 ∧ RowKit.Hid (TakeRel B xs i u wv w wr))
  case atStart => exact ⟨k, 0, rfl, by omega, hle, (Nat.sub_self k).symm, by omega, HS.out⟩
  case round =>
    obtain ⟨i, u, rfl, hki, hij, hu, hu1, HR⟩ := hrel
    obtain ⟨tvi, hti⟩ := HR.out.tape
    have hui : u = i - k := hu
    by_cases hlt : i < xs.length
    · have hnext := next_any B xs i wv tvi wr hti hlt
      have hu9 : (u : Int) < 1000 := by omega
      clear hti hui
      have hf := HNO.out i hki hlt
      go_wp2_with fail
      refine hnext.mono ?_
      rintro e w1 ⟨tv', rfl, h1, h2, h3⟩
      have hN := take_next HR.out (by omega) h1 h2 h3
      have hd := h2 _ _ _ HR.out.used (by decide) (by omega)
      have d2 := hd.cell 2
      have f2 := hd.frozen 2
      rw [show (#[Value.int .u64 0, .int .u64 0, .int .i64 (u : Int)] : Array Value)[2]? = some (.int .i64 (u : Int)) from rfl] at d2
      have HN := Lib.hid hN
      clear hnext h1 h2 h3 hN hd
      go_wp2_with fail
      refine (takes_any _ _ _).mono ?_
      rintro e w' ⟨rfl, rfl⟩
      go_wp2_with fail
      go_roundg (xs.length + 1 - (i + 1))
      case measure => omega
      case rel => exact ⟨i + 1, u + 1, rfl, by omega, by omega, (show u + 1 = i + 1 - k by have := (show u = i - k from hu); omega), by omega, HN.out⟩
    · obtain rfl : i = xs.length := by omega
      have hnext := next_none B xs wv tvi wr hti
      have hT := Lib.hid hti
      clear hti hui
      go_wp2_with fail
      refine hnext.mono ?_
      rintro e w1 ⟨rfl, rfl⟩
      have q0 := HR.out.res
      have hB := HR.out.bel
      have r0 := q0.cell 0
      have r1 := q0.cell 1
      have r2 := q0.cell 2
      have f0 := q0.frozen 0
      have f1 := q0.frozen 1
      have f2 := q0.frozen 2
      have hlt2 := q0.lt
      have q1 := q0.set_ 0 (.int .u64 0)
      have q2 := q1.set_ 1 (.int .u64 0)
      have q3 := q2.set_ 2 (.int .i64 0)
      have T5 := ((hT.out.set q0 (o := 0) (by decide) (by omega) (.int .u64 0)).set q1 (o := 1) (by decide) (by omega) (.int .u64 0)).set q2 (o := 2) (by decide) (by omega) (.int .i64 0)
      have B5 := ((hB.setCell (p := ⟨w.heap.size, 0, none⟩) (by simp; omega) (.int .u64 0)).setCell (p := ⟨w.heap.size, 1, none⟩) (by simp; omega) (.int .u64 0)).setCell (p := ⟨w.heap.size, 2, none⟩) (by simp; omega) (.int .i64 0)
      have Q3 := Lib.hid q3
      have HT5 := Lib.hid T5
      have HB5 := Lib.hid B5
      clear q0 q1 q2 q3 T5 B5 hB hnext HS hT HR
      go_wp2_with fail
      have e0 := Q3.out.cell 0
      have e1 := Q3.out.cell 1
      have e2 := Q3.out.cell 2
      have hs : (((#[Value.int .u64 0, .int .u64 0, .int .i64 0] : Array Value).setIfInBounds 0 (.int .u64 0)).setIfInBounds 1 (.int .u64 0)).setIfInBounds 2 (.int .i64 0) = #[.int .u64 0, .int .u64 0, .int .i64 0] := rfl
      rw [hs] at e0 e1 e2
      rw [show (#[Value.int .u64 0, .int .u64 0, .int .i64 0] : Array Value)[0]? = some (.int .u64 0) from rfl] at e0
      rw [show (#[Value.int .u64 0, .int .u64 0, .int .i64 0] : Array Value)[1]? = some (.int .u64 0) from rfl] at e1
      rw [show (#[Value.int .u64 0, .int .u64 0, .int .i64 0] : Array Value)[2]? = some (.int .i64 0) from rfl] at e2
      rw [Exit.noGoto_ret]
      refine bodyPost_ret (v := .tuple #[.agg #[.int .u64 0, .int .u64 0, .int .i64 0], .int .i64 7]) (by simp [results, Try.results31, go_sem, e0, e1, e2]) rfl ⟨_, rfl, HT5.out, HB5.out⟩
theorem take_zero (B : Nat) (xs : List (BitVec 64)) (k : Nat) (wv tv : Value) (w : World) (h : TapeAt w B xs k wv tv) :
    Calls Try.prog 31 #[.pointer (some ⟨B, 0, none⟩), .int .u64 0] w fun e w' => e = .returned (.tuple #[.agg #[.int .u64 0, .int .u64 0, .int .i64 0], .int .i64 8]) ∧ TapeAt w' B xs k wv tv ∧ Below w.heap.size w w' := by
  have hT := h.alloc (.cells #[.int .u64 0, .int .u64 0, .int .i64 0] 57)
  have HT := Lib.hid hT
  clear hT h
  go_enter Try.func31, Try.ntmps31
  go_wp2_with fail
  go_step3
  go_wp2_with fail
  rw [Exit.noGoto_ret]
  exact bodyPost_ret (v := .tuple #[.agg #[.int .u64 0, .int .u64 0, .int .i64 0], .int .i64 8]) (by simp [results, Try.results31, go_sem]) rfl ⟨rfl, HT.out, (Below.refl _ _).alloc (Nat.le_refl _) _⟩
end Go.Proofs.Ytodflmngbkiemaa
