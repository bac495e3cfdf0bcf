/- The walks of chapter 6's powers: numbers of four words. For every input. No condition. -/
import Derived.Test.YthiahpkodnfdcaaDoorL06d
import Derived.Test.YthiahpkodnfdcaaDoorS4
namespace Go.Proofs.YthiahpkodnfdcaaDoor
open Go.RowKit
/-- the words of a number of 256 bits -/
def ls (s : S4) : List (BitVec 64) := [s.a, s.b, s.c, s.d]
abbrev u4 (s : S4) : Value := .agg #[.int .u64 (ui s.a), .int .u64 (ui s.b), .int .u64 (ui s.c), .int .u64 (ui s.d)]
abbrev c4 (s : S4) : Obj := .cells #[.int .u64 (ui s.a), .int .u64 (ui s.b), .int .u64 (ui s.c), .int .u64 (ui s.d)] 45
theorem ls_len (s : S4) : (ls s).length = 4 := rfl
theorem ls_cell {w : World} {g : Nat} {t : TypeId} {s : S4} (h : Blk w g t #[.int .u64 (ui s.a), .int .u64 (ui s.b), .int .u64 (ui s.c), .int .u64 (ui s.d)]) (i : Nat) (hi : i < (ls s).length) : w.cell? ⟨g, i, none⟩ = some (.int .u64 (ui (ls s)[i])) := by
  rw [h.cell i]
  match i, hi with
  | 0, _ => rfl
  | 1, _ => rfl
  | 2, _ => rfl
  | 3, _ => rfl
theorem words_zero (xs : List (BitVec 64)) (hz : nv xs = 0) (i : Nat) (hi : i < xs.length) : xs[i] = 0#64 := by
  apply BitVec.eq_of_toNat_eq
  apply Nat.eq_of_testBit_eq
  intro k
  by_cases hk : k < 64
  · have := nv_bit xs (64 * i + k)
    rw [hz, Nat.zero_testBit, show (64 * i + k) / 64 = i by omega, show (64 * i + k) % 64 = k by omega, getD_at xs i _ hi] at this
    rw [← this]; simp
  · rw [bit_big xs[i].isLt (by omega)]; simp
theorem len4_any (s : S4) (w : World) :
    Calls Tryd.prog 38 #[u4 s] w fun e w' => e = .returned (.int .i64 (sz (nv (ls s)) : Nat)) ∧ Below w.heap.size w w' := by
  have hb := below_new w (c4 s)
  have hc := ls_cell (s := s) (Blk.new w 45 #[.int .u64 (ui s.a), .int .u64 (ui s.b), .int .u64 (ui s.c), .int .u64 (ui s.d)])
  have hl := ls_len s
  obtain ⟨n, hn, hz0, ht⟩ := cut_ex (ls s)
  by_cases hn0 : n = 0
  · subst hn0
    rw [nv_zero (ls s) (fun i hi => hz0 i (Nat.zero_le _) hi), sz_zero]
    have HC := Lib.hid hc
    have HZ := Lib.hid hz0
    have HL := Lib.hid hl
    clear hc hz0 ht hn hl
    go_enter Tryd.func38, Tryd.ntmps38
    go_wp2_with fail
    go_loop [3] (fun i => ∃ k : Nat, k ≤ 4 ∧ i = .int .i64 ((k : Int) - 1)) (fun i => (intOf i + 1).toNat)
    case atStart => exact ⟨4, by omega, rfl⟩
    case round =>
      obtain ⟨k, hk, rfl⟩ := hrel
      by_cases hlt : 0 < k
      · have c1 := HC.out (k - 1) (by rw [HL.out]; omega)
        rw [HZ.out (k - 1) (by omega) (by rw [HL.out]; omega)] at c1
        have e2 : ((k : Int) - 1).toNat = k - 1 := by omega
        have h1 : (k : Int) - 1 < 4 := by omega
        have h2 : (1 : Int) ≤ (k : Int) := by omega
        have h3 : (0 : Int) ≤ (k : Int) - 1 := by omega
        go_wp2_with fail
        go_round
        case rel => exact ⟨k - 1, by omega, by rw [show ((k - 1 : Nat) : Int) = (k : Int) - 1 by omega]⟩
        case measure => simp [intOf]; omega
      · obtain rfl : k = 0 := by omega
        go_wp2_with fail
        go_ret
        exact ⟨rfl, hb⟩
  · obtain ⟨hi, hne⟩ : ∃ hi : n - 1 < (ls s).length, (ls s)[n - 1] ≠ 0#64 := by
      rcases ht with h | h
      · exact absurd h hn0
      · exact h
    have hsz := nv_top (ls s) (n - 1) hi hne (fun i h1 h2 => hz0 i (by omega) h2)
    rw [hsz]
    have hx0 : ((ls s)[n - 1] == 0#64) = false := by simpa using hne
    have hx1 : ((ls s)[n - 1] != 0#64) = true := by simpa using hne
    have hs : sz (ls s)[n - 1].toNat ≤ 64 := sz_le.2 (ls s)[n - 1].isLt
    have HC := Lib.hid hc
    have HZ := Lib.hid hz0
    have hX := hc (n - 1) hi
    generalize (ls s)[n - 1] = x at *
    have HX := Lib.hid hX
    have HL := Lib.hid hl
    have hn4 : n ≤ 4 := by omega
    have HLen := Lib.hid (show ∀ w, Calls Tryd.prog 31 #[.int .u64 (ui x)] w fun e w' => e = .returned (.int .i64 (sz x.toNat)) ∧ w = w' from fun w => len64_any x w)
    generalize sz x.toNat = q at *
    clear hc hz0 hsz ht hne hX hl hn
    go_enter Tryd.func38, Tryd.ntmps38
    go_wp2_with fail
    go_loop [3] (fun i => ∃ k : Nat, n ≤ k ∧ k ≤ 4 ∧ i = .int .i64 ((k : Int) - 1)) (fun i => (intOf i + 1).toNat)
    case atStart => exact ⟨4, hn4, Nat.le_refl _, rfl⟩
    case round =>
      obtain ⟨k, hk1, hk, rfl⟩ := hrel
      have e2 : ((k : Int) - 1).toNat = k - 1 := by omega
      have h1 : (k : Int) - 1 < 4 := by omega
      have h2 : (1 : Int) ≤ (k : Int) := by omega
      have h3 : (0 : Int) ≤ (k : Int) - 1 := by omega
      by_cases hlt : n < k
      · have c1 := HC.out (k - 1) (by rw [HL.out]; omega)
        rw [HZ.out (k - 1) (by omega) (by rw [HL.out]; omega)] at c1
        go_wp2_with fail
        go_round
        case rel => exact ⟨k - 1, by omega, by omega, by rw [show ((k - 1 : Nat) : Int) = (k : Int) - 1 by omega]⟩
        case measure => simp [intOf]; omega
      · obtain rfl : n = k := by omega
        have c1 := HX.out
        clear hlt
        go_wp2_with fail
        refine (HLen.out _).mono ?_
        rintro e w' ⟨rfl, rfl⟩
        go_wp2_with fail
        go_ret
        exact ⟨ret_i64 (by omega), hb⟩
theorem bit4_any (s : S4) (m : Nat) (hm : m < 256) (w : World) :
    Calls Tryd.prog 39 #[u4 s, .int .i64 (m : Int)] w fun e w' => e = .returned (.bool ((nv (ls s)).testBit m)) ∧ Below w.heap.size w w' := by
  have hb := below_new w (c4 s)
  have hc := ls_cell (s := s) (Blk.new w 45 #[.int .u64 (ui s.a), .int .u64 (ui s.b), .int .u64 (ui s.c), .int .u64 (ui s.d)])
  have hl := ls_len s
  rw [nv_bit]
  obtain ⟨i, hi⟩ : ∃ i, m / 64 = i := ⟨_, rfl⟩
  obtain ⟨j, hj⟩ : ∃ j, m % 64 = j := ⟨_, rfl⟩
  have hi4 : i < (ls s).length := by omega
  have q1 : ((m : Int) / 64) = (i : Int) := by omega
  have q2 : ((m : Int) % 64) = (j : Int) := by omega
  have q3 : (m : Int) < 256 := by omega
  have q4 : (0 : Int) ≤ (m : Int) := by omega
  have h1 : (i : Int) < 4 := by omega
  have h2 : (0 : Int) ≤ (i : Int) := by omega
  have h3 : (0 : Int) ≤ (j : Int) := by omega
  rw [hi, hj, getD_at _ _ _ hi4]
  have c1 := hc i hi4
  have hb2 := bit_word (ls s)[i] j
  generalize (ls s)[i] = x at *
  clear hc hi hj hl hi4 hm
  rcases hx : x.toNat.testBit j with _ | _
  · rw [hx, if_neg (by decide)] at hb2
    clear hx
    go_enter Tryd.func39, Tryd.ntmps39
    go_wp2_with fail
    go_ret
    exact ⟨rfl, hb⟩
  · rw [hx, if_pos rfl] at hb2
    clear hx
    go_enter Tryd.func39, Tryd.ntmps39
    go_wp2_with fail
    go_ret
    exact ⟨rfl, hb⟩
theorem of4_any (x : BitVec 64) (w : World) :
    Calls Tryd.prog 29 #[.int .u64 (ui x)] w fun e w' => e = .returned (u4 ⟨x, 0#64, 0#64, 0#64⟩) ∧ Below w.heap.size w w' := by
  go_enter Tryd.func29, Tryd.ntmps29
  go_wp2_with fail
  exact bodyPost_ret (v := u4 ⟨x, 0#64, 0#64, 0#64⟩) (by simp [results, Tryd.results29, go_sem]; try rfl) rfl ⟨rfl, below_new _ _⟩
end Go.Proofs.YthiahpkodnfdcaaDoor
