/- Walks of the lists' functions of chapters 2, 8, 13. No condition but on lengths. -/
import Derived.Test.YtekegcahjmnceaaW5
import Derived.Test.YtekegcahjmnceaaSl
import Derived.LoopTactic
import Derived.Deep.QuietTactic
import Derived.BigQuiet
namespace Go.Proofs.Ytekegcahjmnceaa
open Go.RowKit
theorem take_snoc_eq (xs ys : List (BitVec 64)) (k : Nat) (h1 : k < xs.length) (h2 : k < ys.length) (ht : xs.take k = ys.take k) (hq : xs[k] = ys[k]) : xs.take (k + 1) = ys.take (k + 1) := by
  rw [List.take_succ_eq_append_getElem h1, List.take_succ_eq_append_getElem h2, ht, hq]
theorem ret_bool {a b : Bool} (h : a = b) : Ending.returned (.bool a) = .returned (.bool b) := by rw [h]
/-- SplitMix64's words of a state -/
def outs (s : BitVec 64) (k : Nat) : List (BitVec 64) := (List.range k).map fun i => splitB (s + (BitVec.ofNat 64 i + 1#64) * gamma)
theorem outs_succ (s : BitVec 64) (k : Nat) : outs s (k + 1) = outs s k ++ [splitB (s + (BitVec.ofNat 64 k + 1#64) * gamma)] := by
  simp [outs, List.range_succ]
theorem outs_length (s : BitVec 64) (k : Nat) : (outs s k).length = k := by simp [outs]
theorem info_u64 : (Try.prog.info? 22).map (fun i => (i.zero, i.size, i.bytes)) = some (some (.int .u64 0), 1, 8) := by kernel_rfl
theorem refwords_any (s : BitVec 64) (n : Int) (w : World) :
    Calls Try.prog 26 #[.int .u64 (ui s), .int .i64 n] w (RetSl 22 (vals (outs s (min n 4096).toNat)) w) := by
  obtain ⟨i0, hi, hz0, hz1, hz2⟩ := info_parts info_u64
  go_enter Try.func26, Try.ntmps26
  go_wp2_with fail
  go_loopw [5, 6] (fun v i wr => ∃ k : Nat, (k : Int) ≤ max (min n 4096) 0 ∧ i = .int .i64 k ∧ wr.ownsRow w.heap.size 22 1 v k (vals (outs s k)) ∧ Below w.heap.size w wr) (fun _ i _ => (4096 - intOf i).toNat)
  case atStart => exact ⟨0, by omega, rfl, World.ownsRow_nil _ _ _ _, Below.refl _ _⟩
  case round =>
    obtain ⟨k, hk, rfl, hown, hb⟩ := hrel
    by_cases h1 : (k : Int) < n
    · by_cases h2 : (k : Int) < 4096
      · go_wp2_with fail
        refine (sout_any _ _ _).mono ?_
        rintro e w' ⟨rfl, rfl⟩
        go_wp2_with (at_builtin; refine wpList_append_own _ rfl _ _ 39 rfl w.heap.size 22 i0 (.int .u64 0) 1 8 Try.underlying39 hi hz0 hz1 hz2 rfl (by decide) _ _ _ rfl (hown.alloc _) ⟨wr.heap.size, 0, none⟩ 1 1 [.int .u64 (ui (splitB (s + (BitVec.ofNat 64 k + 1#64) * gamma)))] rfl rfl ?c1 ?c2 ?c3 ?c4 ?c5 ?_)
        case c1 => exact cell_one_new _ _ _
        case c2 => intro u hu; simp at hu; subst hu; rfl
        case c3 => unfold maxLen; omega
        case c4 => omega
        case c5 => have := hb.size; simp; omega
        intro v' w1 hown' hgrow _
        have hB : Below w.heap.size w w1 := (hb.alloc hb.size _).grown hgrow (by have := hb.size; simp; omega) (fun q hq => (hown.lt q hq).1)
        rw [← vals_snoc, ← outs_succ] at hown'
        clear hgrow hown
        go_wp2_with fail
        go_roundw
        case rel => exact ⟨k + 1, by omega, by go_num, hown', hB⟩
        case measure => simp [intOf]; omega
      · go_wp2_with fail
        go_ret
        exact ⟨_, rfl, by rw [vals_length, outs_length, show (min n 4096).toNat = k by omega]; exact hown, hb⟩
    · go_wp2_with fail
      go_ret
      exact ⟨_, rfl, by rw [vals_length, outs_length, show (min n 4096).toNat = k by omega]; exact hown, hb⟩
theorem wclos_any (bz : Nat) (s : BitVec 64) (w : World) (hz : One w bz (.int .u64 (ui s))) :
    Calls Try.prog 29 #[.pointer (some ⟨bz, 0, none⟩)] w fun e w' => e = .returned (.int .u64 (ui (splitB (s + gamma)))) ∧ ∃ w1, Below w.heap.size w w1 ∧ w' = w1.setCell ⟨bz, 0, none⟩ (.int .u64 (ui (s + gamma))) := by
  obtain ⟨c0, f0, lt⟩ := hz
  go_enter Try.func29, Try.ntmps29
  go_wp2_with fail
  refine (snext_any _ _).mono ?_
  rintro e w1 ⟨rfl, b1⟩
  have hO := (One.mk c0 f0 lt).below b1 lt
  obtain ⟨d0, g0, lt1⟩ := hO
  go_wp2_with fail
  go_ret
  exact ⟨rfl, w1, b1, rfl⟩
theorem wclos_zero (s : BitVec 64) : s + BitVec.ofNat 64 0 * gamma = s := by
  have : BitVec.ofNat 64 0 * gamma = 0#64 := BitVec.zero_mul
  rw [this, BitVec.add_zero]
theorem wclos_step (s : BitVec 64) (k : Nat) : s + BitVec.ofNat 64 k * gamma + gamma = s + BitVec.ofNat 64 (k + 1) * gamma := by
  rw [BitVec.ofNat_add, BitVec.add_mul, show BitVec.ofNat 64 1 * gamma = gamma from BitVec.one_mul _, BitVec.add_assoc]
theorem wclos_out (s : BitVec 64) (k : Nat) : splitB (s + BitVec.ofNat 64 k * gamma + gamma) = splitB (s + (BitVec.ofNat 64 k + 1#64) * gamma) := by
  rw [BitVec.add_mul, show 1#64 * gamma = gamma from BitVec.one_mul _, BitVec.add_assoc]
theorem swords_any (s : BitVec 64) (n : Int) (w : World) :
    Calls Try.prog 25 #[.int .u64 (ui s), .int .i64 n] w (RetSl 22 (vals (outs s (min n 4096).toNat)) w) := by
  obtain ⟨i0, hi, hz0, hz1, hz2⟩ := info_parts info_u64
  by_cases h1 : 4096 < n
  · go_enter Try.func25, Try.ntmps25
    go_wp2_with fail
    go_loopw [6, 10] (fun v i wr => ∃ k : Nat, (k : Int) ≤ max (min n 4096) 0 ∧ i = .int .i64 k ∧ One wr w.heap.size (.int .u64 (ui (s + BitVec.ofNat 64 k * gamma))) ∧ wr.ownsRow (w.heap.size + 1) 22 1 v k (vals (outs s k)) ∧ Below w.heap.size w wr) (fun _ i _ => (4096 - intOf i).toNat)
    case atStart => exact ⟨0, by omega, rfl, by rw [wclos_zero]; exact One.new _ _ _, World.ownsRow_nil _ _ _ _, (Below.refl _ _).alloc (Nat.le_refl _) _⟩
    case round =>
      obtain ⟨k, hk, rfl, hO, hown, hb⟩ := hrel
      by_cases h2 : (k : Int) < 4096
      · go_wp2_with fail
        refine (wclos_any _ _ _ hO).mono ?_
        rintro e w1 ⟨rfl, w2, hb2, rfl⟩
        have hO2 := (hO.below hb2 hO.lt).set (.int .u64 (ui (s + BitVec.ofNat 64 k * gamma + gamma)))
        have hown2 := ownsRow_setCell_below (owns_below hown hb2) (a := ⟨w.heap.size, 0, none⟩) (by simp) (.int .u64 (ui (s + BitVec.ofNat 64 k * gamma + gamma)))
        have hb3 := (hb.trans (hb2.mono hb.size)).setCell (p := ⟨w.heap.size, 0, none⟩) (Nat.le_refl _) (.int .u64 (ui (s + BitVec.ofNat 64 k * gamma + gamma)))
        have hlt := hO2.lt
        generalize (w2.setCell ⟨w.heap.size, 0, none⟩ (.int .u64 (ui (s + BitVec.ofNat 64 k * gamma + gamma)))) = w3 at *
        rw [wclos_step] at hO2
        go_wp2_with (at_builtin; refine wpList_append_own _ rfl _ _ 39 rfl (w.heap.size + 1) 22 i0 (.int .u64 0) 1 8 Try.underlying39 hi hz0 hz1 hz2 rfl (by decide) _ _ _ rfl (hown2.alloc _) ⟨w3.heap.size, 0, none⟩ 1 1 [.int .u64 (ui (splitB (s + BitVec.ofNat 64 k * gamma + gamma)))] rfl rfl ?c1 ?c2 ?c3 ?c4 ?c5 ?_)
        case c1 => exact cell_one_new _ _ _
        case c2 => intro u hu; simp at hu; subst hu; rfl
        case c3 => unfold maxLen; omega
        case c4 => omega
        case c5 => simp; omega
        intro v' w4 hown' hgrow _
        have hO4 := One.grown (hO2.alloc _) hgrow (fun q hq => by have := (hown2.lt q hq).1; omega)
        have hB : Below w.heap.size w w4 := (hb3.alloc hb3.size _).grown hgrow (by have := hb3.size; simp; omega) (fun q hq => by have := (hown2.lt q hq).1; omega)
        rw [← vals_snoc, wclos_out, ← outs_succ] at hown'
        clear hgrow hown2 hown
        go_wp2_with fail
        go_roundw
        case rel => exact ⟨k + 1, by omega, by go_num, hO4, hown', hB⟩
        case measure => simp [intOf]; omega
      · go_wp2_with fail
        go_ret
        exact ⟨_, rfl, by rw [vals_length, outs_length, show (min n 4096).toNat = k by omega]; exact owns_mono hown (by omega), hb⟩
  · go_enter Try.func25, Try.ntmps25
    go_wp2_with fail
    go_loopw [6, 10] (fun v i wr => ∃ k : Nat, (k : Int) ≤ max (min n 4096) 0 ∧ i = .int .i64 k ∧ One wr w.heap.size (.int .u64 (ui (s + BitVec.ofNat 64 k * gamma))) ∧ wr.ownsRow (w.heap.size + 1) 22 1 v k (vals (outs s k)) ∧ Below w.heap.size w wr) (fun _ i _ => (4096 - intOf i).toNat)
    case atStart => exact ⟨0, by omega, rfl, by rw [wclos_zero]; exact One.new _ _ _, World.ownsRow_nil _ _ _ _, (Below.refl _ _).alloc (Nat.le_refl _) _⟩
    case round =>
      obtain ⟨k, hk, rfl, hO, hown, hb⟩ := hrel
      by_cases h2 : (k : Int) < n
      · go_wp2_with fail
        refine (wclos_any _ _ _ hO).mono ?_
        rintro e w1 ⟨rfl, w2, hb2, rfl⟩
        have hO2 := (hO.below hb2 hO.lt).set (.int .u64 (ui (s + BitVec.ofNat 64 k * gamma + gamma)))
        have hown2 := ownsRow_setCell_below (owns_below hown hb2) (a := ⟨w.heap.size, 0, none⟩) (by simp) (.int .u64 (ui (s + BitVec.ofNat 64 k * gamma + gamma)))
        have hb3 := (hb.trans (hb2.mono hb.size)).setCell (p := ⟨w.heap.size, 0, none⟩) (Nat.le_refl _) (.int .u64 (ui (s + BitVec.ofNat 64 k * gamma + gamma)))
        have hlt := hO2.lt
        generalize (w2.setCell ⟨w.heap.size, 0, none⟩ (.int .u64 (ui (s + BitVec.ofNat 64 k * gamma + gamma)))) = w3 at *
        rw [wclos_step] at hO2
        go_wp2_with (at_builtin; refine wpList_append_own _ rfl _ _ 39 rfl (w.heap.size + 1) 22 i0 (.int .u64 0) 1 8 Try.underlying39 hi hz0 hz1 hz2 rfl (by decide) _ _ _ rfl (hown2.alloc _) ⟨w3.heap.size, 0, none⟩ 1 1 [.int .u64 (ui (splitB (s + BitVec.ofNat 64 k * gamma + gamma)))] rfl rfl ?c1 ?c2 ?c3 ?c4 ?c5 ?_)
        case c1 => exact cell_one_new _ _ _
        case c2 => intro u hu; simp at hu; subst hu; rfl
        case c3 => unfold maxLen; omega
        case c4 => omega
        case c5 => simp; omega
        intro v' w4 hown' hgrow _
        have hO4 := One.grown (hO2.alloc _) hgrow (fun q hq => by have := (hown2.lt q hq).1; omega)
        have hB : Below w.heap.size w w4 := (hb3.alloc hb3.size _).grown hgrow (by have := hb3.size; simp; omega) (fun q hq => by have := (hown2.lt q hq).1; omega)
        rw [← vals_snoc, wclos_out, ← outs_succ] at hown'
        clear hgrow hown2 hown
        go_wp2_with fail
        go_roundw
        case rel => exact ⟨k + 1, by omega, by go_num, hO4, hown', hB⟩
        case measure => simp [intOf]; omega
      · go_wp2_with fail
        go_ret
        exact ⟨_, rfl, by rw [vals_length, outs_length, show (min n 4096).toNat = k by omega]; exact owns_mono hown (by omega), hb⟩
end Go.Proofs.Ytekegcahjmnceaa
