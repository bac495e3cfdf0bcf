/- Walks of chapter 13's lists. No condition. -/
import Derived.Test.YtaldnlmkjoaaoaaL13
import Derived.Test.YtaldnlmkjoaaoaaW6
namespace Go.Proofs.Ytaldnlmkjoaaoaa
open Go.RowKit
/-- words of 32 bits as values -/
def vals32 (xs : List (BitVec 32)) : List Value := xs.map (fun x => .int .u32 (uw x))
theorem vals32_length (xs : List (BitVec 32)) : (vals32 xs).length = xs.length := by simp [vals32]
theorem vals32_snoc (xs : List (BitVec 32)) (x : BitVec 32) : vals32 (xs ++ [x]) = vals32 xs ++ [.int .u32 (uw x)] := by simp [vals32]
/-- what PCG32 tells of a state -/
def told32 (s inc : BitVec 64) (k : Nat) : List (BitVec 32) := (List.range k).map fun i => outB (itr (stepB · inc) i s)
theorem told32_succ (s inc : BitVec 64) (k : Nat) : told32 s inc (k + 1) = told32 s inc k ++ [outB (itr (stepB · inc) k s)] := by
  simp [told32, List.range_succ]
theorem told32_length (s inc : BitVec 64) (k : Nat) : (told32 s inc k).length = k := by simp [told32]
theorem info_u32 : (Try.prog.info? 31).map (fun i => (i.zero, i.size, i.bytes)) = some (some (.int .u32 0), 1, 4) := by kernel_rfl
theorem tclos_any (bz bm : Nat) (s inc : BitVec 64) (w : World) (hz : One w bz (.int .u64 (ui s))) (hm : One w bm (.int .u64 (ui inc))) :
    Calls Try.prog 55 #[.pointer (some ⟨bz, 0, none⟩), .pointer (some ⟨bm, 0, none⟩)] w fun e w' => e = .returned (.int .u32 (uw (outB s))) ∧ w' = w.setCell ⟨bz, 0, none⟩ (.int .u64 (ui (stepB s inc))) := by
  obtain ⟨c0, f0, lt⟩ := hz
  obtain ⟨d0, g0, lt2⟩ := hm
  go_enter Try.func55, Try.ntmps55
  go_wp2_with fail
  refine (pout_any _ _).mono ?_
  rintro e w1 ⟨rfl, rfl⟩
  go_wp2_with fail
  refine (step_any _ _ _).mono ?_
  rintro e w1 ⟨rfl, rfl⟩
  go_wp2_with fail
  go_ret
  exact ⟨rfl, rfl⟩
theorem ptold_any (s inc : BitVec 64) (n : Int) (w : World) :
    Calls Try.prog 36 #[.int .u64 (ui s), .int .u64 (ui inc), .int .i64 n] w (RetSl 31 (vals32 (told32 s inc (min n 4096).toNat)) w) := by
  obtain ⟨i0, hi, hz0, hz1, hz2⟩ := info_parts info_u32
  by_cases h1 : 4096 < n
  · go_enter Try.func36, Try.ntmps36
    go_wp2_with fail
    go_loopw [8, 12] (fun v i wr => ∃ k : Nat, (k : Int) ≤ max (min n 4096) 0 ∧ i = .int .i64 k ∧ One wr w.heap.size (.int .u64 (ui (itr (stepB · inc) k s))) ∧ One wr (w.heap.size + 1) (.int .u64 (ui inc)) ∧ wr.ownsRow (w.heap.size + 2) 31 1 v k (vals32 (told32 s inc k)) ∧ Below w.heap.size w wr) (fun _ i _ => (4096 - intOf i).toNat)
    case atStart => exact ⟨0, by omega, rfl, (One.newAt _ _ _ _ rfl).alloc _, One.newAt _ _ _ _ (by simp), World.ownsRow_nil _ _ _ _, ((Below.refl _ _).alloc (Nat.le_refl _) _).alloc (by simp) _⟩
    case round =>
      obtain ⟨k, hk, rfl, hO, hI, hown, hb⟩ := hrel
      by_cases h2 : (k : Int) < 4096
      · go_wp2_with fail
        refine (tclos_any _ _ _ _ _ hO hI).mono ?_
        rintro e w1 ⟨rfl, rfl⟩
        have hO2 := hO.set (.int .u64 (ui (stepB (itr (stepB · inc) k s) inc)))
        have hI2 := hI.other (p := ⟨w.heap.size, 0, none⟩) (by simp) (.int .u64 (ui (stepB (itr (stepB · inc) k s) inc)))
        have hown2 := ownsRow_setCell_below hown (a := ⟨w.heap.size, 0, none⟩) (by simp) (.int .u64 (ui (stepB (itr (stepB · inc) k s) inc)))
        have hb3 := hb.setCell (p := ⟨w.heap.size, 0, none⟩) (Nat.le_refl _) (.int .u64 (ui (stepB (itr (stepB · inc) k s) inc)))
        have hlt := hI2.lt
        generalize (wr.setCell ⟨w.heap.size, 0, none⟩ (.int .u64 (ui (stepB (itr (stepB · inc) k s) inc)))) = w3 at *
        go_wp2_with (at_builtin; refine wpList_append_own _ rfl _ _ 42 rfl (w.heap.size + 2) 31 i0 (.int .u32 0) 1 4 Try.underlying42 hi hz0 hz1 hz2 rfl (by decide) _ _ _ rfl (hown2.alloc _) ⟨w3.heap.size, 0, none⟩ 1 1 [.int .u32 (uw (outB (itr (stepB · inc) k s)))] rfl rfl ?c1 ?c2 ?c3 ?c4 ?c5 ?_)
        case c1 => exact cell_one_new _ _ _
        case c2 => intro u hu; simp at hu; subst hu; rfl
        case c3 => unfold maxLen; omega
        case c4 => omega
        case c5 => simp; omega
        intro v' w4 hown' hgrow _
        have hO4 := One.grown (hO2.alloc _) hgrow (fun q hq => by have := (hown2.lt q hq).1; omega)
        have hI4 := One.grown (hI2.alloc _) hgrow (fun q hq => by have := (hown2.lt q hq).1; omega)
        have hB : Below w.heap.size w w4 := (hb3.alloc hb3.size _).grown hgrow (by have := hb3.size; simp; omega) (fun q hq => by have := (hown2.lt q hq).1; omega)
        rw [← vals32_snoc, ← told32_succ] at hown'
        clear hgrow hown2 hown
        go_wp2_with fail
        go_roundw
        case rel => exact ⟨k + 1, by omega, by go_num, hO4, hI4, hown', hB⟩
        case measure => simp [intOf]; omega
      · go_wp2_with fail
        go_ret
        exact ⟨_, rfl, by rw [vals32_length, told32_length, show (min n 4096).toNat = k by omega]; exact owns_mono hown (by omega), hb⟩
  · go_enter Try.func36, Try.ntmps36
    go_wp2_with fail
    go_loopw [8, 12] (fun v i wr => ∃ k : Nat, (k : Int) ≤ max (min n 4096) 0 ∧ i = .int .i64 k ∧ One wr w.heap.size (.int .u64 (ui (itr (stepB · inc) k s))) ∧ One wr (w.heap.size + 1) (.int .u64 (ui inc)) ∧ wr.ownsRow (w.heap.size + 2) 31 1 v k (vals32 (told32 s inc k)) ∧ Below w.heap.size w wr) (fun _ i _ => (4096 - intOf i).toNat)
    case atStart => exact ⟨0, by omega, rfl, (One.newAt _ _ _ _ rfl).alloc _, One.newAt _ _ _ _ (by simp), World.ownsRow_nil _ _ _ _, ((Below.refl _ _).alloc (Nat.le_refl _) _).alloc (by simp) _⟩
    case round =>
      obtain ⟨k, hk, rfl, hO, hI, hown, hb⟩ := hrel
      by_cases h2 : (k : Int) < n
      · go_wp2_with fail
        refine (tclos_any _ _ _ _ _ hO hI).mono ?_
        rintro e w1 ⟨rfl, rfl⟩
        have hO2 := hO.set (.int .u64 (ui (stepB (itr (stepB · inc) k s) inc)))
        have hI2 := hI.other (p := ⟨w.heap.size, 0, none⟩) (by simp) (.int .u64 (ui (stepB (itr (stepB · inc) k s) inc)))
        have hown2 := ownsRow_setCell_below hown (a := ⟨w.heap.size, 0, none⟩) (by simp) (.int .u64 (ui (stepB (itr (stepB · inc) k s) inc)))
        have hb3 := hb.setCell (p := ⟨w.heap.size, 0, none⟩) (Nat.le_refl _) (.int .u64 (ui (stepB (itr (stepB · inc) k s) inc)))
        have hlt := hI2.lt
        generalize (wr.setCell ⟨w.heap.size, 0, none⟩ (.int .u64 (ui (stepB (itr (stepB · inc) k s) inc)))) = w3 at *
        go_wp2_with (at_builtin; refine wpList_append_own _ rfl _ _ 42 rfl (w.heap.size + 2) 31 i0 (.int .u32 0) 1 4 Try.underlying42 hi hz0 hz1 hz2 rfl (by decide) _ _ _ rfl (hown2.alloc _) ⟨w3.heap.size, 0, none⟩ 1 1 [.int .u32 (uw (outB (itr (stepB · inc) k s)))] rfl rfl ?c1 ?c2 ?c3 ?c4 ?c5 ?_)
        case c1 => exact cell_one_new _ _ _
        case c2 => intro u hu; simp at hu; subst hu; rfl
        case c3 => unfold maxLen; omega
        case c4 => omega
        case c5 => simp; omega
        intro v' w4 hown' hgrow _
        have hO4 := One.grown (hO2.alloc _) hgrow (fun q hq => by have := (hown2.lt q hq).1; omega)
        have hI4 := One.grown (hI2.alloc _) hgrow (fun q hq => by have := (hown2.lt q hq).1; omega)
        have hB : Below w.heap.size w w4 := (hb3.alloc hb3.size _).grown hgrow (by have := hb3.size; simp; omega) (fun q hq => by have := (hown2.lt q hq).1; omega)
        rw [← vals32_snoc, ← told32_succ] at hown'
        clear hgrow hown2 hown
        go_wp2_with fail
        go_roundw
        case rel => exact ⟨k + 1, by omega, by go_num, hO4, hI4, hown', hB⟩
        case measure => simp [intOf]; omega
      · go_wp2_with fail
        go_ret
        exact ⟨_, rfl, by rw [vals32_length, told32_length, show (min n 4096).toNat = k by omega]; exact owns_mono hown (by omega), hb⟩
/-- the same as words of 64 bits -/
def told64 (s inc : BitVec 64) (k : Nat) : List (BitVec 64) := (told32 s inc k).map fun x => x.setWidth 64
theorem told64_succ (s inc : BitVec 64) (k : Nat) : told64 s inc (k + 1) = told64 s inc k ++ [(outB (itr (stepB · inc) k s)).setWidth 64] := by
  simp [told64, told32_succ]
theorem told64_length (s inc : BitVec 64) (k : Nat) : (told64 s inc k).length = k := by simp [told64, told32_length]
theorem reftold_any (s inc : BitVec 64) (n : Int) (hn : n ≤ 300) (w : World) :
    Calls Try.prog 41 #[.int .u64 (ui s), .int .u64 (ui inc), .int .i64 n] w (RetSl 22 (vals (told64 s inc n.toNat)) w) := by
  obtain ⟨i0, hi, hz0, hz1, hz2⟩ := info_parts info_u64
  go_enter Try.func41, Try.ntmps41
  go_wp2_with fail
  go_loopw [0, 7, 8] (fun x v i wr => ∃ k : Nat, k ≤ n.toNat ∧ i = .int .i64 k ∧ x = .int .u64 (ui (itr (stepB · inc) k s)) ∧ wr.ownsRow w.heap.size 22 1 v k (vals (told64 s inc k)) ∧ Below w.heap.size w wr) (fun _ _ i _ => n.toNat - (intOf i).toNat)
  case atStart => exact ⟨0, by omega, rfl, rfl, World.ownsRow_nil _ _ _ _, Below.refl _ _⟩
  case round =>
    obtain ⟨k, hk, rfl, rfl, hown, hb⟩ := hrel
    by_cases h1 : (k : Int) < n
    · go_wp2_with fail
      refine (refout_any _ _).mono ?_
      rintro e w' ⟨rfl, rfl⟩
      have hlt := hb.size
      go_wp2_with (at_builtin; refine wpList_append_own _ rfl _ _ 39 rfl (w.heap.size) 22 i0 (.int .u64 0) 1 8 Try.underlying39 hi hz0 hz1 hz2 rfl (by decide) _ _ _ rfl (hown.alloc _) ⟨wr.heap.size, 0, none⟩ 1 1 [.int .u64 (ui ((outB (itr (stepB · inc) k s)).setWidth 64))] rfl rfl ?c1 ?c2 ?c3 ?c4 ?c5 ?_)
      case c1 => exact cell_one_new _ _ _
      case c2 => intro u hu; simp at hu; subst hu; rfl
      case c3 => unfold maxLen; omega
      case c4 => omega
      case c5 => simp; omega
      intro v' w4 hown' hgrow _
      have hB : Below w.heap.size w w4 := (hb.alloc hb.size _).grown hgrow (by simp; omega) (fun q hq => (hown.lt q hq).1)
      rw [← vals_snoc, ← told64_succ] at hown'
      clear hgrow hown
      go_wp2_with fail
      refine (refstep_any _ _ _).mono ?_
      rintro e w' ⟨rfl, rfl⟩
      go_wp2_with fail
      go_roundw
      case rel => exact ⟨k + 1, by omega, by go_num, rfl, hown', hB⟩
      case measure => simp [intOf]; omega
    · go_wp2_with fail
      go_ret
      exact ⟨_, rfl, by rw [vals_length, told64_length, show n.toNat = k by omega]; exact hown, hb⟩
end Go.Proofs.Ytaldnlmkjoaaoaa
