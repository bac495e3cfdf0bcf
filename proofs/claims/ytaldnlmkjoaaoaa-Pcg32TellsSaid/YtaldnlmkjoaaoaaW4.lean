/- More walks of chapter 7's functions: back, the mixers of 32 bits, the reference's own. No condition. -/
import Derived.Test.YtaldnlmkjoaaoaaW3
namespace Go.Proofs.Ytaldnlmkjoaaoaa
open Go.RowKit

theorem lit_h1 : (2246822507 : Int) = ui 2246822507#64 := by decide +kernel
theorem lit_h2 : (3266489909 : Int) = ui 3266489909#64 := by decide +kernel
theorem fmix32_any (h : BitVec 32) (w : World) :
    Calls Try.prog 25 #[.int .u32 (uw h)] w fun e w' => e = .returned (.int .u32 (uw (fmix32 h))) ∧ w = w' := by
  go_enter Try.func25, Try.ntmps25
  go_wp2
  go_ret
  exact ⟨ret_u32 rfl, rfl⟩
theorem unfmix32_any (h : BitVec 32) (w : World) :
    Calls Try.prog 47 #[.int .u32 (uw h)] w fun e w' => e = .returned (.int .u32 (uw (unfmix32 h))) ∧ w = w' := by
  go_enter Try.func47, Try.ntmps47
  go_wp2_with fail
  refine (odd_int _ _ lit_h2 (by decide +kernel) _).mono ?_
  rintro e w' ⟨rfl, rfl⟩
  go_wp2_with fail
  refine (odd_int _ _ lit_h1 (by decide +kernel) _).mono ?_
  rintro e w' ⟨rfl, rfl⟩
  go_wp2
  go_ret
  exact ⟨ret_u32 (by simp only [unfmix32, f32, g32, hI1, hI2]; rfl), rfl⟩
theorem reffold_any (z : BitVec 64) (n : Int) (w : World) :
    Calls Try.prog 20 #[.int .u64 (ui z), .int .i64 n] w fun e w' => e = .returned (.int .u64 (ui (foldB z (cut63 n)))) ∧ w = w' := by
  by_cases h1 : n < 1
  · rw [show cut63 n = 1 by unfold cut63; omega]
    go_enter Try.func20, Try.ntmps20
    go_wp2_with fail
    go_loop [5, 6] (fun o t => ∃ k : Nat, k ≤ 64 ∧ t = .int .i64 k ∧ o = .int .u64 (ui (lowB (z ^^^ z >>> 1) k))) (fun _ t => 64 - (intOf t).toNat)
    case atStart => exact ⟨0, by omega, rfl, by rw [lowB_zero]; rfl⟩
    case round =>
      obtain ⟨k, hk, rfl, rfl⟩ := hrel
      by_cases hlt : k < 64
      · by_cases hin : k + 1 < 64
        · have H := Lib.hid (foldRef_both z 1 k hlt hin)
          go_wp2_with fail
          go_round
          case rel => exact ⟨k + 1, by omega, by go_num, by rw [← H.out, ui_nat k (by omega), ui_nat_add k _ (by omega)]⟩
          case measure => simp [intOf]; omega
        · have H := Lib.hid (foldRef_one z 1 k hlt hin)
          go_wp2_with fail
          go_round
          case rel => exact ⟨k + 1, by omega, by go_num, by rw [← H.out, ui_nat k (by omega)]⟩
          case measure => simp [intOf]; omega
      · have : k = 64 := by omega
        subst this
        go_wp2_with fail
        go_ret
        exact ⟨ret_u64 (lowB_full _), rfl⟩
  · by_cases h2 : 63 < n
    · have h3 : 1 ≤ n := by omega
      rw [show cut63 n = 63 by unfold cut63; omega]
      go_enter Try.func20, Try.ntmps20
      go_wp2_with fail
      go_loop [5, 6] (fun o t => ∃ k : Nat, k ≤ 64 ∧ t = .int .i64 k ∧ o = .int .u64 (ui (lowB (z ^^^ z >>> 63) k))) (fun _ t => 64 - (intOf t).toNat)
      case atStart => exact ⟨0, by omega, rfl, by rw [lowB_zero]; rfl⟩
      case round =>
        obtain ⟨k, hk, rfl, rfl⟩ := hrel
        by_cases hlt : k < 64
        · by_cases hin : k + 63 < 64
          · have H := Lib.hid (foldRef_both z 63 k hlt hin)
            go_wp2_with fail
            go_round
            case rel => exact ⟨k + 1, by omega, by go_num, by rw [← H.out, ui_nat k (by omega), ui_nat_add k _ (by omega)]⟩
            case measure => simp [intOf]; omega
          · have H := Lib.hid (foldRef_one z 63 k hlt hin)
            go_wp2_with fail
            go_round
            case rel => exact ⟨k + 1, by omega, by go_num, by rw [← H.out, ui_nat k (by omega)]⟩
            case measure => simp [intOf]; omega
        · have : k = 64 := by omega
          subst this
          go_wp2_with fail
          go_ret
          exact ⟨ret_u64 (lowB_full _), rfl⟩
    · have h3 : 1 ≤ n := by omega
      have h4 : n ≤ 63 := by omega
      have h5 : 0 ≤ n := by omega
      rw [show cut63 n = n.toNat by unfold cut63; omega]
      go_enter Try.func20, Try.ntmps20
      go_wp2_with fail
      go_loop [5, 6] (fun o t => ∃ k : Nat, k ≤ 64 ∧ t = .int .i64 k ∧ o = .int .u64 (ui (lowB (z ^^^ z >>> n.toNat) k))) (fun _ t => 64 - (intOf t).toNat)
      case atStart => exact ⟨0, by omega, rfl, by rw [lowB_zero]; rfl⟩
      case round =>
        obtain ⟨k, hk, rfl, rfl⟩ := hrel
        by_cases hlt : k < 64
        · by_cases hin : k + n.toNat < 64
          · have H := Lib.hid (foldRef_both z n.toNat k hlt hin)
            go_wp2_with fail
            go_round
            case rel => exact ⟨k + 1, by omega, by go_num, by rw [← H.out, ofInt_nat n h5, ui_nat k (by omega), ui_nat_add k _ (by omega)]⟩
            case measure => simp [intOf]; omega
          · have H := Lib.hid (foldRef_one z n.toNat k hlt hin)
            go_wp2_with fail
            go_round
            case rel => exact ⟨k + 1, by omega, by go_num, by rw [← H.out, ui_nat k (by omega)]⟩
            case measure => simp [intOf]; omega
        · have : k = 64 := by omega
          subst this
          go_wp2_with fail
          go_ret
          exact ⟨ret_u64 (lowB_full _), rfl⟩
/-- back behind k rounds -/
def backK (a b c : Int) (x y z : BitVec 64) : Nat → BitVec 64
  | 0 => unfoldB z (cut63 c)
  | 1 => unfoldB (unfoldB z (cut63 c) * oddInv y) (cut63 b)
  | _ => unmixB (cut63 a) (cut63 b) (cut63 c) (oddInv x) (oddInv y) z
theorem back_any (a b c : Int) (x y z : BitVec 64) (hx : (x % 2#64 == 0#64) = false) (hy : (y % 2#64 == 0#64) = false) (w : World) :
    Calls Try.prog 58 #[.agg #[.int .i64 a, .int .i64 b, .int .i64 c, .int .u64 (ui x), .int .u64 (ui y)], .int .u64 (ui z)] w fun e w' => e = .returned (.int .u64 (ui (unmixB (cut63 a) (cut63 b) (cut63 c) (oddInv x) (oddInv y) z))) ∧ Below w.heap.size w w' := by
  go_enter Try.func58, Try.ntmps58
  go_wp2_with fail
  refine (unfold_any _ _ _).mono ?_
  rintro e w' ⟨rfl, rfl⟩
  go_wp2_with fail
  go_loopw [1, 5] (fun v i wr => ∃ k : Nat, k ≤ 2 ∧ i = .int .i64 (1 - (k : Int)) ∧ v = .int .u64 (ui (backK a b c x y z k)) ∧ Five wr w.heap.size a b c x y ∧ w.heap.size < wr.heap.size ∧ Below w.heap.size w wr) (fun _ i _ => (intOf i + 1).toNat)
  case atStart =>
    exact ⟨0, by omega, rfl, rfl, ⟨by simp, by simp, by simp, by simp, by simp⟩, by simp, (Below.refl _ _).alloc (Nat.le_refl _) _⟩
  case round =>
    obtain ⟨k, hk, rfl, rfl, hV, hs, hb⟩ := hrel
    have hV' := hV
    obtain ⟨v0, v1, v2, v3, v4⟩ := hV'
    match k, hk with
    | 0, hk =>
      go_wp2_with fail
      refine (odd_any _ hy _).mono ?_
      rintro e w' ⟨rfl, rfl⟩
      go_wp2_with fail
      refine (unfold_any _ _ _).mono ?_
      rintro e w' ⟨rfl, rfl⟩
      go_wp2_with fail
      go_roundw
      case rel => exact ⟨1, by omega, by go_num, rfl, hV, hs, hb⟩
      case measure => simp [intOf]
    | 1, hk =>
      go_wp2_with fail
      refine (odd_any _ hx _).mono ?_
      rintro e w' ⟨rfl, rfl⟩
      go_wp2_with fail
      refine (unfold_any _ _ _).mono ?_
      rintro e w' ⟨rfl, rfl⟩
      go_wp2_with fail
      go_roundw
      case rel => exact ⟨2, by omega, by go_num, rfl, hV, hs, hb⟩
      case measure => simp [intOf]
    | 2, hk =>
      go_wp2_with fail
      go_ret
      exact ⟨rfl, hb⟩

theorem split_back (z : BitVec 64) (w : World) :
    Calls Try.prog 58 #[.agg #[.int .i64 30, .int .i64 27, .int .i64 31, .int .u64 13787848793156543929, .int .u64 10723151780598845931], .int .u64 (ui z)] w fun e w' => e = .returned (.int .u64 (ui (unsplitB z))) ∧ Below w.heap.size w w' := by
  rw [lit_s1, lit_s2]
  exact back_any _ _ _ _ _ z (by decide +kernel) (by decide +kernel) w
theorem unsplit_any (z : BitVec 64) (w : World) :
    Calls Try.prog 45 #[.int .u64 (ui z)] w fun e w' => e = .returned (.int .u64 (ui (unsplitB z))) ∧ Below w.heap.size w w' := by
  go_enter Try.func45, Try.ntmps45
  go_wp2_with fail
  refine (split_mixer_any _).mono ?_
  rintro e w1 ⟨rfl, b1⟩
  go_wp2_with fail
  refine (split_back _ _).mono ?_
  rintro e w2 ⟨rfl, b2⟩
  go_wp2
  go_ret
  exact ⟨rfl, b1.trans (b2.mono b1.size)⟩

theorem fmix_back (z : BitVec 64) (w : World) :
    Calls Try.prog 58 #[.agg #[.int .i64 33, .int .i64 33, .int .i64 33, .int .u64 18397679294719823053, .int .u64 14181476777654086739], .int .u64 (ui z)] w fun e w' => e = .returned (.int .u64 (ui (unfmixB z))) ∧ Below w.heap.size w w' := by
  rw [lit_f1, lit_f2]
  exact back_any _ _ _ _ _ z (by decide +kernel) (by decide +kernel) w
theorem unfmix_any (z : BitVec 64) (w : World) :
    Calls Try.prog 46 #[.int .u64 (ui z)] w fun e w' => e = .returned (.int .u64 (ui (unfmixB z))) ∧ Below w.heap.size w w' := by
  go_enter Try.func46, Try.ntmps46
  go_wp2_with fail
  refine (fmix_mixer_any _).mono ?_
  rintro e w1 ⟨rfl, b1⟩
  go_wp2_with fail
  refine (fmix_back _ _).mono ?_
  rintro e w2 ⟨rfl, b2⟩
  go_wp2
  go_ret
  exact ⟨rfl, b1.trans (b2.mono b1.size)⟩

theorem refsplit_any (z : BitVec 64) (w : World) :
    Calls Try.prog 22 #[.int .u64 (ui z)] w fun e w' => e = .returned (.int .u64 (ui (splitB z))) ∧ w = w' := by
  go_enter Try.func22, Try.ntmps22
  go_wp2_with (go_at_call 20; refine (reffold_any _ _ _).mono ?_; rintro e w' ⟨rfl, rfl⟩)
  go_ret
  exact ⟨ret_u64 rfl, rfl⟩

theorem reffmix_any (z : BitVec 64) (w : World) :
    Calls Try.prog 24 #[.int .u64 (ui z)] w fun e w' => e = .returned (.int .u64 (ui (fmixB z))) ∧ w = w' := by
  go_enter Try.func24, Try.ntmps24
  go_wp2_with (go_at_call 20; refine (reffold_any _ _ _).mono ?_; rintro e w' ⟨rfl, rfl⟩)
  go_ret
  exact ⟨ret_u64 rfl, rfl⟩

theorem fold_word (h : BitVec 32) (n : Nat) : (foldB (h.setWidth 64) n).setWidth 32 = f32 n h := by
  unfold foldB f32; ext i hi
  simp
  intro h2; have := BitVec.lt_of_getLsbD h2; omega
theorem reffmix32_any (h : BitVec 32) (w : World) :
    Calls Try.prog 26 #[.int .u32 (uw h)] w fun e w' => e = .returned (.int .u32 (uw (fmix32 h))) ∧ w = w' := by
  go_enter Try.func26, Try.ntmps26
  go_wp2_with (go_at_call 20; refine (reffold_any _ _ _).mono ?_; rintro e w' ⟨rfl, rfl⟩)
  go_ret
  refine ⟨ret_u32 ?_, rfl⟩
  rw [fold_word, fold_word, fold_word]
  rfl
end Go.Proofs.Ytaldnlmkjoaaoaa
