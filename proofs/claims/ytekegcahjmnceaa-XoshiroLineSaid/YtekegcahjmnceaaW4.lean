/- More walks of chapter 7's functions: back, the mixers of 32 bits, the reference's own. No condition. -/
import Derived.Test.YtekegcahjmnceaaW3
namespace Go.Proofs.Ytekegcahjmnceaa
open Go.RowKit

theorem lit_h1 : (2246822507 : Int) = ui 2246822507#64 := by decide +kernel
theorem lit_h2 : (3266489909 : Int) = ui 3266489909#64 := by decide +kernel
theorem reffold_any (z : BitVec 64) (n : Int) (w : World) :
    Calls Try.prog 36 #[.int .u64 (ui z), .int .i64 n] w fun e w' => e = .returned (.int .u64 (ui (foldB z (cut63 n)))) ∧ w = w' := by
  by_cases h1 : n < 1
  · rw [show cut63 n = 1 by unfold cut63; omega]
    go_enter Try.func36, Try.ntmps36
    go_wp2_with fail
    go_loop [5, 6] (fun o t => ∃ k : Nat, k ≤ 64 ∧ t = .int .i64 k ∧ o = .int .u64 (ui (lowB (z ^^^ z >>> 1) k))) (fun _ t => 64 - (intOf t).toNat)
    case atStart => exact ⟨0, by omega, rfl, by rw [lowB_zero]; rfl⟩
    case round =>
      obtain ⟨k, hk, rfl, rfl⟩ := hrel
      by_cases hlt : k < 64
      · by_cases hin : k + 1 < 64
        · have H := Lib.hid (foldRef_both z 1 k hlt hin)
          go_wp2_with fail
          go_round
          case rel => exact ⟨k + 1, by omega, by go_num, by rw [← H.out, ui_nat k (by omega), ui_nat_add k _ (by omega)]⟩
          case measure => simp [intOf]; omega
        · have H := Lib.hid (foldRef_one z 1 k hlt hin)
          go_wp2_with fail
          go_round
          case rel => exact ⟨k + 1, by omega, by go_num, by rw [← H.out, ui_nat k (by omega)]⟩
          case measure => simp [intOf]; omega
      · have : k = 64 := by omega
        subst this
        go_wp2_with fail
        go_ret
        exact ⟨ret_u64 (lowB_full _), rfl⟩
  · by_cases h2 : 63 < n
    · have h3 : 1 ≤ n := by omega
      rw [show cut63 n = 63 by unfold cut63; omega]
      go_enter Try.func36, Try.ntmps36
      go_wp2_with fail
      go_loop [5, 6] (fun o t => ∃ k : Nat, k ≤ 64 ∧ t = .int .i64 k ∧ o = .int .u64 (ui (lowB (z ^^^ z >>> 63) k))) (fun _ t => 64 - (intOf t).toNat)
      case atStart => exact ⟨0, by omega, rfl, by rw [lowB_zero]; rfl⟩
      case round =>
        obtain ⟨k, hk, rfl, rfl⟩ := hrel
        by_cases hlt : k < 64
        · by_cases hin : k + 63 < 64
          · have H := Lib.hid (foldRef_both z 63 k hlt hin)
            go_wp2_with fail
            go_round
            case rel => exact ⟨k + 1, by omega, by go_num, by rw [← H.out, ui_nat k (by omega), ui_nat_add k _ (by omega)]⟩
            case measure => simp [intOf]; omega
          · have H := Lib.hid (foldRef_one z 63 k hlt hin)
            go_wp2_with fail
            go_round
            case rel => exact ⟨k + 1, by omega, by go_num, by rw [← H.out, ui_nat k (by omega)]⟩
            case measure => simp [intOf]; omega
        · have : k = 64 := by omega
          subst this
          go_wp2_with fail
          go_ret
          exact ⟨ret_u64 (lowB_full _), rfl⟩
    · have h3 : 1 ≤ n := by omega
      have h4 : n ≤ 63 := by omega
      have h5 : 0 ≤ n := by omega
      rw [show cut63 n = n.toNat by unfold cut63; omega]
      go_enter Try.func36, Try.ntmps36
      go_wp2_with fail
      go_loop [5, 6] (fun o t => ∃ k : Nat, k ≤ 64 ∧ t = .int .i64 k ∧ o = .int .u64 (ui (lowB (z ^^^ z >>> n.toNat) k))) (fun _ t => 64 - (intOf t).toNat)
      case atStart => exact ⟨0, by omega, rfl, by rw [lowB_zero]; rfl⟩
      case round =>
        obtain ⟨k, hk, rfl, rfl⟩ := hrel
        by_cases hlt : k < 64
        · by_cases hin : k + n.toNat < 64
          · have H := Lib.hid (foldRef_both z n.toNat k hlt hin)
            go_wp2_with fail
            go_round
            case rel => exact ⟨k + 1, by omega, by go_num, by rw [← H.out, ofInt_nat n h5, ui_nat k (by omega), ui_nat_add k _ (by omega)]⟩
            case measure => simp [intOf]; omega
          · have H := Lib.hid (foldRef_one z n.toNat k hlt hin)
            go_wp2_with fail
            go_round
            case rel => exact ⟨k + 1, by omega, by go_num, by rw [← H.out, ui_nat k (by omega)]⟩
            case measure => simp [intOf]; omega
        · have : k = 64 := by omega
          subst this
          go_wp2_with fail
          go_ret
          exact ⟨ret_u64 (lowB_full _), rfl⟩
/-- back behind k rounds -/
def backK (a b c : Int) (x y z : BitVec 64) : Nat → BitVec 64
  | 0 => unfoldB z (cut63 c)
  | 1 => unfoldB (unfoldB z (cut63 c) * oddInv y) (cut63 b)
  | _ => unmixB (cut63 a) (cut63 b) (cut63 c) (oddInv x) (oddInv y) z
theorem refsplit_any (z : BitVec 64) (w : World) :
    Calls Try.prog 33 #[.int .u64 (ui z)] w fun e w' => e = .returned (.int .u64 (ui (splitB z))) ∧ w = w' := by
  go_enter Try.func33, Try.ntmps33
  go_wp2_with (go_at_call 36; refine (reffold_any _ _ _).mono ?_; rintro e w' ⟨rfl, rfl⟩)
  go_ret
  exact ⟨ret_u64 rfl, rfl⟩

theorem fold_word (h : BitVec 32) (n : Nat) : (foldB (h.setWidth 64) n).setWidth 32 = f32 n h := by
  unfold foldB f32; ext i hi
  simp
  intro h2; have := BitVec.lt_of_getLsbD h2; omega
end Go.Proofs.Ytekegcahjmnceaa
