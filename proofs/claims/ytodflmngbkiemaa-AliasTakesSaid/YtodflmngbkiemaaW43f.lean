/- The walks of the closures of chapter 43's Build and of the reference's search: the first item of a kind without a column. No condition but on lengths. -/
import Derived.Test.YtodflmngbkiemaaPlAlB
namespace Go.Proofs.Ytodflmngbkiemaa
open Go.RowKit
theorem less_any (x T : BitVec 64) (B : Nat) (w : World) (h : w.cell? ⟨B, 0, none⟩ = some (.int .u64 (ui T))) :
    Calls Try.prog 49 #[.int .u64 (ui x), .pointer (some ⟨B, 0, none⟩)] w fun e w' => e = .returned (.bool (ltP T x)) ∧ w = w' := by
  unfold ltP
  go_enter Try.func49, Try.ntmps49
  go_wp2_with fail
  go_ret
  exact ⟨rfl, rfl⟩
theorem more_any (x T : BitVec 64) (B : Nat) (w : World) (h : w.cell? ⟨B, 0, none⟩ = some (.int .u64 (ui T))) :
    Calls Try.prog 50 #[.int .u64 (ui x), .pointer (some ⟨B, 0, none⟩)] w fun e w' => e = .returned (.bool (gtP T x)) ∧ w = w' := by
  unfold gtP
  go_enter Try.func50, Try.ntmps50
  go_wp2_with fail
  go_ret
  exact ⟨rfl, rfl⟩
theorem blk_vals {w : World} {b : Nat} {hs : List (BitVec 64)} (h : Blk w b 24 (vals hs).toArray) (k : Nat) (hk : k < hs.length) : w.cell? ⟨b, k, none⟩ = some (.int .u64 (ui (hs.getD k 0#64))) := by
  rw [h.cell k, getD_at hs k _ hk, List.getElem?_toArray]
  exact vals_get hs k hk
theorem blk_bools {w : World} {b : Nat} {ds : List Bool} (h : Blk w b 4 (bools ds).toArray) (k : Nat) (hk : k < ds.length) : w.cell? ⟨b, k, none⟩ = some (.bool (ds.getD k true)) := by
  rw [h.cell k, getD_at ds k _ hk, List.getElem?_toArray]
  exact bools_get ds k hk
theorem blk_ints {w : World} {b : Nat} {ls : List Int} (h : Blk w b 3 (ints ls).toArray) (k : Nat) (hk : k < ls.length) : w.cell? ⟨b, k, none⟩ = some (.int .i64 (ls.getD k 0)) := by
  rw [h.cell k, getD_at ls k _ hk, List.getElem?_toArray]
  exact ints_get ls k hk
theorem first_lt (T : BitVec 64) (hs : List (BitVec 64)) (ds : List Bool) (n B Bh Bd bh bd cap cap2 : Nat) (w : World) (ht : w.cell? ⟨B, 0, none⟩ = some (.int .u64 (ui T))) (hh : w.cell? ⟨Bh, 0, none⟩ = some (.slice (some ⟨bh, 0, none⟩) n cap)) (hd : w.cell? ⟨Bd, 0, none⟩ = some (.slice (some ⟨bd, 0, none⟩) n cap2)) (H : Blk w bh 24 (vals hs).toArray) (D : Blk w bd 4 (bools ds).toArray) (hl : hs.length = n) (hl2 : ds.length = n) (hn : n ≤ 256) :
    Calls Try.prog 48 #[.func (.func 49) #[] #[.pointer (some ⟨B, 0, none⟩)], .pointer (some ⟨Bh, 0, none⟩), .pointer (some ⟨Bd, 0, none⟩)] w fun e w' => e = .returned (.int .i64 (posI (fidx (ltP T) hs ds))) ∧ w = w' := by
  have HH := Lib.hid H
  have HD := Lib.hid D
  clear H D
  rcases hf : fidx (ltP T) hs ds with _ | j
  · have HF := Lib.hid (fidx_none hf)
    clear hf
    go_enter Try.func48, Try.ntmps48
    go_wp2_with fail
    go_loop [9] (fun i => ∃ k : Nat, k ≤ n ∧ i = .int .i64 k) (fun i => n - (intOf i).toNat)
    case atStart => exact ⟨0, by omega, rfl⟩
    case round =>
      obtain ⟨k, hk, rfl⟩ := hrel
      by_cases hlt : k < n
      · have c1 := blk_vals HH.out k (by omega)
        have c2 := blk_bools HD.out k (by omega)
        have hlt' : (k : Int) < (n : Int) := by omega
        have hk' : (0 : Int) ≤ (k : Int) := by omega
        cases hdk : ds.getD k true with
        | true =>
          rw [hdk] at c2
          go_wp2_with fail
          go_round
          case rel => exact ⟨k + 1, by omega, by go_num⟩
          case measure => simp [intOf]; omega
        | false =>
          rw [hdk] at c2
          have hp : ltP T (hs.getD k 0#64) = false := HF.out k (by omega) hdk
          generalize hs.getD k 0#64 = x at *
          go_wp2_with fail
          refine (less_any x T B _ ht).mono ?_
          rintro e w' ⟨rfl, rfl⟩
          go_wp2_with fail
          go_round
          case rel => exact ⟨k + 1, by omega, by go_num⟩
          case measure => simp [intOf]; omega
      · have hk2 : k = n := by omega
        subst hk2
        clear hlt
        go_wp2_with fail
        go_ret
        exact ⟨rfl, rfl⟩
  · obtain ⟨j1, j2, j3, hf2⟩ := fidx_some hf
    have HF := Lib.hid hf2
    have HJ := Lib.hid (And.intro j2 j3)
    clear hf hf2 j2 j3
    go_enter Try.func48, Try.ntmps48
    go_wp2_with fail
    go_loop [9] (fun i => ∃ k : Nat, k ≤ j ∧ i = .int .i64 k) (fun i => n - (intOf i).toNat)
    case atStart => exact ⟨0, by omega, rfl⟩
    case round =>
      obtain ⟨k, hk, rfl⟩ := hrel
      by_cases hlt : k < j
      · have c1 := blk_vals HH.out k (by omega)
        have c2 := blk_bools HD.out k (by omega)
        have hlt' : (k : Int) < (n : Int) := by omega
        have hk' : (0 : Int) ≤ (k : Int) := by omega
        cases hdk : ds.getD k true with
        | true =>
          rw [hdk] at c2
          go_wp2_with fail
          go_round
          case rel => exact ⟨k + 1, by omega, by go_num⟩
          case measure => simp [intOf]; omega
        | false =>
          rw [hdk] at c2
          have hp : ltP T (hs.getD k 0#64) = false := HF.out k hlt hdk
          generalize hs.getD k 0#64 = x at *
          go_wp2_with fail
          refine (less_any x T B _ ht).mono ?_
          rintro e w' ⟨rfl, rfl⟩
          go_wp2_with fail
          go_round
          case rel => exact ⟨k + 1, by omega, by go_num⟩
          case measure => simp [intOf]; omega
      · have hk2 : k = j := by omega
        subst hk2
        clear hlt
        have c1 := blk_vals HH.out k (by omega)
        have c2 := blk_bools HD.out k (by omega)
        rw [HJ.out.1] at c2
        have hlt' : (k : Int) < (n : Int) := by omega
        have hk' : (0 : Int) ≤ (k : Int) := by omega
        have hp := HJ.out.2
        clear HF HJ
        generalize hs.getD k 0#64 = x at *
        go_wp2_with fail
        refine (less_any x T B _ ht).mono ?_
        rintro e w' ⟨rfl, rfl⟩
        go_wp2_with fail
        go_ret
        exact ⟨rfl, rfl⟩
theorem first_gt (T : BitVec 64) (hs : List (BitVec 64)) (ds : List Bool) (n B Bh Bd bh bd cap cap2 : Nat) (w : World) (ht : w.cell? ⟨B, 0, none⟩ = some (.int .u64 (ui T))) (hh : w.cell? ⟨Bh, 0, none⟩ = some (.slice (some ⟨bh, 0, none⟩) n cap)) (hd : w.cell? ⟨Bd, 0, none⟩ = some (.slice (some ⟨bd, 0, none⟩) n cap2)) (H : Blk w bh 24 (vals hs).toArray) (D : Blk w bd 4 (bools ds).toArray) (hl : hs.length = n) (hl2 : ds.length = n) (hn : n ≤ 256) :
    Calls Try.prog 48 #[.func (.func 50) #[] #[.pointer (some ⟨B, 0, none⟩)], .pointer (some ⟨Bh, 0, none⟩), .pointer (some ⟨Bd, 0, none⟩)] w fun e w' => e = .returned (.int .i64 (posI (fidx (gtP T) hs ds))) ∧ w = w' := by
  have HH := Lib.hid H
  have HD := Lib.hid D
  clear H D
  rcases hf : fidx (gtP T) hs ds with _ | j
  · have HF := Lib.hid (fidx_none hf)
    clear hf
    go_enter Try.func48, Try.ntmps48
    go_wp2_with fail
    go_loop [9] (fun i => ∃ k : Nat, k ≤ n ∧ i = .int .i64 k) (fun i => n - (intOf i).toNat)
    case atStart => exact ⟨0, by omega, rfl⟩
    case round =>
      obtain ⟨k, hk, rfl⟩ := hrel
      by_cases hlt : k < n
      · have c1 := blk_vals HH.out k (by omega)
        have c2 := blk_bools HD.out k (by omega)
        have hlt' : (k : Int) < (n : Int) := by omega
        have hk' : (0 : Int) ≤ (k : Int) := by omega
        cases hdk : ds.getD k true with
        | true =>
          rw [hdk] at c2
          go_wp2_with fail
          go_round
          case rel => exact ⟨k + 1, by omega, by go_num⟩
          case measure => simp [intOf]; omega
        | false =>
          rw [hdk] at c2
          have hp : gtP T (hs.getD k 0#64) = false := HF.out k (by omega) hdk
          generalize hs.getD k 0#64 = x at *
          go_wp2_with fail
          refine (more_any x T B _ ht).mono ?_
          rintro e w' ⟨rfl, rfl⟩
          go_wp2_with fail
          go_round
          case rel => exact ⟨k + 1, by omega, by go_num⟩
          case measure => simp [intOf]; omega
      · have hk2 : k = n := by omega
        subst hk2
        clear hlt
        go_wp2_with fail
        go_ret
        exact ⟨rfl, rfl⟩
  · obtain ⟨j1, j2, j3, hf2⟩ := fidx_some hf
    have HF := Lib.hid hf2
    have HJ := Lib.hid (And.intro j2 j3)
    clear hf hf2 j2 j3
    go_enter Try.func48, Try.ntmps48
    go_wp2_with fail
    go_loop [9] (fun i => ∃ k : Nat, k ≤ j ∧ i = .int .i64 k) (fun i => n - (intOf i).toNat)
    case atStart => exact ⟨0, by omega, rfl⟩
    case round =>
      obtain ⟨k, hk, rfl⟩ := hrel
      by_cases hlt : k < j
      · have c1 := blk_vals HH.out k (by omega)
        have c2 := blk_bools HD.out k (by omega)
        have hlt' : (k : Int) < (n : Int) := by omega
        have hk' : (0 : Int) ≤ (k : Int) := by omega
        cases hdk : ds.getD k true with
        | true =>
          rw [hdk] at c2
          go_wp2_with fail
          go_round
          case rel => exact ⟨k + 1, by omega, by go_num⟩
          case measure => simp [intOf]; omega
        | false =>
          rw [hdk] at c2
          have hp : gtP T (hs.getD k 0#64) = false := HF.out k hlt hdk
          generalize hs.getD k 0#64 = x at *
          go_wp2_with fail
          refine (more_any x T B _ ht).mono ?_
          rintro e w' ⟨rfl, rfl⟩
          go_wp2_with fail
          go_round
          case rel => exact ⟨k + 1, by omega, by go_num⟩
          case measure => simp [intOf]; omega
      · have hk2 : k = j := by omega
        subst hk2
        clear hlt
        have c1 := blk_vals HH.out k (by omega)
        have c2 := blk_bools HD.out k (by omega)
        rw [HJ.out.1] at c2
        have hlt' : (k : Int) < (n : Int) := by omega
        have hk' : (0 : Int) ≤ (k : Int) := by omega
        have hp := HJ.out.2
        clear HF HJ
        generalize hs.getD k 0#64 = x at *
        go_wp2_with fail
        refine (more_any x T B _ ht).mono ?_
        rintro e w' ⟨rfl, rfl⟩
        go_wp2_with fail
        go_ret
        exact ⟨rfl, rfl⟩
theorem find_lt (T : BitVec 64) (hs : List (BitVec 64)) (ds : List Bool) (n bh bd cap cap2 : Nat) (w : World) (H : ∀ k, k < n → w.cell? ⟨bh, k, none⟩ = some (.int .u64 (ui (hs.getD k 0#64)))) (D : ∀ k, k < n → w.cell? ⟨bd, k, none⟩ = some (.bool (ds.getD k true))) (hl : hs.length = n) (hn : n ≤ 256) :
    Calls Try.prog 52 #[.slice (some ⟨bh, 0, none⟩) n cap, .slice (some ⟨bd, 0, none⟩) n cap2, .int .u64 (ui T), .bool false] w fun e w' => e = .returned (.int .i64 (posI (fidx (ltP T) hs ds))) ∧ w = w' := by
  have HH := Lib.hid H
  have HD := Lib.hid D
  clear H D
  rcases hf : fidx (ltP T) hs ds with _ | j
  · have HF := Lib.hid (fidx_none hf)
    clear hf
    go_enter Try.func52, Try.ntmps52
    go_wp2_with fail
    go_loop [13] (fun i => ∃ k : Nat, k ≤ n ∧ i = .int .i64 k) (fun i => n - (intOf i).toNat)
    case atStart => exact ⟨0, by omega, rfl⟩
    case round =>
      obtain ⟨k, hk, rfl⟩ := hrel
      by_cases hlt : k < n
      · have c1 := HH.out k (by omega)
        have c2 := HD.out k (by omega)
        have hlt' : (k : Int) < (n : Int) := by omega
        have hk' : (0 : Int) ≤ (k : Int) := by omega
        cases hdk : ds.getD k true with
        | true =>
          rw [hdk] at c2
          go_wp2_with fail
          go_round
          case rel => exact ⟨k + 1, by omega, by go_num⟩
          case measure => simp [intOf]; omega
        | false =>
          rw [hdk] at c2
          have hp : ¬ ui (hs.getD k 0#64) < ui T := by
            have := HF.out k (by omega) hdk
            simpa [ltP] using this
          generalize hs.getD k 0#64 = x at *
          go_wp2_with fail
          go_round
          case rel => exact ⟨k + 1, by omega, by go_num⟩
          case measure => simp [intOf]; omega
      · have hk2 : k = n := by omega
        subst hk2
        clear hlt
        go_wp2_with fail
        go_ret
        exact ⟨rfl, rfl⟩
  · obtain ⟨j1, j2, j3, hf2⟩ := fidx_some hf
    have HF := Lib.hid hf2
    have hp' : ui (hs.getD j 0#64) < ui T := by simpa [ltP] using j3
    have HJ := Lib.hid (And.intro j2 hp')
    clear hf hf2 j2 j3 hp'
    go_enter Try.func52, Try.ntmps52
    go_wp2_with fail
    go_loop [13] (fun i => ∃ k : Nat, k ≤ j ∧ i = .int .i64 k) (fun i => n - (intOf i).toNat)
    case atStart => exact ⟨0, by omega, rfl⟩
    case round =>
      obtain ⟨k, hk, rfl⟩ := hrel
      by_cases hlt : k < j
      · have c1 := HH.out k (by omega)
        have c2 := HD.out k (by omega)
        have hlt' : (k : Int) < (n : Int) := by omega
        have hk' : (0 : Int) ≤ (k : Int) := by omega
        cases hdk : ds.getD k true with
        | true =>
          rw [hdk] at c2
          go_wp2_with fail
          go_round
          case rel => exact ⟨k + 1, by omega, by go_num⟩
          case measure => simp [intOf]; omega
        | false =>
          rw [hdk] at c2
          have hp : ¬ ui (hs.getD k 0#64) < ui T := by
            have := HF.out k hlt hdk
            simpa [ltP] using this
          generalize hs.getD k 0#64 = x at *
          go_wp2_with fail
          go_round
          case rel => exact ⟨k + 1, by omega, by go_num⟩
          case measure => simp [intOf]; omega
      · have hk2 : k = j := by omega
        subst hk2
        clear hlt
        have c1 := HH.out k (by omega)
        have c2 := HD.out k (by omega)
        rw [HJ.out.1] at c2
        have hlt' : (k : Int) < (n : Int) := by omega
        have hk' : (0 : Int) ≤ (k : Int) := by omega
        have hp := HJ.out.2
        clear HF HJ
        generalize hs.getD k 0#64 = x at *
        go_wp2_with fail
        go_ret
        exact ⟨rfl, rfl⟩
theorem find_gt (T : BitVec 64) (hs : List (BitVec 64)) (ds : List Bool) (n bh bd cap cap2 : Nat) (w : World) (H : ∀ k, k < n → w.cell? ⟨bh, k, none⟩ = some (.int .u64 (ui (hs.getD k 0#64)))) (D : ∀ k, k < n → w.cell? ⟨bd, k, none⟩ = some (.bool (ds.getD k true))) (hl : hs.length = n) (hn : n ≤ 256) :
    Calls Try.prog 52 #[.slice (some ⟨bh, 0, none⟩) n cap, .slice (some ⟨bd, 0, none⟩) n cap2, .int .u64 (ui T), .bool true] w fun e w' => e = .returned (.int .i64 (posI (fidx (gtP T) hs ds))) ∧ w = w' := by
  have HH := Lib.hid H
  have HD := Lib.hid D
  clear H D
  rcases hf : fidx (gtP T) hs ds with _ | j
  · have HF := Lib.hid (fidx_none hf)
    clear hf
    go_enter Try.func52, Try.ntmps52
    go_wp2_with fail
    go_loop [13] (fun i => ∃ k : Nat, k ≤ n ∧ i = .int .i64 k) (fun i => n - (intOf i).toNat)
    case atStart => exact ⟨0, by omega, rfl⟩
    case round =>
      obtain ⟨k, hk, rfl⟩ := hrel
      by_cases hlt : k < n
      · have c1 := HH.out k (by omega)
        have c2 := HD.out k (by omega)
        have hlt' : (k : Int) < (n : Int) := by omega
        have hk' : (0 : Int) ≤ (k : Int) := by omega
        cases hdk : ds.getD k true with
        | true =>
          rw [hdk] at c2
          go_wp2_with fail
          go_round
          case rel => exact ⟨k + 1, by omega, by go_num⟩
          case measure => simp [intOf]; omega
        | false =>
          rw [hdk] at c2
          have hp : ¬ ui T < ui (hs.getD k 0#64) := by
            have := HF.out k (by omega) hdk
            simpa [gtP] using this
          generalize hs.getD k 0#64 = x at *
          go_wp2_with fail
          go_round
          case rel => exact ⟨k + 1, by omega, by go_num⟩
          case measure => simp [intOf]; omega
      · have hk2 : k = n := by omega
        subst hk2
        clear hlt
        go_wp2_with fail
        go_ret
        exact ⟨rfl, rfl⟩
  · obtain ⟨j1, j2, j3, hf2⟩ := fidx_some hf
    have HF := Lib.hid hf2
    have hp' : ui T < ui (hs.getD j 0#64) := by simpa [gtP] using j3
    have HJ := Lib.hid (And.intro j2 hp')
    clear hf hf2 j2 j3 hp'
    go_enter Try.func52, Try.ntmps52
    go_wp2_with fail
    go_loop [13] (fun i => ∃ k : Nat, k ≤ j ∧ i = .int .i64 k) (fun i => n - (intOf i).toNat)
    case atStart => exact ⟨0, by omega, rfl⟩
    case round =>
      obtain ⟨k, hk, rfl⟩ := hrel
      by_cases hlt : k < j
      · have c1 := HH.out k (by omega)
        have c2 := HD.out k (by omega)
        have hlt' : (k : Int) < (n : Int) := by omega
        have hk' : (0 : Int) ≤ (k : Int) := by omega
        cases hdk : ds.getD k true with
        | true =>
          rw [hdk] at c2
          go_wp2_with fail
          go_round
          case rel => exact ⟨k + 1, by omega, by go_num⟩
          case measure => simp [intOf]; omega
        | false =>
          rw [hdk] at c2
          have hp : ¬ ui T < ui (hs.getD k 0#64) := by
            have := HF.out k hlt hdk
            simpa [gtP] using this
          generalize hs.getD k 0#64 = x at *
          go_wp2_with fail
          go_round
          case rel => exact ⟨k + 1, by omega, by go_num⟩
          case measure => simp [intOf]; omega
      · have hk2 : k = j := by omega
        subst hk2
        clear hlt
        have c1 := HH.out k (by omega)
        have c2 := HD.out k (by omega)
        rw [HJ.out.1] at c2
        have hlt' : (k : Int) < (n : Int) := by omega
        have hk' : (0 : Int) ≤ (k : Int) := by omega
        have hp := HJ.out.2
        clear HF HJ
        generalize hs.getD k 0#64 = x at *
        go_wp2_with fail
        go_ret
        exact ⟨rfl, rfl⟩
end Go.Proofs.Ytodflmngbkiemaa
