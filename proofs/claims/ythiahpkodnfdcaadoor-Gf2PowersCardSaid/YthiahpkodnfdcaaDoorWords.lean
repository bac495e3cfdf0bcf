/- The walk of chapter 2's reference that compares two lists of words. No condition but on lengths. -/
import Derived.Test.YthiahpkodnfdcaaDoorRows
import Derived.Test.YthiahpkodnfdcaaDoorSl
import Derived.WalkKit
import Derived.WalkSpells
import Derived.WalkLawsBesides
import Derived.LoopTactic
import Derived.Deep.QuietTactic
import Derived.BigQuiet
import Derived.Lib.Hide
namespace Go.Proofs.YthiahpkodnfdcaaDoor
open Go.RowKit
theorem take_snoc_eq (xs ys : List (BitVec 64)) (k : Nat) (h1 : k < xs.length) (h2 : k < ys.length) (ht : xs.take k = ys.take k) (hq : xs[k] = ys[k]) : xs.take (k + 1) = ys.take (k + 1) := by
  rw [List.take_succ_eq_append_getElem h1, List.take_succ_eq_append_getElem h2, ht, hq]
theorem ret_bool {a b : Bool} (h : a = b) : Ending.returned (.bool a) = .returned (.bool b) := by rw [h]
theorem words_nil (va vb : Value) (ys : List (BitVec 64)) (w : World) (hx : SlV w va []) (hy : SlV w vb (vals ys)) :
    Calls Tryd.prog 25 #[va, vb] w fun e w' => e = .returned (.bool (decide ([] = ys))) ∧ Below w.heap.size w w' := by
  rcases hx.cases with ⟨_, ao, cap, rfl⟩ | ⟨b, o, cap, rfl, hpos, _⟩
  · rcases hy.cases with ⟨hy0, ao2, cap2, rfl⟩ | ⟨b2, o2, cap2, rfl, hpos2, hc2⟩
    · have : ys = [] := by simpa [vals] using hy0
      subst this
      clear hx hy hy0
      go_enter Tryd.func25, Tryd.ntmps25
      go_wp2_with fail
      go_loop [13] (fun i => i = .int .i64 0) (fun _ => 0)
      case atStart => rfl
      case round =>
        obtain rfl := hrel
        go_wp2_with fail
        go_ret
        exact ⟨ret_bool (by simp), Below.refl _ _⟩
    · rw [vals_length] at *
      have hlen : ((0 : Int) != (ys.length : Int)) = true := by rw [bne_iff_ne]; omega
      have hlen2 : ((0 : Int) == (ys.length : Int)) = false := by rw [beq_eq_false_iff_ne]; omega
      clear hx hy hc2
      go_enter Tryd.func25, Tryd.ntmps25
      go_wp2_with fail
      go_ret
      exact ⟨ret_bool (by cases ys with | nil => simp at hpos2 | cons a l => simp), Below.refl _ _⟩
  · simp at hpos
theorem words_any (va vb : Value) (xs ys : List (BitVec 64)) (w : World) (hx : SlV w va (vals xs)) (hy : SlV w vb (vals ys)) (hl : xs.length < 9223372036854775807) (hl2 : ys.length < 9223372036854775807) :
    Calls Tryd.prog 25 #[va, vb] w fun e w' => e = .returned (.bool (decide (xs = ys))) ∧ Below w.heap.size w w' := by
  rcases hx.cases with ⟨hx0, ao, cap, rfl⟩ | ⟨b, o, cap, rfl, hpos, hc⟩
  · have : xs = [] := by simpa [vals] using hx0
    subst this
    exact words_nil _ vb ys w hx hy
  · rw [vals_length] at *
    by_cases hlen : xs.length = ys.length
    · rcases hy.cases with ⟨hy0, ao2, cap2, rfl⟩ | ⟨b2, o2, cap2, rfl, hpos2, hc2⟩
      · exfalso
        have : ys = [] := by simpa [vals] using hy0
        have h0 : ys.length = 0 := by rw [this]; rfl
        omega
      · rw [vals_length] at *
        rw [hlen]
        go_enter Tryd.func25, Tryd.ntmps25
        go_wp2_with fail
        go_loopw [13] (fun i wr => ∃ k : Nat, k ≤ ys.length ∧ i = .int .i64 k ∧ xs.take k = ys.take k ∧ Below w.heap.size w wr) (fun i _ => ys.length - (intOf i).toNat)
        case atStart => exact ⟨0, by omega, rfl, rfl, Below.refl _ _⟩
        case round =>
          obtain ⟨k, hk, rfl, hT, hb⟩ := hrel
          have HT := Lib.hid hT
          clear hT
          by_cases hlt : k < ys.length
          · have c1 := hc k _ (vals_get xs k (by omega))
            have c2 := hc2 k _ (vals_get ys k hlt)
            rw [← hb.cell (p := ⟨b, o + k, none⟩) (World.block_lt_of_cell? w _ c1)] at c1
            rw [← hb.cell (p := ⟨b2, o2 + k, none⟩) (World.block_lt_of_cell? w _ c2)] at c2
            clear hc hc2 hx hy
            have hlt' : (k : Int) < (ys.length : Int) := by omega
            have hk' : (0 : Int) ≤ (k : Int) := by omega
            by_cases hq : xs[k]'(by omega) = ys[k]
            · have hq' : ((xs[k]'(by omega)) != ys[k]) = false := by simpa using hq
              have HQ := Lib.hid hq
              clear hq
              go_wp2_with fail
              go_quiet (fail)
              go_wp2_with fail
              go_roundw
              case rel => exact ⟨k + 1, by omega, by go_num, take_snoc_eq xs ys k (by omega) hlt HT.out HQ.out, below_drewN hb _⟩
              case measure => simp [intOf]; omega
            · have hq' : ((xs[k]'(by omega)) != ys[k]) = true := by simpa using hq
              have HQ := Lib.hid hq
              clear hq
              go_wp2_with fail
              go_quiet (fail)
              go_wp2_with fail
              go_ret
              refine ⟨ret_bool (Eq.symm (decide_eq_false ?_)), below_drewN hb _⟩
              intro h
              subst h
              exact HQ.out rfl
          · have hk2 : k = ys.length := by omega
            subst hk2
            go_wp2_with fail
            go_ret
            refine ⟨ret_bool (Eq.symm (decide_eq_true ?_)), hb⟩
            have := HT.out
            rwa [List.take_of_length_le (by omega), List.take_of_length_le (by omega)] at this
    · rcases hy with ⟨hy0, ao2, cap2, rfl⟩ | ⟨b2, o2, cap2, rfl, hc2⟩
      · have hz : ys = [] := by simpa [vals] using hy0
        subst hz
        have h1 : ((xs.length : Int) != 0) = true := by rw [bne_iff_ne]; omega
        clear hc hx
        go_enter Tryd.func25, Tryd.ntmps25
        go_wp2_with fail
        go_ret
        exact ⟨ret_bool (Eq.symm (decide_eq_false (by intro h; rw [h] at hpos; simp at hpos))), Below.refl _ _⟩
      · rw [vals_length] at *
        have h1 : ((xs.length : Int) != (ys.length : Int)) = true := by rw [bne_iff_ne]; omega
        clear hc hx hc2
        go_enter Tryd.func25, Tryd.ntmps25
        go_wp2_with fail
        go_ret
        exact ⟨ret_bool (Eq.symm (decide_eq_false (by intro h; rw [h] at hlen; exact hlen rfl))), Below.refl _ _⟩
end Go.Proofs.YthiahpkodnfdcaaDoor
