/- The walks of chapter 9's statements XoshiroBack and XoshiroLine: each returns true. No condition. -/
import Derived.Test.YtekegcahjmnceaaL09
namespace Go.Proofs.Ytekegcahjmnceaa
open Go.RowKit
theorem run_negz (s : S4) (k : Nat) (hk : k ≤ 300) (w : World) :
    Calls Try.prog 10 #[.agg #[.int .u64 (ui s.a), .int .u64 (ui s.b), .int .u64 (ui s.c), .int .u64 (ui s.d)], .int .i64 (-(k : Int))] w fun e w' => e = .returned (.agg #[.int .u64 (ui (itS xsBack k s).a), .int .u64 (ui (itS xsBack k s).b), .int .u64 (ui (itS xsBack k s).c), .int .u64 (ui (itS xsBack k s).d)]) ∧ Below w.heap.size w w' := by
  rcases Nat.eq_zero_or_pos k with rfl | h
  · exact run_pos s 0 (by omega) w
  · exact run_neg s k hk h w
def itZ (n : Int) (s : S4) : S4 := if 0 ≤ n then itS xsStep n.toNat s else itS xsBack (-n).toNat s
@[go_sem] theorem itZ_pos (k : Nat) (s : S4) : itZ (k : Int) s = itS xsStep k s := by simp [itZ]
@[go_sem] theorem itZ_neg (k : Nat) (s : S4) : itZ (-(k : Int)) s = itS xsBack k s := by
  rcases Nat.eq_zero_or_pos k with rfl | h
  · rfl
  · rw [itZ, if_neg (by omega)]; simp
theorem run_z (s : S4) (n : Int) (h : -300 ≤ n ∧ n ≤ 300) (w : World) :
    Calls Try.prog 10 #[.agg #[.int .u64 (ui s.a), .int .u64 (ui s.b), .int .u64 (ui s.c), .int .u64 (ui s.d)], .int .i64 n] w fun e w' => e = .returned (.agg #[.int .u64 (ui (itZ n s).a), .int .u64 (ui (itZ n s).b), .int .u64 (ui (itZ n s).c), .int .u64 (ui (itZ n s).d)]) ∧ Below w.heap.size w w' := by
  by_cases h0 : 0 ≤ n
  · obtain ⟨k, rfl⟩ : ∃ k : Nat, n = (k : Int) := ⟨n.toNat, by omega⟩
    rw [itZ_pos]; exact run_pos s k (by omega) w
  · obtain ⟨k, rfl⟩ : ∃ k : Nat, n = -(k : Int) := ⟨(-n).toNat, by omega⟩
    rw [itZ_neg]; exact run_negz s k (by omega) w
@[go_sem] theorem wrap_negF (k : Fin 301) : IntKind.i64.wrap (-((k.val : Nat) : Int)) = -((k.val : Nat) : Int) := by
  have := k.isLt
  simp [IntKind.wrap, IntKind.signed, IntKind.bits]; omega
theorem back_walk (s : S4) (n : Int) (w : World) :
    Calls Try.prog 3 #[.agg #[.int .u64 (ui s.a), .int .u64 (ui s.b), .int .u64 (ui s.c), .int .u64 (ui s.d)], .int .i64 n] w fun e w' => e = .returned (.bool true) ∧ Below w.heap.size w w' := by
  go_enter Try.func3, Try.ntmps3
  go_wp2_with fail
  refine (awake09_any _).mono ?_
  rintro e w1 ⟨rfl, b1⟩
  have hS := hs_below (hs_new w s _) b1
  obtain ⟨c0, c1, c2, c3, hlt, hB⟩ := id hS
  go_wp2_with fail
  go_region_held3 (fun w' => w'.cell? ⟨w.heap.size, 0, none⟩ = some (.int .u64 (ui s.a)) ∧ w'.cell? ⟨w.heap.size, 1, none⟩ = some (.int .u64 (ui s.b)) ∧ w'.cell? ⟨w.heap.size, 2, none⟩ = some (.int .u64 (ui s.c)) ∧ w'.cell? ⟨w.heap.size, 3, none⟩ = some (.int .u64 (ui s.d)) ∧ w.heap.size < w'.heap.size ∧ Below w.heap.size w w') (first | (apply hs_belowb; assumption; assumption) | exact hs_drew hS)
    (first
      | (go_at_call 9; refine (xback_any _ _).mono ?_; rintro e w' ⟨rfl, b⟩)
      | (go_at_call 8; refine (ref_step _ _).mono ?_; rintro e w' ⟨rfl, b⟩))
  rename_i wa ba hSa
  have hSa : HS w s _ := hSa
  obtain ⟨d0, d1, d2, d3, hlt2, hB2⟩ := id hSa
  by_cases h1 : n < 0
  · go_wp2_with fail
    go_ret
    exact ⟨rfl, hB2⟩
  · by_cases h2 : 300 < n
    · go_wp2_with fail
      go_ret
      exact ⟨rfl, hB2⟩
    · obtain ⟨k, rfl⟩ : ∃ k : Fin 301, n = ((k.val : Nat) : Int) := ⟨⟨n.toNat, by omega⟩, by simp; omega⟩
      have hk : k.val ≤ 300 := by have := k.isLt; omega
      go_wp2_with fail
      go_region_held3 (fun w' => w'.cell? ⟨w.heap.size, 0, none⟩ = some (.int .u64 (ui s.a)) ∧ w'.cell? ⟨w.heap.size, 1, none⟩ = some (.int .u64 (ui s.b)) ∧ w'.cell? ⟨w.heap.size, 2, none⟩ = some (.int .u64 (ui s.c)) ∧ w'.cell? ⟨w.heap.size, 3, none⟩ = some (.int .u64 (ui s.d)) ∧ w.heap.size < w'.heap.size ∧ Below w.heap.size w w') (first | (apply hs_belowb; assumption; assumption) | exact hs_drew hSa)
        (first
          | (go_at_call 11; refine (refsteps_any9 _ _ hk _).mono ?_; rintro e w' ⟨rfl, b⟩)
          | (go_at_call 10; refine (run_z _ _ (by omega) _).mono ?_; rintro e w' ⟨rfl, b⟩))
      go_wp2_with fail
      go_ret
      refine ⟨rfl, ?_⟩
      apply hs_last (s := s)
      assumption
end Go.Proofs.Ytekegcahjmnceaa
