/- Walks of chapter 9's functions (xoshiro256). No condition. -/
import Derived.Test.YtekegcahjmnceaaW6
import Derived.Test.YtekegcahjmnceaaPlX
import Derived.Deep.QuietTactic
import Derived.BigQuiet
import Derived.Deep.RegionHeld3
import Derived.Laws.Pointers
import Derived.Laws.StructEq
namespace Go.Proofs.Ytekegcahjmnceaa
open Go.RowKit
theorem st_step (s : S4) (w : World) :
    Calls Try.prog 23 #[.agg #[.int .u64 (ui s.a), .int .u64 (ui s.b), .int .u64 (ui s.c), .int .u64 (ui s.d)]] w fun e w' => e = .returned (.agg #[.int .u64 (ui (xsStep s).a), .int .u64 (ui (xsStep s).b), .int .u64 (ui (xsStep s).c), .int .u64 (ui (xsStep s).d)]) ∧ Below w.heap.size w w' := by
  go_enter Try.func23, Try.ntmps23
  go_wp2_with (go_at_call 24; refine (rot64_any _ _ _).mono ?_; rintro e w' ⟨rfl, rfl⟩)
  refine bodyPost_ret (v := .agg #[.int .u64 (ui (s.a ^^^ (s.d ^^^ s.b))), .int .u64 (ui (s.b ^^^ (s.c ^^^ s.a))), .int .u64 (ui (s.c ^^^ s.a ^^^ s.b <<< 17)), .int .u64 (ui ((s.d ^^^ s.b).rotateLeft 45))]) (by simp [results, Try.results23, go_sem]) rfl ⟨rfl, ?_⟩
  exact ((Below.refl _ _).alloc (Nat.le_refl _) _).alloc (by simp) _
theorem st_back (s : S4) (w : World) :
    Calls Try.prog 22 #[.agg #[.int .u64 (ui s.a), .int .u64 (ui s.b), .int .u64 (ui s.c), .int .u64 (ui s.d)]] w fun e w' => e = .returned (.agg #[.int .u64 (ui (xsBack s).a), .int .u64 (ui (xsBack s).b), .int .u64 (ui (xsBack s).c), .int .u64 (ui (xsBack s).d)]) ∧ Below w.heap.size w w' := by
  go_enter Try.func22, Try.ntmps22
  go_wp2_with (go_at_call 24; refine (rot64_any _ _ _).mono ?_; rintro e w' ⟨rfl, rfl⟩)
  refine bodyPost_ret (v := .agg #[.int .u64 (ui (s.a ^^^ s.d.rotateLeft 19)), .int .u64 (ui (s.b ^^^ s.c ^^^ (s.b ^^^ s.c) <<< 17 ^^^ (s.b ^^^ s.c) <<< 34 ^^^ (s.b ^^^ s.c) <<< 51)), .int .u64 (ui (s.b ^^^ (s.b ^^^ s.c ^^^ (s.b ^^^ s.c) <<< 17 ^^^ (s.b ^^^ s.c) <<< 34 ^^^ (s.b ^^^ s.c) <<< 51) ^^^ (s.a ^^^ s.d.rotateLeft 19))), .int .u64 (ui (s.d.rotateLeft 19 ^^^ (s.b ^^^ s.c ^^^ (s.b ^^^ s.c) <<< 17 ^^^ (s.b ^^^ s.c) <<< 34 ^^^ (s.b ^^^ s.c) <<< 51)))]) (by simp [results, Try.results22, go_sem]) rfl ⟨rfl, ?_⟩
  exact ((Below.refl _ _).alloc (Nat.le_refl _) _).alloc (by simp) _
theorem mul17 (x : BitVec 64) : x * 131072#64 = x <<< 17 := by
  apply BitVec.eq_of_toNat_eq; simp [Nat.shiftLeft_eq]
theorem ref_step (s : S4) (w : World) :
    Calls Try.prog 8 #[.agg #[.int .u64 (ui s.a), .int .u64 (ui s.b), .int .u64 (ui s.c), .int .u64 (ui s.d)]] w fun e w' => e = .returned (.agg #[.int .u64 (ui (xsStep s).a), .int .u64 (ui (xsStep s).b), .int .u64 (ui (xsStep s).c), .int .u64 (ui (xsStep s).d)]) ∧ Below w.heap.size w w' := by
  go_enter Try.func8, Try.ntmps8
  go_wp2_with fail
  go_region_held3 (fun w' => w'.cell? ⟨w.heap.size, 0, none⟩ = some (.int .u64 (ui s.a)) ∧ w'.cell? ⟨w.heap.size, 1, none⟩ = some (.int .u64 (ui s.b)) ∧ w'.cell? ⟨w.heap.size, 2, none⟩ = some (.int .u64 (ui s.c)) ∧ w'.cell? ⟨w.heap.size, 3, none⟩ = some (.int .u64 (ui s.d))) (simp [go_sem, World.cell?_alloc_past])
    (first
      | (go_at_call 21; refine (refrot64_any _ _ _).mono ?_; rintro e w' ⟨rfl, rfl⟩))
  go_wp2_with fail
  refine bodyPost_ret (v := .agg #[.int .u64 (ui (s.a ^^^ (s.d ^^^ s.b))), .int .u64 (ui (s.b ^^^ (s.c ^^^ s.a))), .int .u64 (ui (s.c ^^^ s.a ^^^ s.b * 131072#64)), .int .u64 (ui ((s.d ^^^ s.b).rotateLeft 45))]) (by simp [results, Try.results8, go_sem]) rfl ⟨by rw [mul17]; rfl, ?_⟩
  exact (((Below.refl _ _).alloc (Nat.le_refl _) _).alloc (by simp) _).drew
/-- two states alike -/
def eq4B (s t : S4) : Bool := ui s.a == ui t.a && ui s.b == ui t.b && ui s.c == ui t.c && ui s.d == ui t.d
theorem eq4B_iff (s t : S4) : eq4B s t = true ↔ s = t := by
  obtain ⟨a, b, c, d⟩ := s; obtain ⟨a', b', c', d'⟩ := t
  unfold eq4B
  rw [Bool.and_eq_true, Bool.and_eq_true, Bool.and_eq_true, beq_iff_eq, beq_iff_eq, beq_iff_eq, beq_iff_eq, ui_inj, ui_inj, ui_inj, ui_inj]
  simp only [S4.mk.injEq]
  constructor
  · rintro ⟨⟨⟨h1, h2⟩, h3⟩, h4⟩; exact ⟨h1, h2, h3, h4⟩
  · rintro ⟨h1, h2, h3, h4⟩; exact ⟨⟨⟨h1, h2⟩, h3⟩, h4⟩
theorem eq4B_self (s : S4) : eq4B s s = true := (eq4B_iff s s).2 rfl
theorem run_eq4 (s t : S4) (w : World) : (Op.equalIn 10000 23 (.agg #[.int .u64 (ui s.a), .int .u64 (ui s.b), .int .u64 (ui s.c), .int .u64 (ui s.d)]) (.agg #[.int .u64 (ui t.a), .int .u64 (ui t.b), .int .u64 (ui t.c), .int .u64 (ui t.d)])).run Try.prog w = .ok (eq4B s t) w := by
  unfold eq4B
  have u3 := Try.underlying22
  have a3 := Try.isAgg22
  have z3 := Try.sizeOf22
  rw [show (10000 : Nat) = 9999 + 1 from rfl, Op.equalIn]
  simp only [Sem.run_bind, run_underlying Try.underlying23, Result.andThen_ok]
  simp only [Std.Legacy.Range.forIn_eq_forIn_range', Std.Legacy.Range.size, Nat.sub_zero, Nat.add_sub_cancel, Nat.div_one, List.range'_succ, List.range'_zero, List.forIn_cons, List.forIn_nil]
  go_simp
  by_cases h1 : s.a = t.a <;> by_cases h2 : s.b = t.b <;> by_cases h3 : s.c = t.c <;> by_cases h4 : s.d = t.d <;> simp [h1, h2, h3, h4]
/-- the state of zeros -/
def zero4 : S4 := ⟨0#64, 0#64, 0#64, 0#64⟩
theorem run_eq4z (s : S4) (w : World) : (Op.equalIn 10000 23 (.agg #[.int .u64 (ui s.a), .int .u64 (ui s.b), .int .u64 (ui s.c), .int .u64 (ui s.d)]) (.agg #[.int .u64 0, .int .u64 0, .int .u64 0, .int .u64 0])).run Try.prog w = .ok (eq4B s zero4) w := run_eq4 s zero4 w
theorem eg4 : Try.prog.eqGuardType Try.prog.depth 23 = false := by kernel_rfl
attribute [go_sem] run_eq4 run_eq4z eg4
theorem xstep_any (s : S4) (w : World) :
    Calls Try.prog 12 #[.agg #[.int .u64 (ui s.a), .int .u64 (ui s.b), .int .u64 (ui s.c), .int .u64 (ui s.d)]] w fun e w' => e = .returned (.agg #[.int .u64 (ui (xsStep s).a), .int .u64 (ui (xsStep s).b), .int .u64 (ui (xsStep s).c), .int .u64 (ui (xsStep s).d)]) ∧ Below w.heap.size w w' := by
  go_enter Try.func12, Try.ntmps12
  go_wp2_with fail
  refine (st_step s _).mono ?_
  rintro e w1 ⟨rfl, b1⟩
  obtain ⟨g1, g2⟩ := bcell b1
  have hz := b1.size
  simp only [World.size_alloc] at hz
  go_wp2_with fail
  refine bodyPost_ret (v := .agg #[.int .u64 (ui (xsStep s).a), .int .u64 (ui (xsStep s).b), .int .u64 (ui (xsStep s).c), .int .u64 (ui (xsStep s).d)]) (by simp [results, Try.results12, go_sem, g1]) rfl ⟨rfl, ?_⟩
  exact ((((((Below.refl _ _).alloc (Nat.le_refl _) _).alloc (by simp) _).trans (b1.mono (by simp; omega))).setCell (by simp) _).setCell (by simp) _).setCell (by simp) _ |>.setCell (by simp) _
theorem xback_any (s : S4) (w : World) :
    Calls Try.prog 9 #[.agg #[.int .u64 (ui s.a), .int .u64 (ui s.b), .int .u64 (ui s.c), .int .u64 (ui s.d)]] w fun e w' => e = .returned (.agg #[.int .u64 (ui (xsBack s).a), .int .u64 (ui (xsBack s).b), .int .u64 (ui (xsBack s).c), .int .u64 (ui (xsBack s).d)]) ∧ Below w.heap.size w w' := by
  go_enter Try.func9, Try.ntmps9
  go_wp2_with fail
  refine (st_back s _).mono ?_
  rintro e w1 ⟨rfl, b1⟩
  obtain ⟨g1, g2⟩ := bcell b1
  have hz := b1.size
  simp only [World.size_alloc] at hz
  go_wp2_with fail
  refine bodyPost_ret (v := .agg #[.int .u64 (ui (xsBack s).a), .int .u64 (ui (xsBack s).b), .int .u64 (ui (xsBack s).c), .int .u64 (ui (xsBack s).d)]) (by simp [results, Try.results9, go_sem, g1]) rfl ⟨rfl, ?_⟩
  exact ((((((Below.refl _ _).alloc (Nat.le_refl _) _).alloc (by simp) _).trans (b1.mono (by simp; omega))).setCell (by simp) _).setCell (by simp) _).setCell (by simp) _ |>.setCell (by simp) _
theorem ss_any (s : S4) (w : World) :
    Calls Try.prog 13 #[.agg #[.int .u64 (ui s.a), .int .u64 (ui s.b), .int .u64 (ui s.c), .int .u64 (ui s.d)]] w fun e w' => e = .returned (.int .u64 (ui ((s.b * 5#64).rotateLeft 7 * 9#64))) ∧ Below w.heap.size w w' := by
  go_enter Try.func13, Try.ntmps13
  go_wp2_with (go_at_call 24; refine (rot64_any _ _ _).mono ?_; rintro e w' ⟨rfl, rfl⟩)
  go_ret
  exact ⟨rfl, (Below.refl _ _).alloc (Nat.le_refl _) _⟩
theorem pp_any (s : S4) (w : World) :
    Calls Try.prog 15 #[.agg #[.int .u64 (ui s.a), .int .u64 (ui s.b), .int .u64 (ui s.c), .int .u64 (ui s.d)]] w fun e w' => e = .returned (.int .u64 (ui ((s.a + s.d).rotateLeft 23 + s.a))) ∧ Below w.heap.size w w' := by
  go_enter Try.func15, Try.ntmps15
  go_wp2_with fail
  go_quiet ((go_at_call 24; exact Calls.quiet_of_same ((rot64_any _ _ _).mono fun e w' h => ⟨h.1, h.2.symm⟩)))
  go_wp2_with fail
  go_ret
  exact ⟨rfl, below_drewN ((Below.refl _ _).alloc (Nat.le_refl _) _) _⟩
theorem p_any (s : S4) (w : World) :
    Calls Try.prog 16 #[.agg #[.int .u64 (ui s.a), .int .u64 (ui s.b), .int .u64 (ui s.c), .int .u64 (ui s.d)]] w fun e w' => e = .returned (.int .u64 (ui (s.a + s.d))) ∧ Below w.heap.size w w' := by
  go_enter Try.func16, Try.ntmps16
  go_wp2_with (go_at_call 24; refine (rot64_any _ _ _).mono ?_; rintro e w' ⟨rfl, rfl⟩)
  go_ret
  exact ⟨rfl, (Below.refl _ _).alloc (Nat.le_refl _) _⟩
theorem zero_any (s : S4) (w : World) :
    Calls Try.prog 18 #[.agg #[.int .u64 (ui s.a), .int .u64 (ui s.b), .int .u64 (ui s.c), .int .u64 (ui s.d)]] w fun e w' => e = .returned (.bool (eq4B s zero4)) ∧ Below w.heap.size w w' := by
  go_enter Try.func18, Try.ntmps18
  go_wp2_with fail
  go_ret
  exact ⟨rfl, (Below.refl _ _).alloc (Nat.le_refl _) _⟩
def xorS (s t : S4) : S4 := ⟨s.a ^^^ t.a, s.b ^^^ t.b, s.c ^^^ t.c, s.d ^^^ t.d⟩
def xorK (s t : S4) (k : Nat) : S4 := ⟨if 0 < k then s.a ^^^ t.a else s.a, if 1 < k then s.b ^^^ t.b else s.b, if 2 < k then s.c ^^^ t.c else s.c, if 3 < k then s.d ^^^ t.d else s.d⟩
theorem xor_any (s t : S4) (w : World) :
    Calls Try.prog 17 #[.agg #[.int .u64 (ui s.a), .int .u64 (ui s.b), .int .u64 (ui s.c), .int .u64 (ui s.d)], .agg #[.int .u64 (ui t.a), .int .u64 (ui t.b), .int .u64 (ui t.c), .int .u64 (ui t.d)]] w fun e w' => e = .returned (.agg #[.int .u64 (ui (xorS s t).a), .int .u64 (ui (xorS s t).b), .int .u64 (ui (xorS s t).c), .int .u64 (ui (xorS s t).d)]) ∧ Below w.heap.size w w' := by
  go_enter Try.func17, Try.ntmps17
  go_wp2_with fail
  go_loopw [6] (fun i wr => ∃ k : Nat, k ≤ 4 ∧ i = .int .i64 k ∧ Four wr w.heap.size (ui (xorK s t k).a) (ui (xorK s t k).b) (ui (xorK s t k).c) (ui (xorK s t k).d) ∧ Four wr (w.heap.size + 1) (ui t.a) (ui t.b) (ui t.c) (ui t.d) ∧ Four wr (w.heap.size + 2) 0 0 0 0 ∧ Below w.heap.size w wr) (fun i _ => 4 - (intOf i).toNat)
  case atStart => exact ⟨0, by omega, rfl, ((Four.newAt _ _ _ _ _ _ _ rfl).alloc _).alloc _, (Four.newAt _ _ _ _ _ _ _ (by simp)).alloc _, Four.newAt _ _ _ _ _ _ _ (by simp), (((Below.refl _ _).alloc (Nat.le_refl _) _).alloc (by simp) _).alloc (by simp; omega) _⟩
  case round =>
    obtain ⟨k, hk, rfl, h1, h2, h3, hb⟩ := hrel
    have h1' := h1
    have h2' := h2
    have h3' := h3
    obtain ⟨c0, c1, c2, c3, f0, f1, f2, f3, _⟩ := h1'
    obtain ⟨d0, d1, d2, d3, _, _, _, _, _⟩ := h2'
    obtain ⟨e0, e1, e2, e3, g0, g1, g2, g3, _⟩ := h3'
    match k, hk with
    | 0, hk =>
      go_wp2_with fail
      go_region
      go_wp2_with fail
      go_roundw
      case rel => exact ⟨1, by omega, rfl, (h1.set0 _).drew, (h2.other (by simp) _).drew, (h3.other (by simp) _).drew, (hb.setCell (by simp) _).drew⟩
      case measure => simp [intOf]
    | 1, hk =>
      go_wp2_with fail
      go_region
      go_wp2_with fail
      go_roundw
      case rel => exact ⟨2, by omega, rfl, (h1.set1 _).drew, (h2.other (by simp) _).drew, (h3.other (by simp) _).drew, (hb.setCell (by simp) _).drew⟩
      case measure => simp [intOf]
    | 2, hk =>
      go_wp2_with fail
      go_region
      go_wp2_with fail
      go_roundw
      case rel => exact ⟨3, by omega, rfl, (h1.set2 _).drew, (h2.other (by simp) _).drew, (h3.other (by simp) _).drew, (hb.setCell (by simp) _).drew⟩
      case measure => simp [intOf]
    | 3, hk =>
      go_wp2_with fail
      go_region
      go_wp2_with fail
      go_roundw
      case rel => exact ⟨4, by omega, rfl, (h1.set3 _).drew, (h2.other (by simp) _).drew, (h3.other (by simp) _).drew, (hb.setCell (by simp) _).drew⟩
      case measure => simp [intOf]
    | 4, hk =>
      go_wp2_with fail
      refine bodyPost_ret (v := .agg #[.int .u64 (ui (xorK s t 4).a), .int .u64 (ui (xorK s t 4).b), .int .u64 (ui (xorK s t 4).c), .int .u64 (ui (xorK s t 4).d)]) (by simp [results, Try.results17, go_sem, e0, e1, e2, e3]) rfl ⟨rfl, ?_⟩
      exact below_set4 hb (by omega) _ _ _ _
def itS (f : S4 → S4) : Nat → S4 → S4
  | 0, s => s
  | n + 1, s => f (itS f n s)
theorem run_pos (s : S4) (k : Nat) (hk : k ≤ 300) (w : World) :
    Calls Try.prog 10 #[.agg #[.int .u64 (ui s.a), .int .u64 (ui s.b), .int .u64 (ui s.c), .int .u64 (ui s.d)], .int .i64 (k : Int)] w fun e w' => e = .returned (.agg #[.int .u64 (ui (itS xsStep k s).a), .int .u64 (ui (itS xsStep k s).b), .int .u64 (ui (itS xsStep k s).c), .int .u64 (ui (itS xsStep k s).d)]) ∧ Below w.heap.size w w' := by
  go_enter Try.func10, Try.ntmps10
  go_wp2_with fail
  go_region
  go_wp2_with fail
  go_loopw [15] (fun i wr => ∃ j : Nat, j ≤ k ∧ i = .int .i64 j ∧ Four wr (w.heap.size + 2) (ui (itS xsStep j s).a) (ui (itS xsStep j s).b) (ui (itS xsStep j s).c) (ui (itS xsStep j s).d) ∧ Four wr (w.heap.size + 1) 0 0 0 0 ∧ Below w.heap.size w wr) (fun i _ => k - (intOf i).toNat)
  case atStart => exact ⟨0, by omega, rfl, (Four.newAt _ _ _ _ _ _ _ (by simp)).drew, ((Four.newAt _ _ _ _ _ _ _ (by simp)).alloc _).drew, ((((Below.refl _ _).alloc (Nat.le_refl _) _).alloc (by simp) _).alloc (by simp; omega) _).drew⟩
  case round =>
    obtain ⟨j, hj, rfl, h1, h2, hb⟩ := hrel
    have h1' := h1
    have h2' := h2
    obtain ⟨c0, c1, c2, c3, f0, f1, f2, f3, _⟩ := h1'
    obtain ⟨e0, e1, e2, e3, g0, g1, g2, g3, _⟩ := h2'
    by_cases hlt : j < k
    · go_wp2_with fail
      refine (st_step (itS xsStep j s) _).mono ?_
      rintro e w1 ⟨rfl, b1⟩
      have h3 := h1.below b1 h1.lt
      have h4 := h2.below b1 h2.lt
      have hb1 := hb.trans (b1.mono hb.size)
      have h3' := h3
      obtain ⟨c0, c1, c2, c3, f0, f1, f2, f3, _⟩ := h3'
      go_wp2_with fail
      go_roundw
      case rel => exact ⟨j + 1, by omega, by go_num, h3.set4 _ _ _ _, h4.other4 (by simp) _ _ _ _, below_set4 hb1 (by omega) _ _ _ _⟩
      case measure => simp [intOf]; omega
    · have hjk : j = k := by omega
      subst hjk
      go_wp2_with fail
      refine bodyPost_ret (v := .agg #[.int .u64 (ui (itS xsStep j s).a), .int .u64 (ui (itS xsStep j s).b), .int .u64 (ui (itS xsStep j s).c), .int .u64 (ui (itS xsStep j s).d)]) (by simp [results, Try.results10, go_sem, e0, e1, e2, e3]) rfl ⟨rfl, ?_⟩
      exact below_set4 hb (by omega) _ _ _ _
theorem run_neg (s : S4) (k : Nat) (hk : k ≤ 300) (hp : 1 ≤ k) (w : World) :
    Calls Try.prog 10 #[.agg #[.int .u64 (ui s.a), .int .u64 (ui s.b), .int .u64 (ui s.c), .int .u64 (ui s.d)], .int .i64 (-(k : Int))] w fun e w' => e = .returned (.agg #[.int .u64 (ui (itS xsBack k s).a), .int .u64 (ui (itS xsBack k s).b), .int .u64 (ui (itS xsBack k s).c), .int .u64 (ui (itS xsBack k s).d)]) ∧ Below w.heap.size w w' := by
  have hp0 : 0 < k := hp
  have hp1 : -(k : Int) < 0 := by omega
  go_enter Try.func10, Try.ntmps10
  go_wp2_with fail
  go_region
  go_wp2_with fail
  go_loopw [15] (fun i wr => ∃ j : Nat, j ≤ k ∧ i = .int .i64 j ∧ Four wr (w.heap.size + 2) (ui (itS xsBack j s).a) (ui (itS xsBack j s).b) (ui (itS xsBack j s).c) (ui (itS xsBack j s).d) ∧ Four wr (w.heap.size + 1) 0 0 0 0 ∧ Below w.heap.size w wr) (fun i _ => k - (intOf i).toNat)
  case atStart => exact ⟨0, by omega, rfl, (Four.newAt _ _ _ _ _ _ _ (by simp)).drew, ((Four.newAt _ _ _ _ _ _ _ (by simp)).alloc _).drew, ((((Below.refl _ _).alloc (Nat.le_refl _) _).alloc (by simp) _).alloc (by simp; omega) _).drew⟩
  case round =>
    obtain ⟨j, hj, rfl, h1, h2, hb⟩ := hrel
    have h1' := h1
    have h2' := h2
    obtain ⟨c0, c1, c2, c3, f0, f1, f2, f3, _⟩ := h1'
    obtain ⟨e0, e1, e2, e3, g0, g1, g2, g3, _⟩ := h2'
    by_cases hlt : j < k
    · go_wp2_with fail
      refine (st_back (itS xsBack j s) _).mono ?_
      rintro e w1 ⟨rfl, b1⟩
      have h3 := h1.below b1 h1.lt
      have h4 := h2.below b1 h2.lt
      have hb1 := hb.trans (b1.mono hb.size)
      have h3' := h3
      obtain ⟨c0, c1, c2, c3, f0, f1, f2, f3, _⟩ := h3'
      go_wp2_with fail
      go_roundw
      case rel => exact ⟨j + 1, by omega, by go_num, h3.set4 _ _ _ _, h4.other4 (by simp) _ _ _ _, below_set4 hb1 (by omega) _ _ _ _⟩
      case measure => simp [intOf]; omega
    · have hjk : j = k := by omega
      subst hjk
      go_wp2_with fail
      refine bodyPost_ret (v := .agg #[.int .u64 (ui (itS xsBack j s).a), .int .u64 (ui (itS xsBack j s).b), .int .u64 (ui (itS xsBack j s).c), .int .u64 (ui (itS xsBack j s).d)]) (by simp [results, Try.results10, go_sem, e0, e1, e2, e3]) rfl ⟨rfl, ?_⟩
      exact below_set4 hb (by omega) _ _ _ _

end Go.Proofs.Ytekegcahjmnceaa
