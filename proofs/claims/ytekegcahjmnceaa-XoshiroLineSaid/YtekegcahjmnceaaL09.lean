/- The walks of chapter 9's statements: each returns true. No condition. -/
import Derived.Test.YtekegcahjmnceaaW9
import Derived.Deep.RegionHeld3
namespace Go.Proofs.Ytekegcahjmnceaa
open Go.RowKit
theorem rot_xor (x y : BitVec 64) : (x ^^^ y).rotateLeft 45 = x.rotateLeft 45 ^^^ y.rotateLeft 45 := by
  ext i hi
  simp only [BitVec.getElem_rotateLeft, BitVec.getElem_xor]
  repeat' split
  all_goals rfl
theorem xsStep_xor (s t : S4) : xsStep (xorS s t) = xorS (xsStep s) (xsStep t) := by
  obtain ⟨a, b, c, d⟩ := s; obtain ⟨a', b', c', d'⟩ := t
  have hr := rot_xor (d ^^^ b) (d' ^^^ b')
  have h0 : (d ^^^ d') ^^^ (b ^^^ b') = (d ^^^ b) ^^^ (d' ^^^ b') := by
    ext i hi; simp; cases d[i] <;> cases d'[i] <;> cases b[i] <;> cases b'[i] <;> rfl
  simp only [xsStep, xorS, S4.mk.injEq]
  refine ⟨?_, ?_, ?_, ?_⟩
  · rw [h0]; ext i hi; simp; cases a[i] <;> cases a'[i] <;> cases d[i] <;> cases d'[i] <;> cases b[i] <;> cases b'[i] <;> rfl
  · ext i hi; simp; cases a[i] <;> cases a'[i] <;> cases c[i] <;> cases c'[i] <;> cases b[i] <;> cases b'[i] <;> rfl
  · rw [shl_xor]; generalize b <<< 17 = x; generalize b' <<< 17 = y
    ext i hi; simp; cases a[i] <;> cases a'[i] <;> cases c[i] <;> cases c'[i] <;> cases x[i] <;> cases y[i] <;> rfl
  · rw [h0, hr]
theorem xsStep_zero : xsStep zero4 = zero4 := by
  simp only [xsStep, zero4, S4.mk.injEq]
  decide
theorem zero_step (s : S4) : eq4B (xsStep s) zero4 = eq4B s zero4 := by
  rw [Bool.eq_iff_iff, eq4B_iff, eq4B_iff]
  constructor
  · intro h; rw [← xsBack_step s, h, show xsBack zero4 = zero4 from by rw [← xsStep_zero, xsBack_step, xsStep_zero]]
  · intro h; rw [h, xsStep_zero]
theorem itS_in (f : S4 → S4) (k : Nat) (s : S4) : itS f k (f s) = f (itS f k s) := by
  induction k with
  | zero => rfl
  | succ k ih => show f (itS f k (f s)) = _; rw [ih]; rfl
theorem it_back (k : Nat) (s : S4) : itS xsBack k (itS xsStep k s) = s := by
  induction k with
  | zero => rfl
  | succ k ih => show xsBack (itS xsBack k (xsStep (itS xsStep k s))) = s; rw [← itS_in xsBack, xsBack_step, ih]
theorem it_forth (k : Nat) (s : S4) : itS xsStep k (itS xsBack k s) = s := by
  induction k with
  | zero => rfl
  | succ k ih => show xsStep (itS xsStep k (xsBack (itS xsBack k s))) = s; rw [← itS_in xsStep, xsStep_back, ih]
theorem seed_eq (a b : BitVec 64) : eq4B (seedS a) (seedS b) = (ui a == ui b) := by
  rw [Bool.eq_iff_iff, eq4B_iff, beq_iff_eq, ui_inj]
  constructor
  · intro h
    have h1 : splitB (a + (BitVec.ofNat 64 0 + 1#64) * gamma) = splitB (b + (BitVec.ofNat 64 0 + 1#64) * gamma) := congrArg S4.a h
    rw [split_inj] at h1
    generalize (BitVec.ofNat 64 0 + 1#64) * gamma = g at h1
    grind
  · rintro rfl; rfl
theorem seed_some (a : BitVec 64) : eq4B (seedS a) zero4 = false := by
  rw [Bool.eq_false_iff, ne_eq, eq4B_iff]
  intro h
  have h1 : splitB (a + (BitVec.ofNat 64 0 + 1#64) * gamma) = splitB (a + (BitVec.ofNat 64 1 + 1#64) * gamma) := (congrArg S4.a h).trans (congrArg S4.b h).symm
  rw [split_inj] at h1
  have h2 : (BitVec.ofNat 64 0 + 1#64) * gamma = (BitVec.ofNat 64 1 + 1#64) * gamma := by
    generalize (BitVec.ofNat 64 0 + 1#64) * gamma = g at *
    generalize (BitVec.ofNat 64 1 + 1#64) * gamma = g' at *
    grind
  revert h2; decide +kernel
def s1234 : S4 := ⟨1#64, 2#64, 3#64, 4#64⟩
theorem ss_1234 (w : World) : Calls Try.prog 13 #[.agg #[.int .u64 1, .int .u64 2, .int .u64 3, .int .u64 4]] w fun e w' => e = .returned (.int .u64 11520) ∧ Below w.heap.size w w' := ss_any s1234 w
theorem step_1234 (w : World) : Calls Try.prog 12 #[.agg #[.int .u64 1, .int .u64 2, .int .u64 3, .int .u64 4]] w fun e w' => e = .returned (.agg #[.int .u64 (ui (xsStep s1234).a), .int .u64 (ui (xsStep s1234).b), .int .u64 (ui (xsStep s1234).c), .int .u64 (ui (xsStep s1234).d)]) ∧ Below w.heap.size w w' := xstep_any s1234 w
theorem run_1234 (w : World) : Calls Try.prog 10 #[.agg #[.int .u64 1, .int .u64 2, .int .u64 3, .int .u64 4], .int .i64 2] w fun e w' => e = .returned (.agg #[.int .u64 (ui (itS xsStep 2 s1234).a), .int .u64 (ui (itS xsStep 2 s1234).b), .int .u64 (ui (itS xsStep 2 s1234).c), .int .u64 (ui (itS xsStep 2 s1234).d)]) ∧ Below w.heap.size w w' := run_pos s1234 2 (by decide) w
theorem ss_step (w : World) : Calls Try.prog 13 #[.agg #[.int .u64 (ui (xsStep s1234).a), .int .u64 (ui (xsStep s1234).b), .int .u64 (ui (xsStep s1234).c), .int .u64 (ui (xsStep s1234).d)]] w fun e w' => e = .returned (.int .u64 0) ∧ Below w.heap.size w w' := by
  have h := ss_any (xsStep s1234) w
  rw [show (((xsStep s1234).b * 5#64).rotateLeft 7 * 9#64) = 0#64 from by decide +kernel] at h
  exact h
theorem ss_run (w : World) : Calls Try.prog 13 #[.agg #[.int .u64 (ui (itS xsStep 2 s1234).a), .int .u64 (ui (itS xsStep 2 s1234).b), .int .u64 (ui (itS xsStep 2 s1234).c), .int .u64 (ui (itS xsStep 2 s1234).d)]] w fun e w' => e = .returned (.int .u64 1509978240) ∧ Below w.heap.size w w' := by
  have h := ss_any (itS xsStep 2 s1234) w
  rw [show (((itS xsStep 2 s1234).b * 5#64).rotateLeft 7 * 9#64) = 1509978240#64 from by decide +kernel] at h
  exact h
/-- four cells, and what lies below: what a region of a law keeps -/
def HS (w : World) (s : S4) (w' : World) : Prop := w'.cell? ⟨w.heap.size, 0, none⟩ = some (.int .u64 (ui s.a)) ∧ w'.cell? ⟨w.heap.size, 1, none⟩ = some (.int .u64 (ui s.b)) ∧ w'.cell? ⟨w.heap.size, 2, none⟩ = some (.int .u64 (ui s.c)) ∧ w'.cell? ⟨w.heap.size, 3, none⟩ = some (.int .u64 (ui s.d)) ∧ w.heap.size < w'.heap.size ∧ Below w.heap.size w w'
theorem hs_below {w w1 w2 : World} {s : S4} (h : w1.cell? ⟨w.heap.size, 0, none⟩ = some (.int .u64 (ui s.a)) ∧ w1.cell? ⟨w.heap.size, 1, none⟩ = some (.int .u64 (ui s.b)) ∧ w1.cell? ⟨w.heap.size, 2, none⟩ = some (.int .u64 (ui s.c)) ∧ w1.cell? ⟨w.heap.size, 3, none⟩ = some (.int .u64 (ui s.d)) ∧ w.heap.size < w1.heap.size ∧ Below w.heap.size w w1) (b : Below w1.heap.size w1 w2) : HS w s w2 := by
  obtain ⟨h0, h1, h2, h3, h4, h5⟩ := h
  obtain ⟨g1, g2⟩ := bcell b
  have hz := b.size
  exact ⟨by rw [g1 _ _ h4, h0], by rw [g1 _ _ h4, h1], by rw [g1 _ _ h4, h2], by rw [g1 _ _ h4, h3], by omega, h5.trans (b.mono (by omega))⟩
theorem hs_belowb {w w1 w2 : World} {s : S4} (b : Below w1.heap.size w1 w2) (h : w1.cell? ⟨w.heap.size, 0, none⟩ = some (.int .u64 (ui s.a)) ∧ w1.cell? ⟨w.heap.size, 1, none⟩ = some (.int .u64 (ui s.b)) ∧ w1.cell? ⟨w.heap.size, 2, none⟩ = some (.int .u64 (ui s.c)) ∧ w1.cell? ⟨w.heap.size, 3, none⟩ = some (.int .u64 (ui s.d)) ∧ w.heap.size < w1.heap.size ∧ Below w.heap.size w w1) : HS w s w2 := hs_below h b
theorem hs_last {w w1 : World} {s : S4} (h : w1.cell? ⟨w.heap.size, 0, none⟩ = some (.int .u64 (ui s.a)) ∧ w1.cell? ⟨w.heap.size, 1, none⟩ = some (.int .u64 (ui s.b)) ∧ w1.cell? ⟨w.heap.size, 2, none⟩ = some (.int .u64 (ui s.c)) ∧ w1.cell? ⟨w.heap.size, 3, none⟩ = some (.int .u64 (ui s.d)) ∧ w.heap.size < w1.heap.size ∧ Below w.heap.size w w1) : Below w.heap.size w w1 := h.2.2.2.2.2
theorem hs_new (w : World) (s : S4) (t : TypeId) : HS w s (w.alloc (.cells #[.int .u64 (ui s.a), .int .u64 (ui s.b), .int .u64 (ui s.c), .int .u64 (ui s.d)] t)) := by
  have h := Four.newAt w (ui s.a) (ui s.b) (ui s.c) (ui s.d) t _ rfl
  exact ⟨h.c0, h.c1, h.c2, h.c3, h.lt, (Below.refl _ _).alloc (Nat.le_refl _) _⟩
theorem hs_drew {w w1 : World} {s : S4} (h : HS w s w1) : HS w s w1.drew := ⟨h.1, h.2.1, h.2.2.1, h.2.2.2.1, h.2.2.2.2.1, h.2.2.2.2.2.drew⟩
def outS (k : Int) (s : S4) : BitVec 64 := if k = 2 then (s.b * 5#64).rotateLeft 7 * 9#64 else if k = 3 then (s.a + s.d).rotateLeft 23 + s.a else s.a + s.d
@[go_sem] theorem outS2 (s : S4) : outS 2 s = (s.b * 5#64).rotateLeft 7 * 9#64 := rfl
@[go_sem] theorem outS3 (s : S4) : outS 3 s = (s.a + s.d).rotateLeft 23 + s.a := rfl
@[go_sem] theorem outS4 (s : S4) : outS 4 s = s.a + s.d := rfl
theorem refout_any (s : S4) (k : Int) (hk : k = 2 ∨ k = 3 ∨ k = 4) (w : World) :
    Calls Try.prog 14 #[.int .i64 k, .agg #[.int .u64 (ui s.a), .int .u64 (ui s.b), .int .u64 (ui s.c), .int .u64 (ui s.d)]] w fun e w' => e = .returned (.int .u64 (ui (outS k s))) ∧ Below w.heap.size w w' := by
  rcases hk with rfl | rfl | rfl
  · exact refout2 s w
  · exact refout3 s w
  · exact refout4 s w
attribute [go_sem] eq4B_self xsStep_back xsBack_step it_back it_forth
theorem awake09_any (w : World) :
    Calls Try.prog 7 #[] w fun e w' => e = .returned (.bool true) ∧ Below w.heap.size w w' := by
  go_enter Try.func7, Try.ntmps7
  go_wp2_with fail
  refine (ss_1234 _).mono ?_
  rintro e w1 ⟨rfl, b1⟩
  have hS := hs_below (hs_new w s1234 _) b1
  obtain ⟨c0, c1, c2, c3, hlt, hB⟩ := id hS
  go_wp2_with fail
  refine (xstep_any s1234 _).mono ?_
  rintro e w2 ⟨rfl, b2⟩
  have hS := hs_below hS b2
  obtain ⟨c0, c1, c2, c3, hlt, hB⟩ := id hS
  go_wp2_with fail
  refine (ss_step _).mono ?_
  rintro e w3 ⟨rfl, b3⟩
  have hS := hs_below hS b3
  obtain ⟨c0, c1, c2, c3, hlt, hB⟩ := id hS
  go_wp2_with fail
  refine (run_pos s1234 2 (by decide) _).mono ?_
  rintro e w4 ⟨rfl, b4⟩
  have hS := hs_below hS b4
  obtain ⟨c0, c1, c2, c3, hlt, hB⟩ := id hS
  go_wp2_with fail
  refine (ss_run _).mono ?_
  rintro e w5 ⟨rfl, b5⟩
  have hS := hs_below hS b5
  obtain ⟨c0, c1, c2, c3, hlt, hB⟩ := id hS
  go_wp2_with fail
  go_ret
  exact ⟨rfl, hB⟩
theorem tells_walk (s : S4) (w : World) :
    Calls Try.prog 4 #[.agg #[.int .u64 (ui s.a), .int .u64 (ui s.b), .int .u64 (ui s.c), .int .u64 (ui s.d)]] w fun e w' => e = .returned (.bool true) ∧ Below w.heap.size w w' := by
  go_enter Try.func4, Try.ntmps4
  go_wp2_with fail
  refine (awake09_any _).mono ?_
  rintro e w1 ⟨rfl, b1⟩
  have hS := hs_below (hs_new w s _) b1
  obtain ⟨c0, c1, c2, c3, hlt, hB⟩ := id hS
  go_wp2_with fail
  go_region_held3 (fun w' => w'.cell? ⟨w.heap.size, 0, none⟩ = some (.int .u64 (ui s.a)) ∧ w'.cell? ⟨w.heap.size, 1, none⟩ = some (.int .u64 (ui s.b)) ∧ w'.cell? ⟨w.heap.size, 2, none⟩ = some (.int .u64 (ui s.c)) ∧ w'.cell? ⟨w.heap.size, 3, none⟩ = some (.int .u64 (ui s.d)) ∧ w.heap.size < w'.heap.size ∧ Below w.heap.size w w') (first | (apply hs_belowb; assumption; assumption) | exact hs_drew hS)
    (first
      | (go_at_call 12; refine (xstep_any _ _).mono ?_; rintro e w' ⟨rfl, b⟩)
      | (go_at_call 8; refine (ref_step _ _).mono ?_; rintro e w' ⟨rfl, b⟩)
      | (go_at_call 13; refine (ss_any _ _).mono ?_; rintro e w' ⟨rfl, b⟩)
      | (go_at_call 15; refine (pp_any _ _).mono ?_; rintro e w' ⟨rfl, b⟩)
      | (go_at_call 16; refine (p_any _ _).mono ?_; rintro e w' ⟨rfl, b⟩)
      | (go_at_call 14; refine (refout_any _ _ (by decide) _).mono ?_; rintro e w' ⟨rfl, b⟩))
  go_wp2_with fail
  go_ret
  refine ⟨rfl, ?_⟩
  apply hs_last (s := s)
  assumption
theorem seeds_walk (a b : BitVec 64) (w : World) :
    Calls Try.prog 6 #[.int .u64 (ui a), .int .u64 (ui b)] w fun e w' => e = .returned (.bool true) ∧ Below w.heap.size w w' := by
  obtain ⟨s, t, hse, hss, ca, ra, cb⟩ : ∃ s t : S4, eq4B s t = (ui a == ui b) ∧ eq4B s zero4 = false
      ∧ (∀ w : World, Calls Try.prog 19 #[.int .u64 (ui a)] w fun e w' => e = .returned (.agg #[.int .u64 (ui s.a), .int .u64 (ui s.b), .int .u64 (ui s.c), .int .u64 (ui s.d)]) ∧ Below w.heap.size w w')
      ∧ (∀ w : World, Calls Try.prog 20 #[.int .u64 (ui a)] w fun e w' => e = .returned (.agg #[.int .u64 (ui s.a), .int .u64 (ui s.b), .int .u64 (ui s.c), .int .u64 (ui s.d)]) ∧ Below w.heap.size w w')
      ∧ (∀ w : World, Calls Try.prog 19 #[.int .u64 (ui b)] w fun e w' => e = .returned (.agg #[.int .u64 (ui t.a), .int .u64 (ui t.b), .int .u64 (ui t.c), .int .u64 (ui t.d)]) ∧ Below w.heap.size w w') :=
    ⟨seedS a, seedS b, seed_eq a b, seed_some a, seed_any a, refseed_any a, seed_any b⟩
  go_enter Try.func6, Try.ntmps6
  go_wp2_with fail
  refine (awake09_any _).mono ?_
  rintro e w1 ⟨rfl, b1⟩
  go_wp2_with fail
  refine (ca _).mono ?_
  rintro e w2 ⟨rfl, b2⟩
  have hB := b1.trans (b2.mono b1.size)
  go_wp2_with fail
  have hS := hs_new w2 s 23
  obtain ⟨c0, c1, c2, c3, hlt, hB3⟩ := id hS
  go_region_held3 (fun w' => w'.cell? ⟨w2.heap.size, 0, none⟩ = some (.int .u64 (ui s.a)) ∧ w'.cell? ⟨w2.heap.size, 1, none⟩ = some (.int .u64 (ui s.b)) ∧ w'.cell? ⟨w2.heap.size, 2, none⟩ = some (.int .u64 (ui s.c)) ∧ w'.cell? ⟨w2.heap.size, 3, none⟩ = some (.int .u64 (ui s.d)) ∧ w2.heap.size < w'.heap.size ∧ Below w2.heap.size w2 w') (first | (apply hs_belowb; assumption; assumption) | exact hs_drew hS)
    (first
      | (go_at_call 20; refine (ra _).mono ?_; rintro e w' ⟨rfl, b⟩)
      | (go_at_call 19; refine (cb _).mono ?_; rintro e w' ⟨rfl, b⟩)
      | (go_at_call 18; refine (zero_any _ _).mono ?_; rintro e w' ⟨rfl, b⟩))
  go_wp2_with fail
  go_ret
  refine ⟨rfl, hB.trans (Below.mono ?_ hB.size)⟩
  apply hs_last (s := s)
  assumption
end Go.Proofs.Ytekegcahjmnceaa
