/- Walks of chapter 9's reference, and of the seeds. No condition. -/
import Derived.Test.YtekegcahjmnceaaW8
import Derived.Laws.Cover3
namespace Go.Proofs.Ytekegcahjmnceaa
open Go.RowKit
/-- the state of a number -/
def seedS (a : BitVec 64) : S4 := ⟨splitB (a + (BitVec.ofNat 64 0 + 1#64) * gamma), splitB (a + (BitVec.ofNat 64 1 + 1#64) * gamma), splitB (a + (BitVec.ofNat 64 2 + 1#64) * gamma), splitB (a + (BitVec.ofNat 64 3 + 1#64) * gamma)⟩
/-- four words of memory -/
theorem owns4 (a : BitVec 64) (w : World) (base : Nat) (e : TypeId) (v : Value) (h : w.ownsRow base e 1 v (vals (outs a (min (4 : Int) 4096).toNat)).length (vals (outs a (min (4 : Int) 4096).toNat))) :
    ∃ g cap, v = .slice (some ⟨g, 0, none⟩) 4 cap ∧ base ≤ g ∧ w.cell? ⟨g, 0, none⟩ = some (.int .u64 (ui (seedS a).a)) ∧ w.cell? ⟨g, 1, none⟩ = some (.int .u64 (ui (seedS a).b)) ∧ w.cell? ⟨g, 2, none⟩ = some (.int .u64 (ui (seedS a).c)) ∧ w.cell? ⟨g, 3, none⟩ = some (.int .u64 (ui (seedS a).d)) := by
  have hl : vals (outs a (min (4 : Int) 4096).toNat) = [.int .u64 (ui (seedS a).a), .int .u64 (ui (seedS a).b), .int .u64 (ui (seedS a).c), .int .u64 (ui (seedS a).d)] := rfl
  rw [hl] at h
  rcases h.2 with ⟨_, hn⟩ | ⟨g, cap, cur, rfl, hg, _⟩
  · simp at hn
  · have hc := h.cells (g := g) rfl
    refine ⟨g, cap, rfl, hg, ?_, ?_, ?_, ?_⟩
    · exact hc 0 _ rfl
    · exact hc 1 _ rfl
    · exact hc 2 _ rfl
    · exact hc 3 _ rfl
theorem refsteps_any9 (s : S4) (k : Nat) (hk : k ≤ 300) (w : World) :
    Calls Try.prog 11 #[.agg #[.int .u64 (ui s.a), .int .u64 (ui s.b), .int .u64 (ui s.c), .int .u64 (ui s.d)], .int .i64 (k : Int)] w fun e w' => e = .returned (.agg #[.int .u64 (ui (itS xsStep k s).a), .int .u64 (ui (itS xsStep k s).b), .int .u64 (ui (itS xsStep k s).c), .int .u64 (ui (itS xsStep k s).d)]) ∧ Below w.heap.size w w' := by
  go_enter Try.func11, Try.ntmps11
  go_wp2_with fail
  go_loopw [5] (fun i wr => ∃ j : Nat, j ≤ k ∧ i = .int .i64 j ∧ Four wr w.heap.size (ui (itS xsStep j s).a) (ui (itS xsStep j s).b) (ui (itS xsStep j s).c) (ui (itS xsStep j s).d) ∧ Four wr (w.heap.size + 1) 0 0 0 0 ∧ Below w.heap.size w wr) (fun i _ => k - (intOf i).toNat)
  case atStart => exact ⟨0, by omega, rfl, (Four.newAt _ _ _ _ _ _ _ (by simp)).alloc _, Four.newAt _ _ _ _ _ _ _ (by simp), ((Below.refl _ _).alloc (Nat.le_refl _) _).alloc (by simp) _⟩
  case round =>
    obtain ⟨j, hj, rfl, h1, h2, hb⟩ := hrel
    have h1' := h1
    have h2' := h2
    obtain ⟨c0, c1, c2, c3, f0, f1, f2, f3, _⟩ := h1'
    obtain ⟨e0, e1, e2, e3, g0, g1, g2, g3, _⟩ := h2'
    by_cases hlt : j < k
    · go_wp2_with fail
      refine (ref_step (itS xsStep j s) _).mono ?_
      rintro e w1 ⟨rfl, b1⟩
      have h3 := h1.below b1 h1.lt
      have h4 := h2.below b1 h2.lt
      have hb1 := hb.trans (b1.mono hb.size)
      have h3' := h3
      obtain ⟨c0, c1, c2, c3, f0, f1, f2, f3, _⟩ := h3'
      go_wp2_with fail
      go_roundw
      case rel => exact ⟨j + 1, by omega, by go_num, h3.set4 _ _ _ _, h4.other4 (by simp) _ _ _ _, below_set4 hb1 (by omega) _ _ _ _⟩
      case measure => simp [intOf]; omega
    · have hjk : j = k := by omega
      subst hjk
      go_wp2_with fail
      refine bodyPost_ret (v := .agg #[.int .u64 (ui (itS xsStep j s).a), .int .u64 (ui (itS xsStep j s).b), .int .u64 (ui (itS xsStep j s).c), .int .u64 (ui (itS xsStep j s).d)]) (by simp [results, Try.results11, go_sem, e0, e1, e2, e3]) rfl ⟨rfl, ?_⟩
      exact below_set4 hb (by omega) _ _ _ _
theorem mul4 (b : BitVec 64) : b + b * 4#64 = b * 5#64 := by grind
theorem refout2 (s : S4) (w : World) :
    Calls Try.prog 14 #[.int .i64 2, .agg #[.int .u64 (ui s.a), .int .u64 (ui s.b), .int .u64 (ui s.c), .int .u64 (ui s.d)]] w fun e w' => e = .returned (.int .u64 (ui ((s.b * 5#64).rotateLeft 7 * 9#64))) ∧ Below w.heap.size w w' := by
  go_enter Try.func14, Try.ntmps14
  go_wp2_with fail
  refine (refrot64_any _ _ _).mono ?_
  rintro e w1 ⟨rfl, rfl⟩
  go_wp2_with fail
  go_ret
  exact ⟨by rw [mul4]; rfl, (Below.refl _ _).alloc (Nat.le_refl _) _⟩
theorem refout3 (s : S4) (w : World) :
    Calls Try.prog 14 #[.int .i64 3, .agg #[.int .u64 (ui s.a), .int .u64 (ui s.b), .int .u64 (ui s.c), .int .u64 (ui s.d)]] w fun e w' => e = .returned (.int .u64 (ui ((s.a + s.d).rotateLeft 23 + s.a))) ∧ Below w.heap.size w w' := by
  go_enter Try.func14, Try.ntmps14
  go_wp2_with fail
  go_quiet ((go_at_call 21; exact Calls.quiet_of_same ((refrot64_any _ _ _).mono fun e w' h => ⟨h.1, h.2.symm⟩)))
  go_wp2_with fail
  go_ret
  exact ⟨rfl, below_drewN ((Below.refl _ _).alloc (Nat.le_refl _) _) _⟩
theorem refout4 (s : S4) (w : World) :
    Calls Try.prog 14 #[.int .i64 4, .agg #[.int .u64 (ui s.a), .int .u64 (ui s.b), .int .u64 (ui s.c), .int .u64 (ui s.d)]] w fun e w' => e = .returned (.int .u64 (ui (s.a + s.d))) ∧ Below w.heap.size w w' := by
  go_enter Try.func14, Try.ntmps14
  go_wp2_with fail
  go_ret
  exact ⟨rfl, (Below.refl _ _).alloc (Nat.le_refl _) _⟩
theorem seed_any (a : BitVec 64) (w : World) :
    Calls Try.prog 19 #[.int .u64 (ui a)] w fun e w' => e = .returned (.agg #[.int .u64 (ui (seedS a).a), .int .u64 (ui (seedS a).b), .int .u64 (ui (seedS a).c), .int .u64 (ui (seedS a).d)]) ∧ Below w.heap.size w w' := by
  go_enter Try.func19, Try.ntmps19
  go_wp2_with fail
  refine (swords_any _ _ _).mono ?_
  rintro e w1 ⟨v1, rfl, o1, b1⟩
  obtain ⟨g, cap, rfl, hg, c0, c1, c2, c3⟩ := owns4 _ _ _ _ _ o1
  obtain ⟨g1, g2⟩ := bcell b1
  have hz := b1.size
  simp only [World.size_alloc] at hz
  generalize hs : seedS a = s at *
  go_wp2_with fail
  rw [run_arrayAt _ _ _ _ _ _ _ Try.underlying23 (by decide)]
  go_wp2_with fail
  refine bodyPost_ret (v := .agg #[.int .u64 (ui s.a), .int .u64 (ui s.b), .int .u64 (ui s.c), .int .u64 (ui s.d)]) (by simp [results, Try.results19, go_sem, g1]) rfl ⟨by rw [hs], ?_⟩
  exact ((((((Below.refl _ _).alloc (Nat.le_refl _) _).trans (b1.mono (by simp <;> omega))).setCell (by simp) _).setCell (by simp) _).setCell (by simp) _ |>.setCell (by simp) _)
theorem refseed_any (a : BitVec 64) (w : World) :
    Calls Try.prog 20 #[.int .u64 (ui a)] w fun e w' => e = .returned (.agg #[.int .u64 (ui (seedS a).a), .int .u64 (ui (seedS a).b), .int .u64 (ui (seedS a).c), .int .u64 (ui (seedS a).d)]) ∧ Below w.heap.size w w' := by
  go_enter Try.func20, Try.ntmps20
  go_wp2_with fail
  refine (refwords_any _ _ _).mono ?_
  rintro e w1 ⟨v1, rfl, o1, b1⟩
  obtain ⟨g, cap, rfl, hg, c0, c1, c2, c3⟩ := owns4 _ _ _ _ _ o1
  obtain ⟨g1, g2⟩ := bcell b1
  have hz := b1.size
  simp only [World.size_alloc] at hz
  generalize hs : seedS a = s at *
  go_wp2_with fail
  go_region
  go_wp2_with fail
  refine bodyPost_ret (v := .agg #[.int .u64 (ui s.a), .int .u64 (ui s.b), .int .u64 (ui s.c), .int .u64 (ui s.d)]) (by simp [results, Try.results20, go_sem, g1]) rfl ⟨by rw [hs], ?_⟩
  exact ((((((Below.refl _ _).alloc (Nat.le_refl _) _).trans (b1.mono (by simp <;> omega))).setCell (by simp) _).setCell (by simp) _).setCell (by simp) _ |>.setCell (by simp) _).drew
end Go.Proofs.Ytekegcahjmnceaa
