/- The walk of chapter 9's statement XoshiroLine: it returns true. No condition. -/
import Derived.Test.YtekegcahjmnceaaL09
namespace Go.Proofs.Ytekegcahjmnceaa
open Go.RowKit
/-- sixteen cells, and what lies below: what the last region of XoshiroLine keeps -/
def HL (w : World) (b2 b3 : Nat) (s t u : S4) (w' : World) : Prop := w'.cell? ⟨w.heap.size, 0, none⟩ = some (.int .u64 (ui s.a)) ∧ w'.cell? ⟨w.heap.size, 1, none⟩ = some (.int .u64 (ui s.b)) ∧ w'.cell? ⟨w.heap.size, 2, none⟩ = some (.int .u64 (ui s.c)) ∧ w'.cell? ⟨w.heap.size, 3, none⟩ = some (.int .u64 (ui s.d)) ∧ w'.cell? ⟨(w.heap.size + 1), 0, none⟩ = some (.int .u64 (ui t.a)) ∧ w'.cell? ⟨(w.heap.size + 1), 1, none⟩ = some (.int .u64 (ui t.b)) ∧ w'.cell? ⟨(w.heap.size + 1), 2, none⟩ = some (.int .u64 (ui t.c)) ∧ w'.cell? ⟨(w.heap.size + 1), 3, none⟩ = some (.int .u64 (ui t.d)) ∧ w'.cell? ⟨b2, 0, none⟩ = some (.int .u64 (ui u.a)) ∧ w'.cell? ⟨b2, 1, none⟩ = some (.int .u64 (ui u.b)) ∧ w'.cell? ⟨b2, 2, none⟩ = some (.int .u64 (ui u.c)) ∧ w'.cell? ⟨b2, 3, none⟩ = some (.int .u64 (ui u.d)) ∧ w'.cell? ⟨b3, 0, none⟩ = some (.int .u64 (ui zero4.a)) ∧ w'.cell? ⟨b3, 1, none⟩ = some (.int .u64 (ui zero4.b)) ∧ w'.cell? ⟨b3, 2, none⟩ = some (.int .u64 (ui zero4.c)) ∧ w'.cell? ⟨b3, 3, none⟩ = some (.int .u64 (ui zero4.d)) ∧ w.heap.size < w'.heap.size ∧ w.heap.size + 1 < w'.heap.size ∧ b2 < w'.heap.size ∧ b3 < w'.heap.size ∧ Below w.heap.size w w'
attribute [go_sem] xsStep_zero zero_step
theorem hl_below {w w1 w2 : World} {b2 b3 : Nat} {s t u : S4} (b : Below w1.heap.size w1 w2) (h : w1.cell? ⟨w.heap.size, 0, none⟩ = some (.int .u64 (ui s.a)) ∧ w1.cell? ⟨w.heap.size, 1, none⟩ = some (.int .u64 (ui s.b)) ∧ w1.cell? ⟨w.heap.size, 2, none⟩ = some (.int .u64 (ui s.c)) ∧ w1.cell? ⟨w.heap.size, 3, none⟩ = some (.int .u64 (ui s.d)) ∧ w1.cell? ⟨(w.heap.size + 1), 0, none⟩ = some (.int .u64 (ui t.a)) ∧ w1.cell? ⟨(w.heap.size + 1), 1, none⟩ = some (.int .u64 (ui t.b)) ∧ w1.cell? ⟨(w.heap.size + 1), 2, none⟩ = some (.int .u64 (ui t.c)) ∧ w1.cell? ⟨(w.heap.size + 1), 3, none⟩ = some (.int .u64 (ui t.d)) ∧ w1.cell? ⟨b2, 0, none⟩ = some (.int .u64 (ui u.a)) ∧ w1.cell? ⟨b2, 1, none⟩ = some (.int .u64 (ui u.b)) ∧ w1.cell? ⟨b2, 2, none⟩ = some (.int .u64 (ui u.c)) ∧ w1.cell? ⟨b2, 3, none⟩ = some (.int .u64 (ui u.d)) ∧ w1.cell? ⟨b3, 0, none⟩ = some (.int .u64 (ui zero4.a)) ∧ w1.cell? ⟨b3, 1, none⟩ = some (.int .u64 (ui zero4.b)) ∧ w1.cell? ⟨b3, 2, none⟩ = some (.int .u64 (ui zero4.c)) ∧ w1.cell? ⟨b3, 3, none⟩ = some (.int .u64 (ui zero4.d)) ∧ w.heap.size < w1.heap.size ∧ w.heap.size + 1 < w1.heap.size ∧ b2 < w1.heap.size ∧ b3 < w1.heap.size ∧ Below w.heap.size w w1) : HL w b2 b3 s t u w2 := by
  obtain ⟨h0, h1, h2, h3, h4, h5, h6, h7, h8, h9, h10, h11, h12, h13, h14, h15, l0, l1, l2, l3, hB⟩ := h
  obtain ⟨g1, g2⟩ := bcell b
  have hz := b.size
  exact ⟨by rw [g1 _ _ l0, h0], by rw [g1 _ _ l0, h1], by rw [g1 _ _ l0, h2], by rw [g1 _ _ l0, h3], by rw [g1 _ _ l1, h4], by rw [g1 _ _ l1, h5], by rw [g1 _ _ l1, h6], by rw [g1 _ _ l1, h7], by rw [g1 _ _ l2, h8], by rw [g1 _ _ l2, h9], by rw [g1 _ _ l2, h10], by rw [g1 _ _ l2, h11], by rw [g1 _ _ l3, h12], by rw [g1 _ _ l3, h13], by rw [g1 _ _ l3, h14], by rw [g1 _ _ l3, h15], by omega, by omega, by omega, by omega, hB.trans (b.mono (by omega))⟩
theorem hl_drew {w w1 : World} {b2 b3 : Nat} {s t u : S4} (h : HL w b2 b3 s t u w1) : HL w b2 b3 s t u w1.drew := by
  obtain ⟨h0, h1, h2, h3, h4, h5, h6, h7, h8, h9, h10, h11, h12, h13, h14, h15, l0, l1, l2, l3, hB⟩ := h
  exact ⟨h0, h1, h2, h3, h4, h5, h6, h7, h8, h9, h10, h11, h12, h13, h14, h15, l0, l1, l2, l3, hB.drew⟩
theorem hl_last {w w1 : World} {b2 b3 : Nat} {s t u : S4} (h : w1.cell? ⟨w.heap.size, 0, none⟩ = some (.int .u64 (ui s.a)) ∧ w1.cell? ⟨w.heap.size, 1, none⟩ = some (.int .u64 (ui s.b)) ∧ w1.cell? ⟨w.heap.size, 2, none⟩ = some (.int .u64 (ui s.c)) ∧ w1.cell? ⟨w.heap.size, 3, none⟩ = some (.int .u64 (ui s.d)) ∧ w1.cell? ⟨(w.heap.size + 1), 0, none⟩ = some (.int .u64 (ui t.a)) ∧ w1.cell? ⟨(w.heap.size + 1), 1, none⟩ = some (.int .u64 (ui t.b)) ∧ w1.cell? ⟨(w.heap.size + 1), 2, none⟩ = some (.int .u64 (ui t.c)) ∧ w1.cell? ⟨(w.heap.size + 1), 3, none⟩ = some (.int .u64 (ui t.d)) ∧ w1.cell? ⟨b2, 0, none⟩ = some (.int .u64 (ui u.a)) ∧ w1.cell? ⟨b2, 1, none⟩ = some (.int .u64 (ui u.b)) ∧ w1.cell? ⟨b2, 2, none⟩ = some (.int .u64 (ui u.c)) ∧ w1.cell? ⟨b2, 3, none⟩ = some (.int .u64 (ui u.d)) ∧ w1.cell? ⟨b3, 0, none⟩ = some (.int .u64 (ui zero4.a)) ∧ w1.cell? ⟨b3, 1, none⟩ = some (.int .u64 (ui zero4.b)) ∧ w1.cell? ⟨b3, 2, none⟩ = some (.int .u64 (ui zero4.c)) ∧ w1.cell? ⟨b3, 3, none⟩ = some (.int .u64 (ui zero4.d)) ∧ w.heap.size < w1.heap.size ∧ w.heap.size + 1 < w1.heap.size ∧ b2 < w1.heap.size ∧ b3 < w1.heap.size ∧ Below w.heap.size w w1) : Below w.heap.size w w1 := by
  obtain ⟨_, _, _, _, _, _, _, _, _, _, _, _, _, _, _, _, _, _, _, _, hB⟩ := h
  exact hB
theorem line_walk (s t : S4) (w : World) :
    Calls Try.prog 5 #[.agg #[.int .u64 (ui s.a), .int .u64 (ui s.b), .int .u64 (ui s.c), .int .u64 (ui s.d)], .agg #[.int .u64 (ui t.a), .int .u64 (ui t.b), .int .u64 (ui t.c), .int .u64 (ui t.d)]] w fun e w' => e = .returned (.bool true) ∧ Below w.heap.size w w' := by
  obtain ⟨u, hu, qx, q0, q1, q2, q3, xu⟩ : ∃ u : S4, Hid (u = xorS s t) ∧ xorS (xsStep s) (xsStep t) = xsStep u ∧ s.a ^^^ t.a = u.a ∧ s.b ^^^ t.b = u.b ∧ s.c ^^^ t.c = u.c ∧ s.d ^^^ t.d = u.d
      ∧ (∀ w : World, Calls Try.prog 17 #[.agg #[.int .u64 (ui s.a), .int .u64 (ui s.b), .int .u64 (ui s.c), .int .u64 (ui s.d)], .agg #[.int .u64 (ui t.a), .int .u64 (ui t.b), .int .u64 (ui t.c), .int .u64 (ui t.d)]] w fun e w' => e = .returned (.agg #[.int .u64 (ui u.a), .int .u64 (ui u.b), .int .u64 (ui u.c), .int .u64 (ui u.d)]) ∧ Below w.heap.size w w') :=
    ⟨xorS s t, Lib.hid rfl, (xsStep_xor s t).symm, rfl, rfl, rfl, rfl, xor_any s t⟩
  go_enter Try.func5, Try.ntmps5
  go_wp2_with fail
  refine (awake09_any _).mono ?_
  rintro e w1 ⟨rfl, b1⟩
  have hF : Four w1 w.heap.size (ui s.a) (ui s.b) (ui s.c) (ui s.d) := Four.below ((Four.newAt _ _ _ _ _ _ _ rfl).alloc _) b1 (by simp; omega)
  have hG : Four w1 (w.heap.size + 1) (ui t.a) (ui t.b) (ui t.c) (ui t.d) := Four.below (Four.newAt _ _ _ _ _ _ _ (by simp)) b1 (by simp)
  have hB : Below w.heap.size w w1 := (((Below.refl _ _).alloc (Nat.le_refl _) _).alloc (by simp) _).trans (b1.mono (by simp; omega))
  clear b1
  obtain ⟨c0, c1, c2, c3, f0, f1, f2, f3, hl⟩ := id hF
  obtain ⟨d0, d1, d2, d3, g0, g1, g2, g3, hl2⟩ := id hG
  go_wp2_with fail
  refine (xu _).mono ?_
  rintro e w2 ⟨rfl, b2⟩
  have hF2 := hF.below b2 hF.lt
  have hG2 := hG.below b2 hG.lt
  have hB2 := hB.trans (b2.mono hB.size)
  clear hF hG hB b2 c0 c1 c2 c3 f0 f1 f2 f3 hl d0 d1 d2 d3 g0 g1 g2 g3 hl2
  go_wp2_with fail
  have hlt := hG2.lt
  have hlt2 := hF2.lt
  go_loopw [6] (fun i wr => ∃ k : Nat, k ≤ 4 ∧ i = .int .i64 k ∧ Four wr w.heap.size (ui s.a) (ui s.b) (ui s.c) (ui s.d) ∧ Four wr (w.heap.size + 1) (ui t.a) (ui t.b) (ui t.c) (ui t.d) ∧ Four wr w2.heap.size (ui u.a) (ui u.b) (ui u.c) (ui u.d) ∧ Below w.heap.size w wr) (fun i _ => 4 - (intOf i).toNat)
  case atStart => exact ⟨0, by omega, rfl, hF2.alloc _, hG2.alloc _, Four.newAt _ _ _ _ _ _ _ rfl, hB2.alloc (by omega) _⟩
  case round =>
    obtain ⟨k, hk, rfl, h1, h2, h3, hb⟩ := hrel
    obtain ⟨c0, c1, c2, c3, f0, f1, f2, f3, hl⟩ := id h1
    obtain ⟨d0, d1, d2, d3, g0, g1, g2, g3, hl2⟩ := id h2
    obtain ⟨e0, e1, e2, e3, k0, k1, k2, k3, hl3⟩ := id h3
    match k, hk with
    | 0, hk =>
      go_wp2_with fail
      go_region
      go_wp2_with fail
      go_roundw
      case rel => exact ⟨1, by omega, rfl, h1.drew, h2.drew, h3.drew, hb.drew⟩
      case measure => simp [intOf]
    | 1, hk =>
      go_wp2_with fail
      go_region
      go_wp2_with fail
      go_roundw
      case rel => exact ⟨2, by omega, rfl, h1.drew, h2.drew, h3.drew, hb.drew⟩
      case measure => simp [intOf]
    | 2, hk =>
      go_wp2_with fail
      go_region
      go_wp2_with fail
      go_roundw
      case rel => exact ⟨3, by omega, rfl, h1.drew, h2.drew, h3.drew, hb.drew⟩
      case measure => simp [intOf]
    | 3, hk =>
      go_wp2_with fail
      go_region
      go_wp2_with fail
      go_roundw
      case rel => exact ⟨4, by omega, rfl, h1.drew, h2.drew, h3.drew, hb.drew⟩
      case measure => simp [intOf]
    | 4, hk =>
      go_wp2_with fail
      have hz : Four (wr.alloc (.cells #[.int .u64 0, .int .u64 0, .int .u64 0, .int .u64 0] 23)) wr.heap.size 0 0 0 0 := Four.newAt _ _ _ _ _ _ _ rfl
      have hS : HL w w2.heap.size wr.heap.size s t u (wr.alloc (.cells #[.int .u64 0, .int .u64 0, .int .u64 0, .int .u64 0] 23)) :=
        ⟨(h1.alloc _).c0, (h1.alloc _).c1, (h1.alloc _).c2, (h1.alloc _).c3, (h2.alloc _).c0, (h2.alloc _).c1, (h2.alloc _).c2, (h2.alloc _).c3, (h3.alloc _).c0, (h3.alloc _).c1, (h3.alloc _).c2, (h3.alloc _).c3, hz.c0, hz.c1, hz.c2, hz.c3, (h1.alloc _).lt, (h2.alloc _).lt, (h3.alloc _).lt, hz.lt, hb.alloc (by omega) _⟩
      obtain ⟨m0, m1, m2, m3, m4, m5, m6, m7, m8, m9, m10, m11, m12, m13, m14, m15, _, _, _, _, hB3⟩ := id hS
      go_region_held3 (fun w' => w'.cell? ⟨w.heap.size, 0, none⟩ = some (.int .u64 (ui s.a)) ∧ w'.cell? ⟨w.heap.size, 1, none⟩ = some (.int .u64 (ui s.b)) ∧ w'.cell? ⟨w.heap.size, 2, none⟩ = some (.int .u64 (ui s.c)) ∧ w'.cell? ⟨w.heap.size, 3, none⟩ = some (.int .u64 (ui s.d)) ∧ w'.cell? ⟨(w.heap.size + 1), 0, none⟩ = some (.int .u64 (ui t.a)) ∧ w'.cell? ⟨(w.heap.size + 1), 1, none⟩ = some (.int .u64 (ui t.b)) ∧ w'.cell? ⟨(w.heap.size + 1), 2, none⟩ = some (.int .u64 (ui t.c)) ∧ w'.cell? ⟨(w.heap.size + 1), 3, none⟩ = some (.int .u64 (ui t.d)) ∧ w'.cell? ⟨w2.heap.size, 0, none⟩ = some (.int .u64 (ui u.a)) ∧ w'.cell? ⟨w2.heap.size, 1, none⟩ = some (.int .u64 (ui u.b)) ∧ w'.cell? ⟨w2.heap.size, 2, none⟩ = some (.int .u64 (ui u.c)) ∧ w'.cell? ⟨w2.heap.size, 3, none⟩ = some (.int .u64 (ui u.d)) ∧ w'.cell? ⟨wr.heap.size, 0, none⟩ = some (.int .u64 (ui zero4.a)) ∧ w'.cell? ⟨wr.heap.size, 1, none⟩ = some (.int .u64 (ui zero4.b)) ∧ w'.cell? ⟨wr.heap.size, 2, none⟩ = some (.int .u64 (ui zero4.c)) ∧ w'.cell? ⟨wr.heap.size, 3, none⟩ = some (.int .u64 (ui zero4.d)) ∧ w.heap.size < w'.heap.size ∧ w.heap.size + 1 < w'.heap.size ∧ w2.heap.size < w'.heap.size ∧ wr.heap.size < w'.heap.size ∧ Below w.heap.size w w') (first | (apply hl_below; assumption; assumption) | exact hl_drew hS)
        (first
          | (go_at_call 12; refine (xstep_any _ _).mono ?_; rintro e w' ⟨rfl, b⟩)
          | (go_at_call 17; refine (xor_any _ _ _).mono ?_; rintro e w' ⟨rfl, b⟩)
          | (go_at_call 18; refine (zero_any _ _).mono ?_; rintro e w' ⟨rfl, b⟩))
      go_wp2_with fail
      go_ret
      refine ⟨rfl, ?_⟩
      apply hl_last (s := s) (t := t) (u := u)
      assumption
end Go.Proofs.Ytekegcahjmnceaa
