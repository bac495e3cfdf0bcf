/- The walks of chapter 7's functions (the mixers), the program's and the reference's. No condition. -/
import Derived.Test.YtekegcahjmnceaaW1
import Derived.Test.YtekegcahjmnceaaMem
import Derived.LoopTactic
import Derived.Laws.EntriesVeiled
namespace Go.Proofs.Ytekegcahjmnceaa
open Go.RowKit

/-- Unfold behind k rounds: where it stands is n times k + 1 -/
def UnfRel (n k p : Nat) : Prop := 1 ≤ n ∧ n ≤ 63 ∧ p = n * (k + 1) ∧ n * k < 64
theorem unfRel_start (n : Nat) (h : 1 ≤ n) (h2 : n ≤ 63) : UnfRel n 0 n := ⟨h, h2, by omega, by omega⟩
theorem UnfRel.bound {n k p : Nat} (h : UnfRel n k p) : 1 ≤ n ∧ n ≤ 63 ∧ n ≤ p ∧ p < 127 := by
  obtain ⟨h1, h2, h3, h4⟩ := h
  rw [Nat.mul_succ] at h3; omega
theorem UnfRel.next {n k p : Nat} (h : UnfRel n k p) (hp : p < 64) : UnfRel n (k + 1) (p + n) := by
  obtain ⟨h1, h2, h3, h4⟩ := h
  exact ⟨h1, h2, by rw [Nat.mul_succ]; omega, by omega⟩
theorem UnfRel.stop {n k p : Nat} (h : UnfRel n k p) (hp : 64 ≤ p) (z : BitVec 64) : unf z n k = unfoldB z n := by
  obtain ⟨h1, h2, h3, h4⟩ := h
  unfold unfoldB rounds
  congr 1
  symm
  apply Nat.div_eq_of_lt_le
  · rw [Nat.mul_comm]; omega
  · rw [Nat.mul_comm]; omega
/-- an argument of Fold and Unfold, cut to what there is -/
def cut63 (n : Int) : Nat := (min (max n 1) 63).toNat
theorem cut63_pos (n : Int) : 1 ≤ cut63 n := by unfold cut63; omega
theorem there1_any (bz bm : Nat) (z : BitVec 64) (a : Int) (w : World) (hz : w.cell? ⟨bz, 0, none⟩ = some (.int .u64 (ui z))) (hf : w.frozen? ⟨bz, 0, none⟩ = false) (hm : w.cell? ⟨bm, 0, none⟩ = some (.int .i64 a)) :
    Calls Try.prog 37 #[.pointer (some ⟨bz, 0, none⟩), .pointer (some ⟨bm, 0, none⟩)] w fun e w' => e = .returned (.tuple #[]) ∧ w' = w.setCell ⟨bz, 0, none⟩ (.int .u64 (ui (foldB z (cut63 a)))) := by
  go_enter Try.func37, Try.ntmps37
  go_wp2_with (go_at_call 38; refine (fold_any _ _ _).mono ?_; rintro e w' ⟨rfl, rfl⟩)
  go_end0
  exact ⟨rfl, rfl⟩
theorem there2_any (bz bm : Nat) (z x : BitVec 64) (w : World) (hz : w.cell? ⟨bz, 0, none⟩ = some (.int .u64 (ui z))) (hf : w.frozen? ⟨bz, 0, none⟩ = false) (hm : w.cell? ⟨bm, 3, none⟩ = some (.int .u64 (ui x))) :
    Calls Try.prog 39 #[.pointer (some ⟨bz, 0, none⟩), .pointer (some ⟨bm, 0, none⟩)] w fun e w' => e = .returned (.tuple #[]) ∧ w' = w.setCell ⟨bz, 0, none⟩ (.int .u64 (ui (z * x))) := by
  go_enter Try.func39, Try.ntmps39
  go_wp2
  go_end0
  exact ⟨rfl, rfl⟩
theorem there3_any (bz bm : Nat) (z : BitVec 64) (a : Int) (w : World) (hz : w.cell? ⟨bz, 0, none⟩ = some (.int .u64 (ui z))) (hf : w.frozen? ⟨bz, 0, none⟩ = false) (hm : w.cell? ⟨bm, 1, none⟩ = some (.int .i64 a)) :
    Calls Try.prog 40 #[.pointer (some ⟨bz, 0, none⟩), .pointer (some ⟨bm, 0, none⟩)] w fun e w' => e = .returned (.tuple #[]) ∧ w' = w.setCell ⟨bz, 0, none⟩ (.int .u64 (ui (foldB z (cut63 a)))) := by
  go_enter Try.func40, Try.ntmps40
  go_wp2_with (go_at_call 38; refine (fold_any _ _ _).mono ?_; rintro e w' ⟨rfl, rfl⟩)
  go_end0
  exact ⟨rfl, rfl⟩
theorem there4_any (bz bm : Nat) (z x : BitVec 64) (w : World) (hz : w.cell? ⟨bz, 0, none⟩ = some (.int .u64 (ui z))) (hf : w.frozen? ⟨bz, 0, none⟩ = false) (hm : w.cell? ⟨bm, 4, none⟩ = some (.int .u64 (ui x))) :
    Calls Try.prog 41 #[.pointer (some ⟨bz, 0, none⟩), .pointer (some ⟨bm, 0, none⟩)] w fun e w' => e = .returned (.tuple #[]) ∧ w' = w.setCell ⟨bz, 0, none⟩ (.int .u64 (ui (z * x))) := by
  go_enter Try.func41, Try.ntmps41
  go_wp2
  go_end0
  exact ⟨rfl, rfl⟩
theorem there5_any (bz bm : Nat) (z : BitVec 64) (a : Int) (w : World) (hz : w.cell? ⟨bz, 0, none⟩ = some (.int .u64 (ui z))) (hf : w.frozen? ⟨bz, 0, none⟩ = false) (hm : w.cell? ⟨bm, 2, none⟩ = some (.int .i64 a)) :
    Calls Try.prog 42 #[.pointer (some ⟨bz, 0, none⟩), .pointer (some ⟨bm, 0, none⟩)] w fun e w' => e = .returned (.tuple #[]) ∧ w' = w.setCell ⟨bz, 0, none⟩ (.int .u64 (ui (foldB z (cut63 a)))) := by
  go_enter Try.func42, Try.ntmps42
  go_wp2_with (go_at_call 38; refine (fold_any _ _ _).mono ?_; rintro e w' ⟨rfl, rfl⟩)
  go_end0
  exact ⟨rfl, rfl⟩

/-- a mixer's five cells -/
structure Five (w : World) (B : Nat) (a b c : Int) (x y : BitVec 64) : Prop where
  c0 : w.cell? ⟨B, 0, none⟩ = some (.int .i64 a)
  c1 : w.cell? ⟨B, 1, none⟩ = some (.int .i64 b)
  c2 : w.cell? ⟨B, 2, none⟩ = some (.int .i64 c)
  c3 : w.cell? ⟨B, 3, none⟩ = some (.int .u64 (ui x))
  c4 : w.cell? ⟨B, 4, none⟩ = some (.int .u64 (ui y))
theorem Five.other {w : World} {B : Nat} {a b c : Int} {x y : BitVec 64} (h : Five w B a b c x y) {p : Addr} (hp : p.block ≠ B) (v : Value) : Five (w.setCell p v) B a b c x y := by
  have e : ∀ o, (w.setCell p v).cell? ⟨B, o, none⟩ = w.cell? ⟨B, o, none⟩ := fun o => World.cell?_setCell_other _ _ _ _ (fun e => hp (by rw [e]))
  exact ⟨(e 0).trans h.c0, (e 1).trans h.c1, (e 2).trans h.c2, (e 3).trans h.c3, (e 4).trans h.c4⟩
/-- a mixer behind k of its five steps -/
def mixK (a b c : Int) (x y z : BitVec 64) : Nat → BitVec 64
  | 0 => z
  | 1 => foldB z (cut63 a)
  | 2 => foldB z (cut63 a) * x
  | 3 => foldB (foldB z (cut63 a) * x) (cut63 b)
  | 4 => foldB (foldB z (cut63 a) * x) (cut63 b) * y
  | _ => mixB (cut63 a) (cut63 b) (cut63 c) x y z
theorem there_any (a b c : Int) (x y z : BitVec 64) (w : World) :
    Calls Try.prog 35 #[.agg #[.int .i64 a, .int .i64 b, .int .i64 c, .int .u64 (ui x), .int .u64 (ui y)], .int .u64 (ui z)] w fun e w' => e = .returned (.int .u64 (ui (mixB (cut63 a) (cut63 b) (cut63 c) x y z))) ∧ Below w.heap.size w w' := by
  have i0 : ∀ w', (Instr.index 53 (.agg #[.func (.func 37) #[] #[.pointer (some ⟨w.heap.size + 1, 0, none⟩), .pointer (some ⟨w.heap.size, 0, none⟩)], .func (.func 39) #[] #[.pointer (some ⟨w.heap.size + 1, 0, none⟩), .pointer (some ⟨w.heap.size, 0, none⟩)], .func (.func 40) #[] #[.pointer (some ⟨w.heap.size + 1, 0, none⟩), .pointer (some ⟨w.heap.size, 0, none⟩)], .func (.func 41) #[] #[.pointer (some ⟨w.heap.size + 1, 0, none⟩), .pointer (some ⟨w.heap.size, 0, none⟩)], .func (.func 42) #[] #[.pointer (some ⟨w.heap.size + 1, 0, none⟩), .pointer (some ⟨w.heap.size, 0, none⟩)]]) (.int .i64 0)).run Try.prog w' = .ok (.func (.func 37) #[] #[.pointer (some ⟨w.heap.size + 1, 0, none⟩), .pointer (some ⟨w.heap.size, 0, none⟩)]) w' := fun _ => by kernel_rfl
  have i1 : ∀ w', (Instr.index 53 (.agg #[.func (.func 37) #[] #[.pointer (some ⟨w.heap.size + 1, 0, none⟩), .pointer (some ⟨w.heap.size, 0, none⟩)], .func (.func 39) #[] #[.pointer (some ⟨w.heap.size + 1, 0, none⟩), .pointer (some ⟨w.heap.size, 0, none⟩)], .func (.func 40) #[] #[.pointer (some ⟨w.heap.size + 1, 0, none⟩), .pointer (some ⟨w.heap.size, 0, none⟩)], .func (.func 41) #[] #[.pointer (some ⟨w.heap.size + 1, 0, none⟩), .pointer (some ⟨w.heap.size, 0, none⟩)], .func (.func 42) #[] #[.pointer (some ⟨w.heap.size + 1, 0, none⟩), .pointer (some ⟨w.heap.size, 0, none⟩)]]) (.int .i64 1)).run Try.prog w' = .ok (.func (.func 39) #[] #[.pointer (some ⟨w.heap.size + 1, 0, none⟩), .pointer (some ⟨w.heap.size, 0, none⟩)]) w' := fun _ => by kernel_rfl
  have i2 : ∀ w', (Instr.index 53 (.agg #[.func (.func 37) #[] #[.pointer (some ⟨w.heap.size + 1, 0, none⟩), .pointer (some ⟨w.heap.size, 0, none⟩)], .func (.func 39) #[] #[.pointer (some ⟨w.heap.size + 1, 0, none⟩), .pointer (some ⟨w.heap.size, 0, none⟩)], .func (.func 40) #[] #[.pointer (some ⟨w.heap.size + 1, 0, none⟩), .pointer (some ⟨w.heap.size, 0, none⟩)], .func (.func 41) #[] #[.pointer (some ⟨w.heap.size + 1, 0, none⟩), .pointer (some ⟨w.heap.size, 0, none⟩)], .func (.func 42) #[] #[.pointer (some ⟨w.heap.size + 1, 0, none⟩), .pointer (some ⟨w.heap.size, 0, none⟩)]]) (.int .i64 2)).run Try.prog w' = .ok (.func (.func 40) #[] #[.pointer (some ⟨w.heap.size + 1, 0, none⟩), .pointer (some ⟨w.heap.size, 0, none⟩)]) w' := fun _ => by kernel_rfl
  have i3 : ∀ w', (Instr.index 53 (.agg #[.func (.func 37) #[] #[.pointer (some ⟨w.heap.size + 1, 0, none⟩), .pointer (some ⟨w.heap.size, 0, none⟩)], .func (.func 39) #[] #[.pointer (some ⟨w.heap.size + 1, 0, none⟩), .pointer (some ⟨w.heap.size, 0, none⟩)], .func (.func 40) #[] #[.pointer (some ⟨w.heap.size + 1, 0, none⟩), .pointer (some ⟨w.heap.size, 0, none⟩)], .func (.func 41) #[] #[.pointer (some ⟨w.heap.size + 1, 0, none⟩), .pointer (some ⟨w.heap.size, 0, none⟩)], .func (.func 42) #[] #[.pointer (some ⟨w.heap.size + 1, 0, none⟩), .pointer (some ⟨w.heap.size, 0, none⟩)]]) (.int .i64 3)).run Try.prog w' = .ok (.func (.func 41) #[] #[.pointer (some ⟨w.heap.size + 1, 0, none⟩), .pointer (some ⟨w.heap.size, 0, none⟩)]) w' := fun _ => by kernel_rfl
  have i4 : ∀ w', (Instr.index 53 (.agg #[.func (.func 37) #[] #[.pointer (some ⟨w.heap.size + 1, 0, none⟩), .pointer (some ⟨w.heap.size, 0, none⟩)], .func (.func 39) #[] #[.pointer (some ⟨w.heap.size + 1, 0, none⟩), .pointer (some ⟨w.heap.size, 0, none⟩)], .func (.func 40) #[] #[.pointer (some ⟨w.heap.size + 1, 0, none⟩), .pointer (some ⟨w.heap.size, 0, none⟩)], .func (.func 41) #[] #[.pointer (some ⟨w.heap.size + 1, 0, none⟩), .pointer (some ⟨w.heap.size, 0, none⟩)], .func (.func 42) #[] #[.pointer (some ⟨w.heap.size + 1, 0, none⟩), .pointer (some ⟨w.heap.size, 0, none⟩)]]) (.int .i64 4)).run Try.prog w' = .ok (.func (.func 42) #[] #[.pointer (some ⟨w.heap.size + 1, 0, none⟩), .pointer (some ⟨w.heap.size, 0, none⟩)]) w' := fun _ => by kernel_rfl
  go_enter Try.func35, Try.ntmps35
  go_wp2_with fail
  go_loopw [15] (fun i wr => ∃ k : Nat, k ≤ 5 ∧ i = .int .i64 k ∧ One wr (w.heap.size + 1) (.int .u64 (ui (mixK a b c x y z k))) ∧ Five wr w.heap.size a b c x y ∧ Below w.heap.size w wr) (fun i _ => 5 - (intOf i).toNat)
  case atStart =>
    refine ⟨0, by omega, rfl, ((One.newAt _ _ _ _ (by simp)).alloc _), ?_, ((((Below.refl _ _).alloc (Nat.le_refl _) _).alloc (by simp) _).alloc (by simp; omega) _)⟩
    exact ⟨by simp [go_sem], by simp [go_sem], by simp [go_sem], by simp [go_sem], by simp [go_sem]⟩
  case round =>
    obtain ⟨k, hk, rfl, hO, hV, hb⟩ := hrel
    have hO' := hO
    have hV' := hV
    obtain ⟨o0, of, ol⟩ := hO'
    obtain ⟨v0, v1, v2, v3, v4⟩ := hV'
    match k, hk with
    | 0, hk =>
      go_wp2_with fail
      refine (there1_any _ _ _ _ _ o0 of v0).mono ?_
      rintro e w' ⟨rfl, rfl⟩
      go_wp2_with fail
      go_roundw
      case rel => exact ⟨1, by omega, rfl, hO.set _, hV.other (by simp) _, hb.setCell (by simp) _⟩
      case measure => simp [intOf]
    | 1, hk =>
      go_wp2_with fail
      refine (there2_any _ _ _ _ _ o0 of v3).mono ?_
      rintro e w' ⟨rfl, rfl⟩
      go_wp2_with fail
      go_roundw
      case rel => exact ⟨2, by omega, rfl, hO.set _, hV.other (by simp) _, hb.setCell (by simp) _⟩
      case measure => simp [intOf]
    | 2, hk =>
      go_wp2_with fail
      refine (there3_any _ _ _ _ _ o0 of v1).mono ?_
      rintro e w' ⟨rfl, rfl⟩
      go_wp2_with fail
      go_roundw
      case rel => exact ⟨3, by omega, rfl, hO.set _, hV.other (by simp) _, hb.setCell (by simp) _⟩
      case measure => simp [intOf]
    | 3, hk =>
      go_wp2_with fail
      refine (there4_any _ _ _ _ _ o0 of v4).mono ?_
      rintro e w' ⟨rfl, rfl⟩
      go_wp2_with fail
      go_roundw
      case rel => exact ⟨4, by omega, rfl, hO.set _, hV.other (by simp) _, hb.setCell (by simp) _⟩
      case measure => simp [intOf]
    | 4, hk =>
      go_wp2_with fail
      refine (there5_any _ _ _ _ _ o0 of v2).mono ?_
      rintro e w' ⟨rfl, rfl⟩
      go_wp2_with fail
      go_roundw
      case rel => exact ⟨5, by omega, rfl, hO.set _, hV.other (by simp) _, hb.setCell (by simp) _⟩
      case measure => simp [intOf]
    | 5, hk =>
      go_wp2_with fail
      go_ret
      exact ⟨rfl, hb⟩
theorem split_mixer : mixB (cut63 30) (cut63 27) (cut63 31) splitC1 splitC2 = splitB := rfl
theorem fmix_mixer : mixB (cut63 33) (cut63 33) (cut63 33) fmixC1 fmixC2 = fmixB := rfl

theorem split_mixer_any (w : World) :
    Calls Try.prog 34 #[] w fun e w' => e = .returned (.agg #[.int .i64 30, .int .i64 27, .int .i64 31, .int .u64 13787848793156543929, .int .u64 10723151780598845931]) ∧ Below w.heap.size w w' := by
  go_enter Try.func34, Try.ntmps34
  go_wp2
  exact bodyPost_ret (v := .agg #[.int .i64 30, .int .i64 27, .int .i64 31, .int .u64 13787848793156543929, .int .u64 10723151780598845931]) (by simp [results, Try.results34, go_sem]) rfl ⟨rfl, (Below.refl _ _).alloc (Nat.le_refl _) _⟩
theorem split_there (z : BitVec 64) (w : World) :
    Calls Try.prog 35 #[.agg #[.int .i64 30, .int .i64 27, .int .i64 31, .int .u64 13787848793156543929, .int .u64 10723151780598845931], .int .u64 (ui z)] w fun e w' => e = .returned (.int .u64 (ui (splitB z))) ∧ Below w.heap.size w w' := by
  rw [lit_s1, lit_s2]
  exact there_any _ _ _ _ _ z w
theorem mixSplit_any (z : BitVec 64) (w : World) :
    Calls Try.prog 32 #[.int .u64 (ui z)] w fun e w' => e = .returned (.int .u64 (ui (splitB z))) ∧ Below w.heap.size w w' := by
  go_enter Try.func32, Try.ntmps32
  go_wp2_with fail
  refine (split_mixer_any _).mono ?_
  rintro e w1 ⟨rfl, b1⟩
  go_wp2_with fail
  refine (split_there _ _).mono ?_
  rintro e w2 ⟨rfl, b2⟩
  go_wp2
  go_ret
  exact ⟨rfl, b1.trans (b2.mono b1.size)⟩

theorem fmix_there (z : BitVec 64) (w : World) :
    Calls Try.prog 35 #[.agg #[.int .i64 33, .int .i64 33, .int .i64 33, .int .u64 18397679294719823053, .int .u64 14181476777654086739], .int .u64 (ui z)] w fun e w' => e = .returned (.int .u64 (ui (fmixB z))) ∧ Below w.heap.size w w' := by
  rw [lit_f1, lit_f2]
  exact there_any _ _ _ _ _ z w
end Go.Proofs.Ytekegcahjmnceaa
