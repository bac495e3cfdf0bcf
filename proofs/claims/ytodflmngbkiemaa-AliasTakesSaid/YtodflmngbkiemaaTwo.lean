/- Numbers of two words: products, quotients, comparisons walked. No condition but its own. -/
import Derived.Shelf.Bits.Mul64
import Derived.Test.YtodflmngbkiemaaTape
import Derived.Test.YtodflmngbkiemaaR01c
import Derived.Test.YtodflmngbkiemaaWDiv
import Derived.Test.YtodflmngbkiemaaPlLem
namespace Go.Proofs.Ytodflmngbkiemaa
open Go.RowKit
theorem ret_t3 {a b c a' b' c' : Value} (h : a = a') (h2 : b = b') (h3 : c = c') : Ending.returned (.tuple #[a, b, c]) = .returned (.tuple #[a', b', c']) := by rw [h, h2, h3]
theorem to2_any (va : Value) (v m : Nat) (hv : v < 2 ^ m) (hm : m ≤ 1000) (w : World) (hx : SlV w va (bvs v m)) :
    Calls Try.prog 65 #[va] w fun e w' => e = .returned (.agg #[.int .u64 (ui (BitVec.ofNat 64 (v / 2 ^ 64))), .int .u64 (ui (BitVec.ofNat 64 v))]) ∧ Below w.heap.size w w' := by
  have hx2 : SlV (w.alloc (.cells #[.int .u64 0, .int .u64 0] 65)) va (bvs v m) := hx.below ((Below.refl _ _).alloc (Nat.le_refl _) _)
  have h1 := word_any va v m hv hm 64 (by omega) (by omega) _ hx2
  have h2 := word_any va v m hv hm 0 (by omega) (by omega) _ hx2
  rw [show Int.toNat 64 = 64 from rfl] at h1
  rw [show Int.toNat 0 = 0 from rfl, Nat.pow_zero, Nat.div_one] at h2
  generalize BitVec.ofNat 64 (v / 2 ^ 64) = hi at *
  generalize BitVec.ofNat 64 v = lo at *
  have H1 := Lib.hid h1
  have H2 := Lib.hid h2
  clear h1 h2 hx hx2 hv
  go_enter Try.func65, Try.ntmps65
  go_wp2_with fail
  refine H1.out.mono ?_
  rintro e w' ⟨rfl, rfl⟩
  go_wp2_with fail
  refine H2.out.mono ?_
  rintro e w' ⟨rfl, rfl⟩
  go_wp2_with fail
  exact bodyPost_ret (v := (.agg #[.int .u64 (ui hi), .int .u64 (ui lo)])) (by simp [results, Try.results65, go_sem]) rfl ⟨rfl, (Below.refl _ _).alloc (Nat.le_refl _) _⟩
/-- which of two is less -/
def cmpW (ah al bh bl_ : BitVec 64) : Int := if ah = bh ∧ al = bl_ then 0 else if ui ah < ui bh ∨ (ah = bh ∧ ui al < ui bl_) then -1 else 1
theorem cmp_any (ah al bh bl_ : BitVec 64) (w : World) :
    Calls Try.prog 41 #[.agg #[.int .u64 (ui ah), .int .u64 (ui al)], .agg #[.int .u64 (ui bh), .int .u64 (ui bl_)]] w fun e w' => e = .returned (.int .i64 (cmpW ah al bh bl_)) ∧ Below w.heap.size w w' := by
  go_enter Try.func41, Try.ntmps41
  go_wp2_with fail
  all_goals go_ret
  all_goals exact ⟨ret_i64 (by unfold cmpW; grind), ((Below.refl _ _).alloc (Nat.le_refl _) _).alloc (by simp) _⟩
theorem run_u128 (a b c d : BitVec 64) (w : World) : (Op.equalIn 10000 65 (.agg #[.int .u64 (ui a), .int .u64 (ui b)]) (.agg #[.int .u64 (ui c), .int .u64 (ui d)])).run Try.prog w = .ok (ui a == ui c && ui b == ui d) w := by
  have u3 := Try.underlying24
  have a3 := Try.isAgg24
  have z3 := Try.sizeOf24
  rw [show (10000 : Nat) = 9999 + 1 from rfl, Op.equalIn]
  simp only [Sem.run_bind, run_underlying Try.underlying65, Result.andThen_ok]
  go_simp
  by_cases h1 : a = c <;> by_cases h2 : b = d <;> simp [h1, h2]
def lays264_ren : Go.Shelf.Ren := ⟨fun | 264 => 77 | n => n, fun | 53 => 24 | 46 => 118 | n => n, fun | n => n⟩
theorem lays264 : Go.Proofs.Lays.n264 Try.prog lays264_ren := {
  mixed := by kernel_rfl
  f264 := Try.func77.trans (congrArg some (by kernel_rfl))
  t46 := Try.underlying118
  a46 := Try.isAgg118
  z46 := Try.sizeOf118
  v46 := Try.zeroValue118
  t53 := Try.underlying24
  a53 := Try.isAgg24
  z53 := Try.sizeOf24
  v53 := Try.zeroValue24 }
theorem bits_Mul64 (x y : Nat) (hx : x < 18446744073709551616) (hy : y < 18446744073709551616) (w : World) :
    Calls Try.prog 77 #[.int .u64 x, .int .u64 y] w fun e w' => e = .returned (.tuple #[.int .u64 ((x * y / 18446744073709551616 : Nat) : Int), .int .u64 ((x * y % 18446744073709551616 : Nat) : Int)]) ∧ w' = w := Any.bits_Mul64 lays264 x y hx hy w
theorem mul64_any (a b : BitVec 64) (w : World) :
    Calls Try.prog 77 #[.int .u64 (ui a), .int .u64 (ui b)] w fun e w' => e = .returned (.tuple #[.int .u64 (ui (mulHi a b)), .int .u64 (ui (a * b))]) ∧ w = w' := by
  have h := bits_Mul64 a.toNat b.toNat a.isLt b.isLt w
  rw [ui_def, ui_def, ui_def, ui_def, mulHi_nat, mul_lo_nat]
  exact h.mono fun _ _ h => ⟨h.1, h.2.symm⟩
theorem wmul_any (a b : BitVec 64) (w : World) :
    Calls Try.prog 66 #[.int .u64 (ui a), .int .u64 (ui b)] w fun e w' => e = .returned (.agg #[.int .u64 (ui (mulHi a b)), .int .u64 (ui (a * b))]) ∧ Below w.heap.size w w' := by
  go_enter Try.func66, Try.ntmps66
  go_wp2_with fail
  refine (mul64_any _ _ _).mono ?_
  rintro e w' ⟨rfl, rfl⟩
  go_wp2_with fail
  exact bodyPost_ret (v := (.agg #[.int .u64 (ui (mulHi a b)), .int .u64 (ui (a * b))])) (by simp [results, Try.results66, go_sem]) rfl ⟨rfl, (Below.refl _ _).alloc (Nat.le_refl _) _⟩
theorem wdiv_any (ah al b : BitVec 64) (hb : (b == 0#64) = false) (w : World) :
    Calls Try.prog 61 #[.agg #[.int .u64 (ui ah), .int .u64 (ui al)], .int .u64 (ui b)] w fun e w' => e = .returned (.tuple #[.agg #[.int .u64 (ui (divQ 0#64 ah b)), .int .u64 (ui (divQ (divR 0#64 ah b) al b))], .int .u64 (ui (divR (divR 0#64 ah b) al b))]) ∧ Below w.heap.size w w' := by
  have hp := pos_of_ne hb
  obtain ⟨-, -, -, hr⟩ := div_words ah al b hp
  have v1 := div64_any 0#64 ah b (by rw [ui_def, ui_def]; simpa using hp)
  have v2 := div64_any (divR 0#64 ah b) al b (by rw [ui_def, ui_def]; omega)
  have V1 := Lib.hid v1
  have V2 := Lib.hid v2
  clear v1 v2 hr hp
  go_enter Try.func61, Try.ntmps61
  go_wp2_with fail
  refine (V1.out _).mono ?_
  rintro e w' ⟨rfl, q1, rfl⟩
  go_wp2_with fail
  refine (V2.out _).mono ?_
  rintro e w' ⟨rfl, q2, rfl⟩
  go_wp2_with fail
  refine bodyPost_ret (v := .tuple #[.agg #[.int .u64 (ui (divQ 0#64 ah b)), .int .u64 (ui (divQ (divR 0#64 ah b) al b))], .int .u64 (ui (divR (divR 0#64 ah b) al b))]) (by simp [results, Try.results61, go_sem]) rfl ⟨rfl, ?_⟩
  exact below_set2 (below_drewN (((Below.refl _ _).alloc (Nat.le_refl _) _).alloc (by simp) _) _) (by simp) (by simp) _ _
end Go.Proofs.Ytodflmngbkiemaa
