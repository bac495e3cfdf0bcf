/- The walks of chapter 1's reference: sums, differences, products, comparisons and quotients bit by bit. No condition but on lengths. -/
import Derived.Test.YtodflmngbkiemaaR01
namespace Go.Proofs.Ytodflmngbkiemaa
open Go.RowKit
/-! carries -/
def carN (x y k : Nat) : Nat := (x % 2 ^ k + y % 2 ^ k) / 2 ^ k
theorem mod_next (x k : Nat) : x % 2 ^ (k + 1) = x % 2 ^ k + 2 ^ k * (x / 2 ^ k % 2) := by rw [Nat.pow_succ, Nat.mod_mul]
/-- a call that hands back a new slice, and a number that nobody asks for -/
def RetS2 (us : List Value) (w : World) (en : Ending) (w' : World) : Prop :=
  ∃ v c, en = .returned (.tuple #[v, .int .i64 c]) ∧ w'.ownsRow w.heap.size 3 1 v us.length us ∧ Below w.heap.size w w'
theorem car_le (x y k : Nat) : carN x y k ≤ 1 := by
  unfold carN
  have h1 := Nat.mod_lt x (Nat.two_pow_pos k)
  have h2 := Nat.mod_lt y (Nat.two_pow_pos k)
  have : (x % 2 ^ k + y % 2 ^ k) / 2 ^ k < 2 := (Nat.div_lt_iff_lt_mul (Nat.two_pow_pos k)).2 (by omega)
  omega
theorem car_next (x y k : Nat) : carN x y (k + 1) = (x / 2 ^ k % 2 + y / 2 ^ k % 2 + carN x y k) / 2 := by
  unfold carN
  rw [mod_next x k, mod_next y k, Nat.pow_succ]
  have e : x % 2 ^ k + 2 ^ k * (x / 2 ^ k % 2) + (y % 2 ^ k + 2 ^ k * (y / 2 ^ k % 2)) = (x % 2 ^ k + y % 2 ^ k) + 2 ^ k * (x / 2 ^ k % 2 + y / 2 ^ k % 2) := by rw [Nat.mul_add]; omega
  rw [e, ← Nat.div_div_eq_div_mul, Nat.add_mul_div_left _ _ (Nat.two_pow_pos k)]
  congr 1; omega
theorem bit_sum (x y k : Nat) : (x + y) / 2 ^ k % 2 = (x / 2 ^ k % 2 + y / 2 ^ k % 2 + carN x y k) % 2 := by
  have e : (x + y) / 2 ^ k = x / 2 ^ k + y / 2 ^ k + carN x y k := by
    unfold carN
    have hx := Nat.div_add_mod x (2 ^ k)
    have hy := Nat.div_add_mod y (2 ^ k)
    have e2 : x + y = (x % 2 ^ k + y % 2 ^ k) + 2 ^ k * (x / 2 ^ k + y / 2 ^ k) := by rw [Nat.mul_add]; omega
    rw [e2, Nat.add_mul_div_left _ _ (Nat.two_pow_pos k)]; omega
  rw [e]; omega
/-! what is lacking -/
def lackN (x y k : Nat) : Nat := if x % 2 ^ k < y % 2 ^ k then 1 else 0
theorem lack_next (x y k : Nat) : (lackN x y (k + 1) : Int) = 1 - ((x / 2 ^ k % 2 : Nat) - (y / 2 ^ k % 2 : Nat) - (lackN x y k : Int) + 2) / 2 := by
  have h1 := Nat.mod_lt x (Nat.two_pow_pos k)
  have h2 := Nat.mod_lt y (Nat.two_pow_pos k)
  unfold lackN
  rw [mod_next x k, mod_next y k]
  rcases Nat.mod_two_eq_zero_or_one (x / 2 ^ k) with a | a <;> rcases Nat.mod_two_eq_zero_or_one (y / 2 ^ k) with b | b <;> rw [a, b] <;> simp only [Nat.mul_zero, Nat.mul_one, Nat.add_zero]
  · split <;> simp
  · rw [if_pos (by omega)]; split <;> simp
  · rw [if_neg (by omega)]; split <;> simp
  · by_cases hc : x % 2 ^ k < y % 2 ^ k
    · rw [if_pos (by omega), if_pos hc]; simp
    · rw [if_neg (by omega), if_neg hc]; simp
theorem bit_diff (x y k : Nat) (h : y ≤ x) : (((x - y) / 2 ^ k % 2 : Nat) : Int) = ((x / 2 ^ k % 2 : Nat) - (y / 2 ^ k % 2 : Nat) - (lackN x y k : Int) + 2) % 2 := by
  have e : (x - y) / 2 ^ k + y / 2 ^ k + lackN x y k = x / 2 ^ k := by
    have hx := Nat.div_add_mod x (2 ^ k)
    have hy := Nat.div_add_mod y (2 ^ k)
    have h1 := Nat.mod_lt x (Nat.two_pow_pos k)
    have h2 := Nat.mod_lt y (Nat.two_pow_pos k)
    unfold lackN
    have hle : y / 2 ^ k ≤ x / 2 ^ k := Nat.div_le_div_right h
    split
    · rename_i hlt
      have hlt2 : y / 2 ^ k < x / 2 ^ k := by
        apply Nat.lt_of_not_le
        intro hge
        have he : x / 2 ^ k = y / 2 ^ k := by omega
        rw [he] at hx; omega
      obtain ⟨d, hd⟩ : ∃ d, x / 2 ^ k = y / 2 ^ k + d + 1 := ⟨x / 2 ^ k - y / 2 ^ k - 1, by omega⟩
      have e2 : x - y = (2 ^ k + x % 2 ^ k - y % 2 ^ k) + 2 ^ k * d := by
        rw [hd, Nat.mul_add, Nat.mul_add, Nat.mul_one] at hx; omega
      rw [e2, Nat.add_mul_div_left _ _ (Nat.two_pow_pos k), Nat.div_eq_of_lt (by omega)]
      omega
    · rename_i hge
      obtain ⟨d, hd⟩ : ∃ d, x / 2 ^ k = y / 2 ^ k + d := ⟨x / 2 ^ k - y / 2 ^ k, by omega⟩
      have e2 : x - y = (x % 2 ^ k - y % 2 ^ k) + 2 ^ k * d := by
        rw [hd, Nat.mul_add] at hx; omega
      rw [e2, Nat.add_mul_div_left _ _ (Nat.two_pow_pos k), Nat.div_eq_of_lt (by omega)]
      omega
  omega
theorem add_any (va vb : Value) (x y m1 m2 : Nat) (hx : x < 2 ^ m1) (hy : y < 2 ^ m2) (hm1 : m1 ≤ 1000) (hm2 : m2 ≤ 1000) (n : Int) (hn : n ≤ 1000) (w : World) (sx : SlV w va (bvs x m1)) (sy : SlV w vb (bvs y m2)) :
    Calls Try.prog 69 #[va, vb, .int .i64 n] w (RetS2 (bvs (x + y) n.toNat) w) := by
  obtain ⟨i0, hi, hz0, hz1, hz2⟩ := info_parts info_int
  go_enter Try.func69, Try.ntmps69
  go_wp2_with fail
  go_loopw [8, 9, 10] (fun r c i wr => ∃ k : Nat, k ≤ n.toNat ∧ i = .int .i64 k ∧ c = .int .i64 (carN x y k) ∧ wr.ownsRow w.heap.size 3 1 r k (bvs (x + y) k) ∧ Below w.heap.size w wr) (fun _ _ i _ => (1000 - intOf i).toNat)
  case atStart => exact ⟨0, by omega, rfl, by unfold carN; simp [Nat.mod_one], World.ownsRow_nil _ _ _ _, Below.refl _ _⟩
  case round =>
    obtain ⟨k, hk, rfl, rfl, hown, hb⟩ := hrel
    by_cases h1 : (k : Int) < n
    · have a1 := bi_01 x k
      have a2 := bi_01 y k
      have a3 := car_le x y k
      have hs : (bi x k + bi y k + (carN x y k : Int)) % 2 = bi (x + y) k := by
        unfold bi; rw [bit_sum]; omega
      have hc : (bi x k + bi y k + (carN x y k : Int)) / 2 = (carN x y (k + 1) : Int) := by
        unfold bi; rw [car_next]; omega
      have HS := Lib.hid hs
      have HC := Lib.hid hc
      clear hs hc
      go_wp2_with fail
      refine (at_any va x m1 hx hm1 _ _ (sx.below hb)).mono ?_
      rw [atZ_nat]
      rintro e w' ⟨rfl, rfl⟩
      go_wp2_with fail
      refine (at_any vb y m2 hy hm2 _ _ (sy.below hb)).mono ?_
      rw [atZ_nat]
      rintro e w' ⟨rfl, rfl⟩
      go_wp2_with (at_builtin; refine wpList_append_own _ rfl _ _ 25 rfl w.heap.size 3 i0 (.int .i64 0) 1 8 Try.underlying25 hi hz0 hz1 hz2 rfl (by decide) _ _ _ rfl (hown.alloc _) ⟨wr.heap.size, 0, none⟩ 1 1 [.int .i64 ((bi x k + bi y k + (carN x y k : Int)) % 2)] rfl rfl ?c1 ?c2 ?c3 ?c4 ?c5 ?_)
      case c1 => exact cell_one_new _ _ _
      case c2 => intro u hu; simp at hu; subst hu; rfl
      case c3 => unfold maxLen; omega
      case c4 => omega
      case c5 => have := hb.size; simp; omega
      intro v' w1 hown' hgrow _
      have hB : Below w.heap.size w w1 := (hb.alloc hb.size _).grown hgrow (by have := hb.size; simp; omega) (fun q hq => (hown.lt q hq).1)
      rw [HS.out, ← bvs_snoc] at hown'
      clear hgrow hown
      go_wp2_with fail
      go_roundw
      case rel => exact ⟨k + 1, by omega, by go_num, v_i64 HC.out, hown', hB⟩
      case measure => simp [intOf]; omega
    · go_wp2_with fail
      go_ret2
      exact ⟨_, _, rfl, by rw [bvs_length, show n.toNat = k by omega]; exact hown, hb⟩
theorem sub_any (va vb : Value) (x y m1 m2 : Nat) (hx : x < 2 ^ m1) (hy : y < 2 ^ m2) (hxy : y ≤ x) (hm1 : m1 ≤ 1000) (hm2 : m2 ≤ 1000) (n : Int) (hn : n ≤ 1000) (w : World) (sx : SlV w va (bvs x m1)) (sy : SlV w vb (bvs y m2)) :
    Calls Try.prog 75 #[va, vb, .int .i64 n] w (RetS2 (bvs (x - y) n.toNat) w) := by
  obtain ⟨i0, hi, hz0, hz1, hz2⟩ := info_parts info_int
  go_enter Try.func75, Try.ntmps75
  go_wp2_with fail
  go_loopw [8, 9, 10] (fun r c i wr => ∃ k : Nat, k ≤ n.toNat ∧ i = .int .i64 k ∧ c = .int .i64 (lackN x y k) ∧ wr.ownsRow w.heap.size 3 1 r k (bvs (x - y) k) ∧ Below w.heap.size w wr) (fun _ _ i _ => (1000 - intOf i).toNat)
  case atStart => exact ⟨0, by omega, rfl, by unfold lackN; simp [Nat.mod_one], World.ownsRow_nil _ _ _ _, Below.refl _ _⟩
  case round =>
    obtain ⟨k, hk, rfl, rfl, hown, hb⟩ := hrel
    by_cases h1 : (k : Int) < n
    · have a1 := bi_01 x k
      have a2 := bi_01 y k
      have a3 : lackN x y k ≤ 1 := by unfold lackN; split <;> omega
      have hs : (bi x k - bi y k - (lackN x y k : Int)) % 2 = bi (x - y) k := by
        have := bit_diff x y k hxy
        unfold bi; omega
      have hc : 1 - (bi x k - bi y k - (lackN x y k : Int) + 2) / 2 = (lackN x y (k + 1) : Int) := by
        rw [lack_next]; rfl
      have HS := Lib.hid hs
      have HC := Lib.hid hc
      clear hs hc
      go_wp2_with fail
      refine (at_any va x m1 hx hm1 _ _ (sx.below hb)).mono ?_
      rw [atZ_nat]
      rintro e w' ⟨rfl, rfl⟩
      go_wp2_with fail
      refine (at_any vb y m2 hy hm2 _ _ (sy.below hb)).mono ?_
      rw [atZ_nat]
      rintro e w' ⟨rfl, rfl⟩
      go_wp2_with (at_builtin; refine wpList_append_own _ rfl _ _ 25 rfl w.heap.size 3 i0 (.int .i64 0) 1 8 Try.underlying25 hi hz0 hz1 hz2 rfl (by decide) _ _ _ rfl (hown.alloc _) ⟨wr.heap.size, 0, none⟩ 1 1 [.int .i64 ((bi x k - bi y k - (lackN x y k : Int)) % 2)] rfl rfl ?c1 ?c2 ?c3 ?c4 ?c5 ?_)
      case c1 => exact cell_one_new _ _ _
      case c2 => intro u hu; simp at hu; subst hu; rfl
      case c3 => unfold maxLen; omega
      case c4 => omega
      case c5 => have := hb.size; simp; omega
      intro v' w1 hown' hgrow _
      have hB : Below w.heap.size w w1 := (hb.alloc hb.size _).grown hgrow (by have := hb.size; simp; omega) (fun q hq => (hown.lt q hq).1)
      rw [HS.out, ← bvs_snoc] at hown'
      clear hgrow hown
      go_wp2_with fail
      go_roundw
      case rel => exact ⟨k + 1, by omega, by go_num, v_i64 (by have := HC.out; omega), hown', hB⟩
      case measure => simp [intOf]; omega
    · go_wp2_with fail
      go_ret2
      exact ⟨_, _, rfl, by rw [bvs_length, show n.toNat = k by omega]; exact hown, hb⟩
end Go.Proofs.Ytodflmngbkiemaa
