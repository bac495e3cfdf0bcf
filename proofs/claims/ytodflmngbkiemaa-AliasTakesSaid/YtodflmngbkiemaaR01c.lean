/- The walks of chapter 1's reference: comparisons, products and quotients bit by bit. No condition but on lengths. -/
import Derived.Test.YtodflmngbkiemaaR01b
import Derived.Deep.Draws
import Derived.Laws.OwnMore
import Derived.Laws.Rows
namespace Go.Proofs.Ytodflmngbkiemaa
open Go.RowKit
theorem slV_bits {w : World} {v : Value} {x m : Nat} (h : SlV w v (bvs x m)) : ∃ ao cap, v = .slice ao m cap := by
  rcases h with ⟨he, ao, cap, rfl⟩ | ⟨b, o, cap, rfl, _⟩
  · have := congrArg List.length he
    rw [bvs_length] at this
    simp at this; subst this
    exact ⟨ao, cap, rfl⟩
  · exact ⟨_, cap, by rw [bvs_length]⟩
theorem slV_at {w : World} {ao : Option Addr} {cap x m : Nat} (h : SlV w (.slice ao m cap) (bvs x m)) (k : Nat) (hk : k < m) : ∃ b o, ao = some ⟨b, o, none⟩ ∧ w.cell? ⟨b, o + k, none⟩ = some (.int .i64 (bi x k)) := by
  rcases h with ⟨he, _⟩ | ⟨b, o, c, he, hc⟩
  · have := congrArg List.length he
    rw [bvs_length] at this
    simp at this; omega
  · injection he with e1 e2 e3
    exact ⟨b, o, e1, hc k _ (bvs_get x m k hk)⟩
/-- which of two numbers is less -/
def cmpN (x y : Nat) : Int := if x < y then -1 else if y < x then 1 else 0
theorem div_bit (x p : Nat) : x / 2 ^ p = 2 * (x / 2 ^ (p + 1)) + x / 2 ^ p % 2 := by
  rw [Nat.pow_succ, ← Nat.div_div_eq_div_mul]; omega
theorem less_of_bits {x y p : Nat} (h : x / 2 ^ (p + 1) = y / 2 ^ (p + 1)) (hb : bi x p < bi y p) : x < y := by
  have hx := div_bit x p
  have hy := div_bit y p
  unfold bi at hb
  apply Nat.lt_of_not_le
  intro hle
  have := Nat.div_le_div_right (c := 2 ^ p) hle
  omega
theorem same_bits {x y p : Nat} (h : x / 2 ^ (p + 1) = y / 2 ^ (p + 1)) (hb : bi x p = bi y p) : x / 2 ^ p = y / 2 ^ p := by
  have hx := div_bit x p
  have hy := div_bit y p
  unfold bi at hb
  omega
theorem cmp01_any (va vb : Value) (x y m1 m2 : Nat) (hx : x < 2 ^ m1) (hy : y < 2 ^ m2) (hlt : m2 < m1) (hm1 : m1 ≤ 1000) (w : World) (sx : SlV w va (bvs x m1)) (sy : SlV w vb (bvs y m2)) :
    Calls Try.prog 74 #[va, vb] w fun e w' => e = .returned (.int .i64 (cmpN x y)) ∧ w = w' := by
  obtain ⟨ao, cap, rfl⟩ := slV_bits sx
  obtain ⟨ao2, cap2, rfl⟩ := slV_bits sy
  have hmax : (m2 : Int) < (m1 : Int) := by omega
  have hmax3 : (0:Int) ≤ (m1 : Int) - 1 := by omega
  have SX := Lib.hid sx
  have SY := Lib.hid sy
  have hy1 : y < 2 ^ m1 := Nat.lt_of_lt_of_le hy (Nat.pow_le_pow_right (by decide) (by omega))
  clear sx sy
  go_enter Try.func74, Try.ntmps74
  go_wp2_with fail
  go_loop [5] (fun i => ∃ t : Nat, t ≤ m1 ∧ i = .int .i64 ((m1 : Int) - 1 - t) ∧ x / 2 ^ (m1 - t) = y / 2 ^ (m1 - t)) (fun i => (intOf i + 1).toNat)
  case atStart => exact ⟨0, by omega, by congr 1; omega, by rw [Nat.sub_zero, Nat.div_eq_of_lt hx, Nat.div_eq_of_lt hy1]⟩
  case round =>
    obtain ⟨t, ht, rfl, he⟩ := hrel
    by_cases h1 : t < m1
    · obtain ⟨p, hp⟩ : ∃ p, p = m1 - 1 - t := ⟨_, rfl⟩
      have e1 : m1 - t = p + 1 := by omega
      have e2 : (m1 : Int) - 1 - t = (p : Int) := by omega
      rw [e1] at he
      rw [e2]
      have hp1 : (p : Int) ≤ 999 := by omega
      have E := Lib.hid (And.intro e1 hp)
      have HE := Lib.hid he
      clear e1 e2 hp he
      have b1 := bi_01 x p
      have b2 := bi_01 y p
      rcases Int.lt_trichotomy (bi x p) (bi y p) with hb | hb | hb
      · have hr : cmpN x y = -1 := by unfold cmpN; rw [if_pos (less_of_bits HE.out hb)]
        have HR := Lib.hid hr
        clear hr
        go_wp2_with fail
        refine (at_any _ x m1 hx hm1 _ _ SX.out).mono ?_
        rw [atZ_nat]
        rintro e w' ⟨rfl, rfl⟩
        go_wp2_with fail
        refine (at_any _ y m2 hy (by omega) _ _ SY.out).mono ?_
        rw [atZ_nat]
        rintro e w' ⟨rfl, rfl⟩
        go_wp2_with fail
        go_ret
        exact ⟨ret_i64 HR.out.symm, rfl⟩
      · have hs := same_bits HE.out hb
        have HS := Lib.hid hs
        have HB := Lib.hid hb
        clear hs hb
        go_wp2_with fail
        refine (at_any _ x m1 hx hm1 _ _ SX.out).mono ?_
        rw [atZ_nat, HB.out]
        rintro e w' ⟨rfl, rfl⟩
        go_wp2_with fail
        refine (at_any _ y m2 hy (by omega) _ _ SY.out).mono ?_
        rw [atZ_nat]
        rintro e w' ⟨rfl, rfl⟩
        go_wp2_with fail
        refine (at_any _ x m1 hx hm1 _ _ SX.out).mono ?_
        rw [atZ_nat, HB.out]
        rintro e w' ⟨rfl, rfl⟩
        go_wp2_with fail
        refine (at_any _ y m2 hy (by omega) _ _ SY.out).mono ?_
        rw [atZ_nat]
        rintro e w' ⟨rfl, rfl⟩
        go_wp2_with fail
        go_round
        case rel => exact ⟨t + 1, by omega, by have := E.out.2; congr 1; omega, by rw [show m1 - (t + 1) = p by have := E.out.2; omega]; exact HS.out⟩
        case measure => simp [intOf]
      · have hl := less_of_bits HE.out.symm hb
        have hr : cmpN x y = 1 := by unfold cmpN; rw [if_neg (by omega), if_pos hl]
        have HR := Lib.hid hr
        clear hr hl
        go_wp2_with fail
        refine (at_any _ x m1 hx hm1 _ _ SX.out).mono ?_
        rw [atZ_nat]
        rintro e w' ⟨rfl, rfl⟩
        go_wp2_with fail
        refine (at_any _ y m2 hy (by omega) _ _ SY.out).mono ?_
        rw [atZ_nat]
        rintro e w' ⟨rfl, rfl⟩
        go_wp2_with fail
        refine (at_any _ x m1 hx hm1 _ _ SX.out).mono ?_
        rw [atZ_nat]
        rintro e w' ⟨rfl, rfl⟩
        go_wp2_with fail
        refine (at_any _ y m2 hy (by omega) _ _ SY.out).mono ?_
        rw [atZ_nat]
        rintro e w' ⟨rfl, rfl⟩
        go_wp2_with fail
        go_ret
        exact ⟨ret_i64 HR.out.symm, rfl⟩
    · obtain rfl : t = m1 := by omega
      rw [Nat.sub_self, Nat.pow_zero, Nat.div_one, Nat.div_one] at he
      subst he
      have hr : cmpN x x = 0 := by unfold cmpN; rw [if_neg (by omega), if_neg (by omega)]
      have HR := Lib.hid hr
      have e2 : (t : Int) - 1 - t = -1 := by omega
      rw [e2]
      clear hr e2
      go_wp2_with fail
      go_ret
      exact ⟨ret_i64 HR.out.symm, rfl⟩
theorem mul_step (x y k : Nat) : x * (y % 2 ^ (k + 1)) = x * (y % 2 ^ k) + (y / 2 ^ k % 2) * (x * 2 ^ k) := by
  rw [mod_next, Nat.mul_add]
  congr 1
  rw [Nat.mul_comm (y / 2 ^ k % 2), Nat.mul_assoc]
theorem mul_bound (x y k n : Nat) (h : x * y < 2 ^ n) : x * (y % 2 ^ k) < 2 ^ n := Nat.lt_of_le_of_lt (Nat.mul_le_mul_left x (Nat.mod_le _ _)) h
theorem mul_any (va vb : Value) (x y m1 m2 : Nat) (hx : x < 2 ^ m1) (hy : y < 2 ^ m2) (hm1 : m1 ≤ 1000) (hm2 : m2 ≤ 1000) (n : Int) (hn0 : 0 ≤ n) (hn : n ≤ 300) (hxy : x * y < 2 ^ n.toNat) (w : World) (sx : SlV w va (bvs x m1)) (sy : SlV w vb (bvs y m2)) :
    Calls Try.prog 78 #[va, vb, .int .i64 n] w fun e w' => ∃ v, e = .returned v ∧ SlV w' v (bvs (x * y) n.toNat) ∧ Below w.heap.size w w' := by
  obtain ⟨ao2, cap2, rfl⟩ := slV_bits sy
  have SX := Lib.hid sx
  have SY := Lib.hid sy
  clear sx sy
  go_enter Try.func78, Try.ntmps78
  go_wp2_with fail
  refine (of_any 0#64 n hn _).mono ?_
  rintro e w1 ⟨v0, rfl, hown, b1⟩
  have hs0 := SlV.of_owns hown
  go_wp2_with fail
  go_loopw [7, 8] (fun o i wr => ∃ k : Nat, k ≤ m2 ∧ i = .int .i64 k ∧ SlV wr o (bvs (x * (y % 2 ^ k)) n.toNat) ∧ Below w.heap.size w wr) (fun _ i _ => m2 - (intOf i).toNat)
  case atStart => exact ⟨0, by omega, rfl, by rw [Nat.pow_zero, Nat.mod_one, Nat.mul_zero]; exact hs0, b1⟩
  case round =>
    obtain ⟨k, hk, rfl, hs, hb⟩ := hrel
    by_cases hlt : k < m2
    · obtain ⟨b, o, rfl, hc⟩ := slV_at (SY.out.below hb) k hlt
      have hlt' : (k : Int) < (m2 : Int) := by omega
      have hstep := mul_step x y k
      have HS := Lib.hid hs
      clear hs
      by_cases h1 : bi y k = 1
      · rw [h1] at hc
        have hbk : y / 2 ^ k % 2 = 1 := by unfold bi at h1; omega
        rw [hbk, Nat.one_mul] at hstep
        have HST := Lib.hid hstep
        have hsh : x * 2 ^ k < 2 ^ n.toNat := by
          have := mul_bound x y (k + 1) _ hxy
          rw [HST.out] at this; omega
        clear hstep h1 hbk
        go_wp2_with fail
        refine (shl_any va x m1 hx hm1 k n (by omega) (by omega) (by omega) _ (SX.out.below hb)).mono ?_
        rintro e w2 ⟨v2, rfl, hown2, b2⟩
        rw [bvs_length, Int.toNat_natCast] at hown2
        have hb2 := hb.trans (b2.mono hb.size)
        have hs2 := Lib.hid (SlV.of_owns hown2)
        have HS2 := Lib.hid (HS.out.below b2)
        clear hown2 b2 hc
        go_wp2_with fail
        refine (add_any _ _ _ _ n.toNat n.toNat (mul_bound x y k _ hxy) hsh (by omega) (by omega) n (by omega) _ HS2.out hs2.out).mono ?_
        rintro e w3 ⟨v3, c3, rfl, hown3, b3⟩
        rw [bvs_length] at hown3
        have hb3 := hb2.trans (b3.mono hb2.size)
        have hs3 := Lib.hid (SlV.of_owns hown3)
        clear hown3 b3
        go_wp2_with fail
        go_roundw
        case rel => exact ⟨k + 1, by omega, by go_num, by rw [HST.out]; exact hs3.out, hb3⟩
        case measure => simp [intOf]; omega
      · have h0 : bi y k = 0 := by have := bi_01 y k; omega
        rw [h0] at hc
        have hbk : y / 2 ^ k % 2 = 0 := by unfold bi at h0; omega
        rw [hbk, Nat.zero_mul, Nat.add_zero] at hstep
        have HST := Lib.hid hstep
        clear hstep h1 h0 hbk
        go_wp2_with fail
        go_roundw
        case rel => exact ⟨k + 1, by omega, by go_num, by rw [HST.out]; exact HS.out, hb⟩
        case measure => simp [intOf]; omega
    · obtain rfl : k = m2 := by omega
      have e := Nat.mod_eq_of_lt hy
      have HE := Lib.hid e
      clear e
      go_wp2_with fail
      go_ret
      refine ⟨_, rfl, ?_, hb⟩
      rw [HE.out] at hs
      exact hs
/-! quotients -/
theorem long_step (x y i : Nat) (_hy : 0 < y) :
    (y ≤ 2 * (x / 2 ^ (i + 1) % y) + x / 2 ^ i % 2 → x / 2 ^ i % y = 2 * (x / 2 ^ (i + 1) % y) + x / 2 ^ i % 2 - y ∧ x / 2 ^ i / y = 2 * (x / 2 ^ (i + 1) / y) + 1) ∧
    (2 * (x / 2 ^ (i + 1) % y) + x / 2 ^ i % 2 < y → x / 2 ^ i % y = 2 * (x / 2 ^ (i + 1) % y) + x / 2 ^ i % 2 ∧ x / 2 ^ i / y = 2 * (x / 2 ^ (i + 1) / y)) := by
  have hb := div_bit x i
  have hd := Nat.div_add_mod (x / 2 ^ (i + 1)) y
  have hm := Nat.mod_lt (x / 2 ^ (i + 1)) _hy
  have h2 : x / 2 ^ i % 2 ≤ 1 := by omega
  generalize x / 2 ^ (i + 1) % y = r at *
  generalize x / 2 ^ (i + 1) / y = q at *
  generalize x / 2 ^ i % 2 = c at *
  generalize x / 2 ^ (i + 1) = X at *
  rw [hb]
  have e : 2 * X + c = y * (2 * q) + (2 * r + c) := by
    rw [← hd, Nat.mul_add, ← Nat.mul_assoc, Nat.mul_comm 2 y, Nat.mul_assoc]; omega
  constructor
  · intro hge
    have e2 : 2 * X + c = (2 * r + c - y) + y * (2 * q + 1) := by rw [e, Nat.mul_add, Nat.mul_one]; omega
    rw [e2]
    constructor
    · rw [Nat.add_mul_mod_self_left, Nat.mod_eq_of_lt (by omega)]
    · rw [Nat.add_mul_div_left _ _ _hy, Nat.div_eq_of_lt (by omega), Nat.zero_add]
  · intro hlt
    have e2 : 2 * X + c = (2 * r + c) + y * (2 * q) := by rw [e]; omega
    rw [e2]
    constructor
    · rw [Nat.add_mul_mod_self_left, Nat.mod_eq_of_lt hlt]
    · rw [Nat.add_mul_div_left _ _ _hy, Nat.div_eq_of_lt hlt, Nat.zero_add]
/-- a bit laid at the low end -/
theorem bvs_set0 (r c n : Nat) (hc : c ≤ 1) : (bvs (r * 2 ^ 1) (n + 1)).set 0 (.int .i64 (c : Int)) = bvs (2 * r + c) (n + 1) := by
  apply List.ext_getElem?
  intro i
  rw [List.getElem?_set]
  by_cases h0 : i = 0
  · subst h0
    rw [if_pos rfl, if_pos (by rw [bvs_length]; omega), bvs_get _ _ 0 (by omega)]
    congr 2
    unfold bi
    rw [Nat.pow_zero, Nat.div_one]; omega
  · rw [if_neg (Ne.symm h0)]
    by_cases hi : i < n + 1
    · rw [bvs_get _ _ i hi, bvs_get _ _ i hi]
      congr 2
      unfold bi
      obtain ⟨d, rfl⟩ : ∃ d, i = d + 1 := ⟨i - 1, by omega⟩
      rw [Nat.pow_succ' (n := d), ← Nat.div_div_eq_div_mul, ← Nat.div_div_eq_div_mul, Nat.pow_one]
      congr 3; omega
    · rw [List.getElem?_eq_none (by rw [bvs_length]; omega), List.getElem?_eq_none (by rw [bvs_length]; omega)]
/-- a bit laid in a quotient -/
theorem bvs_setq (q i n : Nat) (hi : i < n) : (bvs (q * 2 ^ (i + 1)) n).set i (.int .i64 1) = bvs ((2 * q + 1) * 2 ^ i) n := by
  apply List.ext_getElem?
  intro j
  rw [List.getElem?_set]
  have e1 : q * 2 ^ (i + 1) = 2 * q * 2 ^ i := by rw [Nat.pow_succ, Nat.mul_comm 2 q, Nat.mul_assoc, Nat.mul_comm 2]
  by_cases h0 : i = j
  · subst h0
    rw [if_pos rfl, if_pos (by rw [bvs_length]; exact hi), bvs_get _ _ i hi]
    congr 2
    unfold bi
    rw [Nat.mul_div_cancel _ (Nat.two_pow_pos i)]; omega
  · rw [if_neg h0]
    by_cases hj : j < n
    · rw [bvs_get _ _ j hj, bvs_get _ _ j hj, e1]
      congr 2
      rcases Nat.lt_or_gt_of_ne h0 with h | h
      · unfold bi
        obtain ⟨d, rfl⟩ : ∃ d, j = i + (d + 1) := ⟨j - i - 1, by omega⟩
        rw [Nat.pow_add, ← Nat.div_div_eq_div_mul, ← Nat.div_div_eq_div_mul, Nat.mul_div_cancel _ (Nat.two_pow_pos i), Nat.mul_div_cancel _ (Nat.two_pow_pos i), Nat.pow_succ', ← Nat.div_div_eq_div_mul, ← Nat.div_div_eq_div_mul]
        congr 3; omega
      · have z : ∀ t : Nat, bi (t * 2 ^ i) j = 0 := by
          intro t
          unfold bi
          obtain ⟨d, rfl⟩ : ∃ d, i = j + (d + 1) := ⟨i - j - 1, by omega⟩
          rw [Nat.pow_add, Nat.mul_left_comm, Nat.mul_div_cancel_left _ (Nat.two_pow_pos j), Nat.pow_succ, ← Nat.mul_assoc, Nat.mul_mod_left]; rfl
        rw [z, z]
    · rw [List.getElem?_eq_none (by rw [bvs_length]; omega), List.getElem?_eq_none (by rw [bvs_length]; omega)]
theorem own_head {w : World} {base : Nat} {e : TypeId} {v : Value} {n : Nat} {us : List Value} (h : w.ownsRow base e 1 v n us) (hn : 0 < n) : ∃ g cap, v = .slice (some ⟨g, 0, none⟩) n cap ∧ base ≤ g ∧ g < w.heap.size := by
  rcases h.2 with ⟨_, h0⟩ | ⟨g, cap, cur, rfl, hg, hh, _⟩
  · omega
  · exact ⟨g, cap, rfl, hg, (Array.getElem?_eq_some_iff.1 hh).1⟩
theorem own_far1 {w : World} {base : Nat} {e : TypeId} {sz : Nat} {v : Value} {n : Nat} {us : List Value} (h : w.ownsRow base e sz v n us) {p : Addr} (hp : v.ownBlock ≠ some p.block) (u : Value) : (w.setCell p u).ownsRow base e sz v n us := by
  refine ⟨h.1, ?_⟩
  rcases h.2 with h2 | ⟨g, cap, cur, rfl, hg, hh, r⟩
  · exact .inl h2
  · exact .inr ⟨g, cap, cur, rfl, hg, (Below.heap_setCell w p u g (fun e => hp (by rw [Value.ownBlock, e]))).trans hh, r⟩
theorem div01_any (va vb : Value) (x y m1 m2 : Nat) (hx : x < 2 ^ m1) (hy : y < 2 ^ m2) (hy0 : 0 < y) (h21 : m2 ≤ m1) (hm1 : m1 ≤ 290) (hm0 : 1 ≤ m1) (w : World) (sx : SlV w va (bvs x m1)) (sy : SlV w vb (bvs y m2)) :
    Calls Try.prog 62 #[va, vb] w fun e w' => ∃ q r, e = .returned (.tuple #[q, r]) ∧ SlV w' q (bvs (x / y) m1) ∧ SlV w' r (bvs (x % y) (m1 + 1)) ∧ Below w.heap.size w w' := by
  obtain ⟨ao, cap, rfl⟩ := slV_bits sx
  obtain ⟨ao2, cap2, rfl⟩ := slV_bits sy
  have h21' : (m2 : Int) ≤ (m1 : Int) := by omega
  have SX := Lib.hid sx
  have SY := Lib.hid sy
  have hbl : (((bl y : Nat) : Int) == 0) = false := by
    rw [beq_eq_false_iff_ne]
    intro e
    have h1 : bl y = 0 := by omega
    have := bl_lt y
    rw [h1] at this; simp at this; omega
  clear sx sy
  go_enter Try.func62, Try.ntmps62
  go_wp2_with fail
  · refine (of_any 0#64 m1 (by omega) _).mono ?_
    rintro e w1 ⟨vq, rfl, hown, b1⟩
    rw [bvs_length, Int.toNat_natCast] at hown
    obtain ⟨gq, capq, rfl, hgq, hgl⟩ := own_head hown (by omega)
    have HQ := Lib.hid hown
    clear hown
    go_wp2_with fail
    refine (of_any 0#64 _ (by omega) _).mono ?_
    rintro e w2 ⟨vr, rfl, hown, b2⟩
    rw [bvs_length, show ((m1 : Int) + 1).toNat = m1 + 1 by omega] at hown
    have HR := Lib.hid (owns_mono hown (base' := gq + 1) (by omega))
    have HQ2 := Lib.hid (owns_below HQ.out b2)
    have hb2 := b1.trans (b2.mono b1.size)
    clear hown HQ b1
    go_wp2_with fail
    refine (len_any _ y m2 hy (by omega) _ (SY.out.below hb2)).mono ?_
    rintro e w' ⟨rfl, rfl⟩
    go_wp2_with fail
    go_loopw [8, 9] (fun r i wr => ∃ t : Nat, t ≤ m1 ∧ i = .int .i64 ((m1 : Int) - 1 - t) ∧ wr.ownsRow (gq + 1) 3 1 r (m1 + 1) (bvs (x / 2 ^ (m1 - t) % y) (m1 + 1)) ∧ wr.ownsRow w.heap.size 3 1 (.slice (some ⟨gq, 0, none⟩) m1 capq) m1 (bvs (x / 2 ^ (m1 - t) / y * 2 ^ (m1 - t)) m1) ∧ Below w.heap.size w wr) (fun _ i _ => (intOf i + 1).toNat)
    case atStart =>
      have hz : x / 2 ^ m1 = 0 := Nat.div_eq_of_lt hx
      exact ⟨0, by omega, by congr 1; omega, by rw [Nat.sub_zero, hz, Nat.zero_mod]; exact HR.out, by rw [Nat.sub_zero, hz, Nat.zero_div, Nat.zero_mul]; exact HQ2.out, hb2⟩
    case round =>
      obtain ⟨t, ht, rfl, hr, hq, hb⟩ := hrel
      by_cases h1 : t < m1
      · obtain ⟨p, hp⟩ : ∃ p, p = m1 - 1 - t := ⟨_, rfl⟩
        have e1 : m1 - t = p + 1 := by omega
        have e2 : (m1 : Int) - 1 - t = (p : Int) := by omega
        rw [e1] at hr hq
        rw [e2]
        have hp1 : (p : Int) ≤ 999 := by omega
        have hpm : p < m1 := by omega
        have hpm' : (p : Int) < (m1 : Int) := by omega
        have E := Lib.hid (And.intro e1 hp)
        clear e1 e2 hp
        have hls := long_step x y p hy0
        have hrl := Nat.mod_lt (x / 2 ^ (p + 1)) hy0
        have hyl : y < 2 ^ m1 := Nat.lt_of_lt_of_le hy (Nat.pow_le_pow_right (by decide) h21)
        have hc1 : x / 2 ^ p % 2 ≤ 1 := by omega
        have hpw : 2 ^ (m1 + 1) = 2 * 2 ^ m1 := by rw [Nat.pow_succ, Nat.mul_comm]
        have hbi : bi x p = ((x / 2 ^ p % 2 : Nat) : Int) := rfl
        have LS := Lib.hid hls
        have HBI := Lib.hid hbi
        have hv1 : x / 2 ^ (p + 1) % y < 2 ^ (m1 + 1) := by omega
        have hv2 : 2 * (x / 2 ^ (p + 1) % y) + x / 2 ^ p % 2 < 2 ^ (m1 + 1) := by omega
        have HV := Lib.hid (And.intro hv1 (And.intro hv2 hc1))
        have HRr := Lib.hid hr
        have HQq := Lib.hid hq
        clear hls hbi hrl hyl hc1 hpw hr hq hv1 hv2 HQ2 HR
        go_wp2_with fail
        refine (shl_any _ _ (m1 + 1) HV.out.1 (by omega) 1 _ (by omega) (by omega) (by omega) _ (SlV.of_owns HRr.out)).mono ?_
        rintro e w3 ⟨v3, rfl, hown3, b3⟩
        rw [bvs_length, show ((m1 : Int) + 1).toNat = m1 + 1 by omega, show Int.toNat 1 = 1 from rfl] at hown3
        obtain ⟨g3, cap3, rfl, hg3, hgl3⟩ := own_head hown3 (by omega)
        have hb3 := hb.trans (b3.mono hb.size)
        have HQ3 := Lib.hid (owns_below HQq.out b3)
        obtain ⟨gb, go, rfl, hca⟩ := slV_at (SX.out.below hb3) p hpm
        have c3 := hown3.cellAt 0 (by omega)
        rw [bvs_get _ _ 0 (by omega)] at c3
        have f3 := hown3.frozenAt 0
        have hgqwr : gq < wr.heap.size := (HQq.out.lt gq rfl).2
        have hgq3 : gq < g3 := by omega
        have hS3 := (hown3.stored 0 (.int .i64 (bi x p))).1
        rw [HBI.out, bvs_set0 _ _ m1 HV.out.2.2] at hS3
        have HS3 := Lib.hid hS3
        have HQ4 := Lib.hid (own_far1 HQ3.out (p := ⟨g3, 0, none⟩) (by simp [Value.ownBlock]; omega) (.int .i64 (bi x p)))
        have hg3' : w.heap.size ≤ g3 := by omega
        have hB4 := hb3.setCell (p := ⟨g3, 0, none⟩) hg3' (.int .i64 (bi x p))
        clear hS3 hown3 b3 hb hb3 HRr HQq HQ3
        go_wp2_with fail
        by_cases hge : y ≤ 2 * (x / 2 ^ (p + 1) % y) + x / 2 ^ p % 2
        · have hcm : 0 ≤ cmpN (2 * (x / 2 ^ (p + 1) % y) + x / 2 ^ p % 2) y := by
            unfold cmpN; rw [if_neg (by omega)]; split <;> decide
          have LS1 := Lib.hid (LS.out.1 hge)
          refine (cmp01_any _ _ _ y (m1 + 1) m2 HV.out.2.1 hy (by omega) (by omega) _ (SlV.of_owns HS3.out) (SY.out.below hB4)).mono ?_
          rintro e w' ⟨rfl, rfl⟩
          go_wp2_with fail
          refine (sub_any _ _ _ y (m1 + 1) m2 HV.out.2.1 hy hge (by omega) (by omega) _ (by omega) _ (SlV.of_owns HS3.out) (SY.out.below hB4)).mono ?_
          rintro e w5 ⟨v5, c5, rfl, hown5, b5⟩
          rw [bvs_length, show ((m1 : Int) + 1).toNat = m1 + 1 by omega, ← LS1.out.1] at hown5
          have hQ5 := owns_below HQ4.out b5
          have c5q := hQ5.cellAt p (by omega)
          rw [bvs_get _ _ p hpm] at c5q
          have f5q := hQ5.frozenAt p
          have hgq5 : gq < w5.heap.size := World.block_lt_of_cell? w5 _ c5q
          have hS5 := (hQ5.stored p (.int .i64 1)).1
          rw [bvs_setq _ p m1 hpm, ← LS1.out.2] at hS5
          have HS5 := Lib.hid hS5
          have hb5 := hB4.trans (b5.mono hB4.size)
          have hgq4 : gq < (w3.setCell ⟨g3, 0, none⟩ (.int .i64 (bi x p))).heap.size := by
            have := HQ4.out.lt gq rfl; omega
          have hR5 := ownsRow_setCell_below hown5 (a := ⟨gq, p, none⟩) hgq4 (.int .i64 1)
          have HR5 := Lib.hid (owns_mono hR5 (base' := gq + 1) hgq4)
          have hB6 := hb5.setCell (p := ⟨gq, p, none⟩) hgq (.int .i64 1)
          clear hS5 hQ5 hown5 b5 hb5 hR5 hB4 c3 f3 hca
          go_wp2_with fail
          go_roundw
          case rel => exact ⟨t + 1, by omega, by have := E.out.2; congr 1; omega, by rw [show m1 - (t + 1) = p by have := E.out.2; omega]; exact HR5.out, by rw [show m1 - (t + 1) = p by have := E.out.2; omega]; exact HS5.out, hB6⟩
          case measure => simp [intOf]
        · have hlt : 2 * (x / 2 ^ (p + 1) % y) + x / 2 ^ p % 2 < y := by omega
          have hcm : cmpN (2 * (x / 2 ^ (p + 1) % y) + x / 2 ^ p % 2) y < 0 := by
            unfold cmpN; rw [if_pos hlt]; decide
          have LS1 := Lib.hid (LS.out.2 hlt)
          have HS6 := HS3.out
          rw [← LS1.out.1] at HS6
          have HS6' := Lib.hid HS6
          have HQ6 := HQ4.out
          have eq6 : x / 2 ^ (p + 1) / y * 2 ^ (p + 1) = x / 2 ^ p / y * 2 ^ p := by
            rw [LS1.out.2, Nat.pow_succ, Nat.mul_comm 2, Nat.mul_assoc, Nat.mul_comm 2]
          rw [eq6] at HQ6
          have HQ6' := Lib.hid HQ6
          clear hge hlt HS6 HQ6 eq6
          refine (cmp01_any _ _ _ y (m1 + 1) m2 HV.out.2.1 hy (by omega) (by omega) _ (SlV.of_owns HS3.out) (SY.out.below hB4)).mono ?_
          rintro e w' ⟨rfl, rfl⟩
          go_wp2_with fail
          go_roundw
          case rel => exact ⟨t + 1, by omega, by have := E.out.2; congr 1; omega, by rw [show m1 - (t + 1) = p by have := E.out.2; omega]; exact owns_mono HS6'.out (by omega), by rw [show m1 - (t + 1) = p by have := E.out.2; omega]; exact HQ6'.out, hB4⟩
          case measure => simp [intOf]
      · obtain rfl : t = m1 := by omega
        rw [Nat.sub_self, Nat.pow_zero, Nat.div_one, Nat.mul_one] at hq
        rw [Nat.sub_self, Nat.pow_zero, Nat.div_one] at hr
        have e2 : (t : Int) - 1 - t = -1 := by omega
        rw [e2]
        clear e2
        have HRr := Lib.hid hr
        have HQq := Lib.hid hq
        clear hr hq HQ2 HR
        go_wp2_with fail
        go_ret2
        exact ⟨_, _, rfl, SlV.of_owns HQq.out, SlV.of_owns HRr.out, hb⟩
end Go.Proofs.Ytodflmngbkiemaa
