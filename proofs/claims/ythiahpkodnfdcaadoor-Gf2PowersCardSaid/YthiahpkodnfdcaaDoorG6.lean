/- The walks of chapter 6: rest, quotient, the greatest common divisor, products modulo one; the law's examples. No condition but on lengths and the table of trailing zeros. -/
import Derived.Test.YthiahpkodnfdcaaDoorG5
namespace Go.Proofs.YthiahpkodnfdcaaDoor
open Go.RowKit
/-- words and whether there are any -/
def RM (w0 : World) (rs : List (BitVec 64)) (is : Bool) (e : Ending) (w' : World) : Prop := ∃ v, e = .returned (.tuple #[v, .bool is]) ∧ SlK w' v rs ∧ Below w0.heap.size w0 w'
theorem mod_zero (v v2 : Value) (ms : List (BitVec 64)) (w : World) (h2 : SlK w v2 ms) (hl2 : ms.length ≤ 100000) (hz : nv ms = 0) :
    Calls Tryd.prog 24 #[v, v2] w (RM w [] false) := by
  have hk := both_zero v v2 ms w h2 hl2 hz
  go_enter Tryd.func24, Tryd.ntmps24
  go_wp2_with fail
  refine hk.mono ?_
  rintro e w1 ⟨v3, v4, rfl, s1, s2, b1⟩
  have H := Lib.hid (And.intro s2 b1)
  clear s1 s2 b1 hk
  go_wp2_with fail
  go_ret2
  exact ⟨v4, rfl, H.out.1, H.out.2⟩
theorem mod_any (v v2 : Value) (xs ms : List (BitVec 64)) (w : World) (h : SlK w v xs) (h2 : SlK w v2 ms) (hl : xs.length ≤ 40000) (hl2 : ms.length ≤ 40000) (hz : nv ms ≠ 0) :
    Calls Tryd.prog 24 #[v, v2] w (RM w (cw (drem (nv xs) (nv ms))) true) := by
  have hk := both_any v v2 xs ms w h h2 hl hl2 hz
  go_enter Tryd.func24, Tryd.ntmps24
  go_wp2_with fail
  refine hk.mono ?_
  rintro e w1 ⟨v3, v4, rfl, s1, s2, b1⟩
  have H := Lib.hid (And.intro s2 b1)
  clear s1 s2 b1 hk
  go_wp2_with fail
  go_ret2
  exact ⟨v4, rfl, H.out.1, H.out.2⟩
theorem div_zero (v v2 : Value) (ms : List (BitVec 64)) (w : World) (h2 : SlK w v2 ms) (hl2 : ms.length ≤ 100000) (hz : nv ms = 0) :
    Calls Tryd.prog 23 #[v, v2] w (RM w [] false) := by
  have hk := both_zero v v2 ms w h2 hl2 hz
  go_enter Tryd.func23, Tryd.ntmps23
  go_wp2_with fail
  refine hk.mono ?_
  rintro e w1 ⟨v3, v4, rfl, s1, s2, b1⟩
  have H := Lib.hid (And.intro s1 b1)
  clear s1 s2 b1 hk
  go_wp2_with fail
  go_ret2
  exact ⟨v3, rfl, H.out.1, H.out.2⟩
theorem div_any (v v2 : Value) (xs ms : List (BitVec 64)) (w : World) (h : SlK w v xs) (h2 : SlK w v2 ms) (hl : xs.length ≤ 40000) (hl2 : ms.length ≤ 40000) (hz : nv ms ≠ 0) :
    Calls Tryd.prog 23 #[v, v2] w (RM w (cw (dquo (nv xs) (nv ms))) true) := by
  have hk := both_any v v2 xs ms w h h2 hl hl2 hz
  go_enter Tryd.func23, Tryd.ntmps23
  go_wp2_with fail
  refine hk.mono ?_
  rintro e w1 ⟨v3, v4, rfl, s1, s2, b1⟩
  have H := Lib.hid (And.intro s1 b1)
  clear s1 s2 b1 hk
  go_wp2_with fail
  go_ret2
  exact ⟨v3, rfl, H.out.1, H.out.2⟩
theorem cw_len_lt {n k : Nat} (h : sz n ≤ 64 * k) : (cw n).length ≤ k := by rw [cw_len]; omega
theorem mulmod_any (v v2 v3 : Value) (xs ys ms : List (BitVec 64)) (w : World) (h : SlK w v xs) (h2 : SlK w v2 ys) (h3 : SlK w v3 ms) (hl : xs.length ≤ 20000) (hl2 : ys.length ≤ 20000) (hl3 : ms.length ≤ 40000) (hz : nv ms ≠ 0) (hT : Tab w) :
    Calls Tryd.prog 28 #[v, v2, v3] w (RM w (cw (drem (clm (nv xs) (nv ys)) (nv ms))) true) := by
  have hk := mul_any v v2 xs ys w h h2 (by omega) (by omega) hT
  have hlen : (cw (clm (nv xs) (nv ys))).length ≤ 40000 := by
    apply cw_len_lt
    by_cases h1 : nv xs = 0
    · rw [h1, clm_zero, sz_zero]; omega
    · by_cases h2 : nv ys = 0
      · rw [h2, clm_r0, sz_zero]; omega
      · have := sz_clm h1 h2
        have a := (@sz_le (nv xs) (64 * xs.length)).2 (nv_lt xs)
        have b := (@sz_le (nv ys) (64 * ys.length)).2 (nv_lt ys)
        omega
  have H3 := Lib.hid h3
  clear h h2 h3 hT
  go_enter Tryd.func28, Tryd.ntmps28
  go_wp2_with fail
  refine hk.mono ?_
  rintro e w1 ⟨v4, rfl, s1, b1⟩
  have H := Lib.hid (And.intro s1 b1)
  clear s1 b1 hk
  go_wp2_with fail
  have hk := mod_any v4 v3 _ ms _ H.out.1 (H3.out.below H.out.2) hlen hl3 hz
  rw [nv_cw] at hk
  refine hk.mono ?_
  rintro e w2 ⟨v5, rfl, s2, b2⟩
  have H2 := Lib.hid (And.intro s2 (H.out.2.trans (b2.mono H.out.2.size)))
  clear s2 b2 hk
  go_wp2_with fail
  go_ret2
  exact ⟨v5, rfl, H2.out.1, H2.out.2⟩
theorem gcdN_fuel (k a b : Nat) (h : sz b ≤ k) : gcdN k a b = gcdN (sz b) a b := by
  induction k using Nat.strongRecOn generalizing a b with
  | ind k ih =>
    by_cases hb : b = 0
    · subst hb
      rw [sz_zero]
      cases k with
      | zero => rfl
      | succ k => unfold gcdN; rw [if_pos rfl]
    · have h0 : sz b ≠ 0 := fun e => hb (sz_eq_zero.1 e)
      obtain ⟨k', rfl⟩ : ∃ k', k = k' + 1 := ⟨k - 1, by omega⟩
      obtain ⟨s, hs⟩ : ∃ s, sz b = s + 1 := ⟨sz b - 1, by omega⟩
      have hr := rem_lt a b hb
      rw [hs, gcdN, if_neg hb, gcdN, if_neg hb, ih k' (by omega) _ _ (by omega)]
      by_cases e : s < k' + 1
      · rw [ih s e _ _ (by omega)]
      · omega
theorem gcd_next (a b : Nat) (hb : b ≠ 0) : gcdN (sz b) a b = gcdN (sz (drem a b)) b (drem a b) := by
  have h0 : sz b ≠ 0 := fun e => hb (sz_eq_zero.1 e)
  obtain ⟨s, hs⟩ : ∃ s, sz b = s + 1 := ⟨sz b - 1, by omega⟩
  have hr := rem_lt a b hb
  rw [hs, gcdN, if_neg hb, gcdN_fuel s _ _ (by omega)]
theorem cw_nil_iff {n : Nat} : (cw n).length = 0 ↔ n = 0 := by
  constructor
  · intro h
    have := nv_cw n
    rw [List.length_eq_zero_iff.1 h] at this
    exact this.symm
  · rintro rfl; rw [cw_zero]; rfl
/-- what stands in Gcd -/
structure GL (w0 w : World) (va vb : Value) (A B G : Nat) : Prop where
  bel : Below w0.heap.size w0 w
  sa : SlK w va (cw A)
  sb : SlK w vb (cw B)
  la : sz A ≤ 64 * 40000
  lb : sz B ≤ 64 * 40000
  run : gcdN (sz B) A B = G
theorem gcd_any (v v2 : Value) (xs ys : List (BitVec 64)) (w : World) (h : SlK w v xs) (h2 : SlK w v2 ys) (hl : xs.length ≤ 40000) (hl2 : ys.length ≤ 40000) :
    Calls Tryd.prog 17 #[v, v2] w (RK w (cw (gcd2 (nv xs) (nv ys)))) := by
  have H0 := Lib.hid (And.intro h h2)
  have hA : sz (nv xs) ≤ 64 * 40000 := by have := (@sz_le (nv xs) (64 * xs.length)).2 (nv_lt xs); omega
  have hB : sz (nv ys) ≤ 64 * 40000 := by have := (@sz_le (nv ys) (64 * ys.length)).2 (nv_lt ys); omega
  have HAB := Lib.hid (And.intro hA hB)
  clear h h2 hA hB
  obtain ⟨G, hG⟩ : ∃ G, gcd2 (nv xs) (nv ys) = G := ⟨_, rfl⟩
  have HG := Lib.hid hG
  rw [hG]
  clear hG
  go_enter Tryd.func17, Tryd.ntmps17
  go_wp2_with fail
  refine (trim_any v xs w H0.out.1 (by omega)).mono ?_
  rintro e w1 ⟨v3, rfl, s1, _, b1⟩
  have H1 := Lib.hid (And.intro s1 b1)
  clear s1 b1
  go_wp2_with fail
  refine (trim_any v2 ys w1 (H0.out.2.below H1.out.2) (by omega)).mono ?_
  rintro e w2 ⟨v4, rfl, s2, _, b2⟩
  have HL := Lib.hid (GL.mk (H1.out.2.trans (b2.mono H1.out.2.size)) (H1.out.1.below b2) s2 HAB.out.1 HAB.out.2 HG.out)
  clear s2 b2 H1
  go_wp2_with fail
  go_loopg [0, 1] (sz (nv ys)) (fun gk va vb wr => ∃ A B, gk = sz B ∧ GL w wr va vb A B G)
  case atStart => exact ⟨_, _, rfl, HL.out⟩
  case round =>
    obtain ⟨A, B, rfl, hgl⟩ := hrel
    clear HL
    have hlen := cw_len_lt hgl.lb
    obtain ⟨ao, cap, hvb⟩ := slV_len hgl.sb.1
    rw [vals_length] at hvb
    subst hvb
    have HL := Lib.hid hgl
    clear hgl
    by_cases hb : B = 0
    · subst hb
      have h0 : ¬ (0 : Int) < ((cw 0).length : Int) := by rw [cw_zero]; simp
      have hR := HL.out.run
      rw [sz_zero] at hR
      have hR2 : A = G := hR
      subst hR2
      clear hR
      go_wp2_with fail
      go_ret
      exact ⟨_, rfl, HL.out.sa, HL.out.bel⟩
    · have h0 : (0 : Int) < ((cw B).length : Int) := by
        have : (cw B).length ≠ 0 := fun e => hb (cw_nil_iff.1 e)
        omega
      have hr := rem_lt A B hb
      have hnx := gcd_next A B hb
      rw [HL.out.run] at hnx
      have hrl : sz (drem A B) ≤ 64 * 40000 := by
        have := HL.out.lb
        omega
      have HN := Lib.hid (And.intro hnx (And.intro hr hrl))
      have HB := Lib.hid hb
      clear hnx hr hrl hb
      go_wp2_with fail
      have hk := mod_any _ _ _ _ wr HL.out.sa HL.out.sb (cw_len_lt HL.out.la) (cw_len_lt HL.out.lb) (by rw [nv_cw]; exact HB.out)
      rw [nv_cw, nv_cw] at hk
      refine hk.mono ?_
      rintro e w3 ⟨v5, rfl, s3, b3⟩
      have HL2 := Lib.hid (GL.mk (HL.out.bel.trans (b3.mono HL.out.bel.size)) (HL.out.sb.below b3) s3 HL.out.lb HN.out.2.2 HN.out.1.symm)
      clear s3 b3 HL hk
      go_wp2_with fail
      go_roundg (sz (drem A B))
      case rel => exact ⟨B, drem A B, rfl, HL2.out⟩
      case measure => exact HN.out.2.1
theorem run_u128 (a b c d : BitVec 64) (w : World) : (Op.equalIn 10000 39 (.agg #[.int .u64 (ui a), .int .u64 (ui b)]) (.agg #[.int .u64 (ui c), .int .u64 (ui d)])).run Tryd.prog w = .ok (ui a == ui c && ui b == ui d) w := by
  have u3 := Tryd.underlying37
  have a3 := Tryd.isAgg37
  have z3 := Tryd.sizeOf37
  rw [show (10000 : Nat) = 9999 + 1 from rfl, Op.equalIn]
  simp only [Sem.run_bind, run_underlying Tryd.underlying39, Result.andThen_ok]
  go_simp
  by_cases h1 : a = c <;> by_cases h2 : b = d <;> simp [h1, h2]
@[go_sem] theorem egu128 : Tryd.prog.eqGuardType Tryd.prog.depth 39 = false := by kernel_rfl
theorem clm33 : clm 3 3 = 5 := by
  rw [clm_step, clm_step (3 / 2), clm_step (3 / 2 / 2), show 3 / 2 / 2 / 2 = 0 from rfl, clm_zero]
  decide
theorem cw_one : cw 1 = [1#64] := by
  rw [cw, if_neg (by decide), show 1 / 2 ^ 64 = 0 from rfl, cw_zero]
theorem lit_slk (w : World) (x : BitVec 64) : SlK (w.alloc (.cells #[.int .u64 (ui x)] 37)) (.slice (some ⟨w.heap.size, 0, none⟩) 1 1) [x] := by
  refine SlK.mk' rfl (Nat.le_refl _) (fun i hi => ?_)
  have h := (Blk.new w 37 #[.int .u64 (ui x)]).cell i
  rw [Nat.zero_add, h]
  simp at hi
  subst hi
  rfl
theorem awake06 (w : World) (hT : Tab w) : Calls Tryd.prog 8 #[] w fun e w' => e = .returned (.bool true) ∧ Below w.heap.size w w' := by
  have HT := Lib.hid hT
  have hpos := hT.1
  have q := run_u128 (clHi 3#64 3#64) (clLo 3#64 3#64) 0#64 5#64
  have hc : clHi 3#64 3#64 = 0#64 ∧ clLo 3#64 3#64 = 5#64 := by
    unfold clHi clLo
    rw [show (3#64).toNat = 3 from rfl, clm33]
    decide
  rw [hc.1, hc.2] at q
  have q2 : ∀ w, (Op.equalIn 10000 39 (.agg #[.int .u64 0, .int .u64 5]) (.agg #[.int .u64 0, .int .u64 5])).run Tryd.prog w = .ok true w := q
  have hm := fun (w1 w2 : World) (v v2 : Value) (h : SlK w2 v [4#64]) (h2 : SlK w2 v2 [3#64]) => mod_any v v2 [4#64] [3#64] w2 h h2 (by simp) (by simp) (by decide)
  have hd : drem (nv [4#64]) (nv [3#64]) = 1 := by decide
  rw [hd, cw_one] at hm
  have hcl := clmul_any 3#64 3#64
  rw [hc.1, hc.2] at hcl
  have HM := Lib.hid hm
  have HCL := Lib.hid hcl
  have b1 := below_new w (.cells #[.int .u64 4] 37)
  have b2 := below_new (w.alloc (.cells #[.int .u64 4] 37)) (.cells #[.int .u64 3] 37)
  have HB := Lib.hid (b1.trans (b2.mono b1.size))
  have HS := Lib.hid (And.intro ((lit_slk w 4#64).below b2) (lit_slk (w.alloc (.cells #[.int .u64 4] 37)) 3#64))
  clear hT q hc hm hd hcl b1 b2
  go_enter Tryd.func8, Tryd.ntmps8
  go_wp2_with fail
  refine (HM.out w _ _ _ HS.out.1 (by have := HS.out.2; rw [size_alloc] at this; exact this)).mono ?_
  rintro e w3 ⟨v3, rfl, s3, b3⟩
  rcases s3.cases with ⟨h0, _⟩ | ⟨_, b, o, cap, rfl, _, hcell⟩
  · simp at h0
  · have c0 : w3.cell? ⟨b, o, none⟩ = some (.int .u64 1) := hcell 0 (by simp)
    have hb3 := HB.out.trans (b3.mono HB.out.size)
    clear s3 b3 hcell HB HS HM
    go_wp2_with fail
    refine (HCL.out _ (HT.out.belowN hb3 hpos)).mono ?_
    rintro e w4 ⟨rfl, b4⟩
    have hc4 : w4.cell? ⟨b, o, none⟩ = some (.int .u64 1) := by
      rw [b4.cell (p := ⟨b, o, none⟩) (World.block_lt_of_cell? w3 _ c0)]; exact c0
    have hb4 := hb3.trans (b4.mono hb3.size)
    clear b4 c0
    go_wp2_with fail
    go_ret
    exact ⟨rfl, hb4⟩
end Go.Proofs.YthiahpkodnfdcaaDoor
