/- The walks of chapter 6's reference: the words of bits; the law's comparison. No condition but on lengths. -/
import Derived.Test.YthiahpkodnfdcaaDoorG8
namespace Go.Proofs.YthiahpkodnfdcaaDoor
open Go.RowKit
theorem words_set {os : List (BitVec 64)} {q j : Nat} (hq : q < os.length) (hj : j < 64) (h : nv os < 2 ^ (64 * q + j)) : nv (os.set q (os[q] + 1#64 <<< j)) = nv os ^^^ 2 ^ (64 * q + j) := by
  have h1 := nv_ge os q hq
  rw [Nat.pow_add] at h
  have hx : os[q].toNat < 2 ^ j := Nat.lt_of_mul_lt_mul_left (Nat.lt_of_le_of_lt h1 h)
  have hp : 2 ^ j < 2 ^ 64 := Nat.pow_lt_pow_right (by decide) hj
  have e : os[q] + 1#64 <<< j = os[q] ^^^ 1#64 <<< j := by
    apply BitVec.eq_of_toNat_eq
    rw [BitVec.toNat_add, BitVec.toNat_xor, one_shl j hj]
    have h2 := add_xor j 1 os[q].toNat hx
    rw [Nat.mul_one] at h2
    rw [Nat.xor_comm, ← h2, Nat.add_comm, Nat.mod_eq_of_lt]
    have : 2 ^ j + 2 ^ j ≤ 2 ^ 64 := by
      rw [← Nat.two_mul, Nat.mul_comm, ← Nat.pow_succ]; exact Nat.pow_le_pow_right (by decide) (by omega)
    omega
  rw [e, nv_set _ _ hq, one_shl j hj, ← Nat.pow_add]
theorem nv_app0 (xs : List (BitVec 64)) : nv (xs ++ [0#64]) = nv xs := by
  have := nv_take (xs ++ [0#64]) xs.length (fun i h1 h2 => by
    rw [List.length_append, List.length_singleton] at h2
    have : i = xs.length := by omega
    subst this
    simp)
  rw [List.take_left] at this
  exact this.symm
theorem vals_app (xs : List (BitVec 64)) (x : BitVec 64) : vals (xs ++ [x]) = vals xs ++ [.int .u64 (ui x)] := by simp [vals]
/-- the words of the first bits -/
structure WL (w0 w : World) (v : Value) (os : List (BitVec 64)) (N i : Nat) : Prop where
  bel : Below w0.heap.size w0 w
  own : w.ownsRow w0.heap.size 37 1 v os.length (vals os)
  len : os.length = (i + 63) / 64
  val : nv os = N % 2 ^ i
theorem wl_set {w0 w : World} {g cap : Nat} {os : List (BitVec 64)} {N i q j : Nat} (hb : Below w0.heap.size w0 w) (ho : w.ownsRow w0.heap.size 37 1 (.slice (some ⟨g, 0, none⟩) os.length cap) os.length (vals os)) (hg : w0.heap.size ≤ g) (hl : os.length = q + 1) (hv : nv os = N % 2 ^ i) (hi : i = 64 * q + j) (hj : j < 64) (hbt : N.testBit i = true) :
    WL w0 (w.setCell ⟨g, q, none⟩ (.int .u64 (ui (os[q]'(by omega) + 1#64 <<< j)))) (.slice (some ⟨g, 0, none⟩) os.length cap) (os.set q (os[q]'(by omega) + 1#64 <<< j)) N (i + 1) := by
  refine ⟨hb.setCell (p := ⟨g, q, none⟩) hg _, by rw [List.length_set]; exact own_set ho q _, by rw [List.length_set]; omega, ?_⟩
  have hlt : nv os < 2 ^ (64 * q + j) := by rw [hv, hi]; exact Nat.mod_lt _ (Nat.two_pow_pos _)
  rw [words_set (by omega) hj hlt, hv, mod_bit N i, hbt, if_pos rfl, hi]
theorem wl_skip {w0 w : World} {v : Value} {os : List (BitVec 64)} {N i q j : Nat} (hb : Below w0.heap.size w0 w) (ho : w.ownsRow w0.heap.size 37 1 v os.length (vals os)) (hl : os.length = q + 1) (hv : nv os = N % 2 ^ i) (hi : i = 64 * q + j) (hj : j < 64) (hbt : N.testBit i = false) : WL w0 w v os N (i + 1) := by
  refine ⟨hb, ho, by omega, ?_⟩
  rw [mod_bit N i, hbt, if_neg (by decide), Nat.xor_zero, hv]
set_option maxHeartbeats 1000000 in
theorem rwords_any (v : Value) (N n : Nat) (w : World) (h : BL w v N n) (hn : n ≤ 10000) (hN : N < 2 ^ n) : Calls Tryd.prog 32 #[v] w (RK w (cw N)) := by
  obtain ⟨i0, hi, hz0, hz1, hz2⟩ := info_parts sh_info_u64
  obtain ⟨ao, cap, rfl⟩ := h.len
  have H := Lib.hid h
  have hs := sz_le.2 hN
  have HN := Lib.hid hN
  have hls := lt_sz N
  have hdeg := fun w1 (h1 : BL w1 (.slice ao n cap) N n) => rdeg_any (.slice ao n cap) N n w1 h1 (by omega) hN
  obtain ⟨s, hse⟩ : ∃ s, sz N = s := ⟨_, rfl⟩
  rw [hse] at hs hls hdeg
  have HD := Lib.hid hdeg
  have HS := Lib.hid (And.intro hse hls)
  clear h hN hdeg hse hls
  go_enter Tryd.func32, Tryd.ntmps32
  go_wp2_with fail
  go_loopw [3, 4] (fun v i wr => ∃ k os, k ≤ s ∧ i = .int .i64 ((k : Nat) : Int) ∧ WL w wr v os N k) (fun _ i _ => s - (intOf i).toNat)
  case atStart => exact ⟨0, [], by omega, rfl, Below.refl _ _, World.ownsRow_nil _ _ _ _, rfl, by rw [Nat.pow_zero, Nat.mod_one]; rfl⟩
  case round =>
    obtain ⟨k, os, hk, rfl, hwl⟩ := hrel
    have HW := Lib.hid hwl
    have HLE := Lib.hid hwl.len
    clear hwl
    by_cases hlt : k < s
    · have hle : (k : Int) ≤ (s : Int) - 1 := by omega
      obtain ⟨q, hq⟩ : ∃ q, k / 64 = q := ⟨_, rfl⟩
      obtain ⟨j, hj⟩ : ∃ j, k % 64 = j := ⟨_, rfl⟩
      have hkq : k = 64 * q + j := by omega
      have hj64 : j < 64 := by omega
      have q1 : (k : Int) / 64 = (q : Int) := by omega
      have q2 : (k : Int) % 64 = (j : Int) := by omega
      have hq0 : (0 : Int) ≤ (q : Int) := by omega
      have huj := ui_nat j (by omega)
      have HK := Lib.hid (And.intro hkq (And.intro hq hj))
      clear hq hj
      obtain ⟨b, o, cp, e, _, hc⟩ := (H.out.below HW.out.bel).cells (by omega)
      injection e with e1 _ e3
      subst e1 e3
      have hkn : (k : Int) < (n : Int) := by omega
      have hk0 : (0 : Int) ≤ (k : Int) := by omega
      by_cases hj0 : j = 0
      · subst hj0
        have HL1 := Lib.hid (show os.length = q by have := HLE.out; omega)
        have hl9 : os.length ≤ 1000 := by have := HL1.out; omega
        clear hkq
        go_wp2_with fail
        refine (HD.out wr (H.out.below HW.out.bel)).mono ?_
        rintro e w' ⟨rfl, rfl⟩
        go_wp2_with (at_builtin; refine wpList_append_own _ rfl _ _ 22 rfl w.heap.size 37 i0 (.int .u64 0) 1 8 Tryd.underlying22 hi hz0 hz1 hz2 rfl (by decide) _ _ _ rfl (HW.out.own.alloc _) ⟨wr.heap.size, 0, none⟩ 1 1 [.int .u64 0] rfl rfl ?a1 ?a2 ?a3 ?a4 ?a5 ?_)
        case a1 => exact cell_one_new _ _ _
        case a2 => intro u hu; simp at hu; subst hu; rfl
        case a3 => unfold maxLen; omega
        case a4 => omega
        case a5 => have := HW.out.bel.size; simp; omega
        intro v1 w1 hown hgrow _
        have hbb := (HW.out.bel.alloc HW.out.bel.size (.cells #[.int .u64 0] 37)).grown hgrow (by have := HW.out.bel.size; rw [size_alloc]; omega) (fun q hq => (HW.out.own.lt q hq).1)
        rw [show (Value.int .u64 0) = .int .u64 (ui 0#64) from rfl, ← vals_app] at hown
        have hown2 : w1.ownsRow w.heap.size 37 1 v1 (os ++ [0#64]).length (vals (os ++ [0#64])) := by rw [List.length_append]; exact hown
        have hval : nv (os ++ [0#64]) = N % 2 ^ k := by rw [nv_app0]; exact HW.out.val
        have hlen2 : (os ++ [0#64]).length = q + 1 := by rw [List.length_append, List.length_singleton, HL1.out]
        generalize os ++ [0#64] = os1 at *
        have HL2 := Lib.hid hlen2
        obtain ⟨g, cg, rfl, hg, hgl⟩ := hown2.form (by omega)
        have hql : q < os1.length := by omega
        clear hlen2
        have HV := Lib.hid hval
        have HO := Lib.hid hown2
        have HB := Lib.hid hbb
        have c1 := (H.out.below hbb).1
        clear hown hown2 hgrow hbb hval HW hc hgl c1 HLE HL1
        have hqi : (q : Int) < (os1.length : Int) := by omega
        have hcell : ∀ i, i < n → w1.cell? ⟨b, o + i, none⟩ = some (.bool (N.testBit i)) := by
          obtain ⟨b', o', cp', e, _, hc'⟩ := (H.out.below HB.out).cells (by omega)
          injection e with e1 _ e3
          injection e1 with e1
          injection e1 with e1 e2 _
          subst e1 e2
          exact hc'
        have c1 := hcell k (by omega)
        have d1 := own_cell HO.out q hql
        have f1 := HO.out.frozenAt q
        rcases hbt : N.testBit k with _ | _
        · rw [hbt] at c1
          have HBT := Lib.hid hbt
          clear hbt hcell
          go_wp2_with fail
          go_roundw
          case rel => exact ⟨k + 1, os1, by omega, by go_num, wl_skip HB.out HO.out HL2.out HV.out HK.out.1 hj64 HBT.out⟩
          case measure => simp [intOf]; omega
        · rw [hbt] at c1
          have HBT := Lib.hid hbt
          clear hbt hcell
          have HST := Lib.hid (wl_set HB.out HO.out hg HL2.out HV.out HK.out.1 hj64 HBT.out)
          go_wp2_with fail
          go_roundw
          case rel => exact ⟨k + 1, _, by omega, by go_num, HST.out⟩
          case measure => simp [intOf]; omega
      · have HL2 := Lib.hid (show os.length = q + 1 by have := HLE.out; omega)
        have hql : q < os.length := by have := HL2.out; omega
        have hj1 : ((j : Int) == 0) = false := by rw [beq_eq_false_iff_ne]; omega
        have hown2 := HW.out.own
        obtain ⟨g, cg, rfl, hg, hgl⟩ := hown2.form (by omega)
        have HV := Lib.hid HW.out.val
        have HO := Lib.hid hown2
        have HB := Lib.hid HW.out.bel
        clear hown2 hgl hkq hj0 HLE hc HW
        go_wp2_with fail
        refine (HD.out wr (H.out.below HB.out)).mono ?_
        rintro e w' ⟨rfl, rfl⟩
        have hqi : (q : Int) < (os.length : Int) := by omega
        have hcell : ∀ i, i < n → wr.cell? ⟨b, o + i, none⟩ = some (.bool (N.testBit i)) := by
          obtain ⟨b', o', cp', e, _, hc'⟩ := (H.out.below HB.out).cells (by omega)
          injection e with e1 _ e3
          injection e1 with e1
          injection e1 with e1 e2 _
          subst e1 e2
          exact hc'
        have c1 := hcell k (by omega)
        have d1 := own_cell HO.out q hql
        have f1 := HO.out.frozenAt q
        rcases hbt : N.testBit k with _ | _
        · rw [hbt] at c1
          have HBT := Lib.hid hbt
          clear hbt hcell
          go_wp2_with fail
          go_roundw
          case rel => exact ⟨k + 1, os, by omega, by go_num, wl_skip HB.out HO.out HL2.out HV.out HK.out.1 hj64 HBT.out⟩
          case measure => simp [intOf]; omega
        · rw [hbt] at c1
          have HBT := Lib.hid hbt
          clear hbt hcell
          have HST := Lib.hid (wl_set HB.out HO.out hg HL2.out HV.out HK.out.1 hj64 HBT.out)
          go_wp2_with fail
          go_roundw
          case rel => exact ⟨k + 1, _, by omega, by go_num, by rw [ofInt_pow j hj64]; exact HST.out⟩
          case measure => simp [intOf]; omega
    · obtain rfl : k = s := by omega
      clear hlt
      have hval := HW.out.val
      rw [Nat.mod_eq_of_lt HS.out.2] at hval
      have hos : os = cw N := by
        apply nv_inj
        · rw [cw_len, HS.out.1]; exact HLE.out
        · rw [nv_cw]; exact hval
      have HOS := Lib.hid hos
      clear hval hos
      go_wp2_with fail
      refine (HD.out wr (H.out.below HW.out.bel)).mono ?_
      rintro e w' ⟨rfl, rfl⟩
      go_wp2_with fail
      go_ret
      have h1 := own_slk HW.out.own
      rw [HOS.out] at h1
      exact ⟨_, rfl, h1, HW.out.bel⟩
theorem words06 (v v2 : Value) (xs : List (BitVec 64)) (N n : Nat) (w : World) (h : SlK w v xs) (h2 : BL w v2 N n) (hl : xs.length ≤ 1000000) (hn : n ≤ 10000) (hN : N < 2 ^ n) : Calls Tryd.prog 14 #[v, v2] w fun e w' => e = .returned (.bool (decide (xs = cw N))) ∧ Below w.heap.size w w' := by
  have hk := rwords_any v2 N n w h2 hn hN
  have hlc : (cw N).length ≤ 1000 := by
    have := sz_le.2 hN
    exact cw_len_lt (by omega)
  have H := Lib.hid h
  obtain ⟨p, hp⟩ : ∃ p, decide (xs = cw N) = p := ⟨_, rfl⟩
  rw [hp]
  have HPP := Lib.hid hp
  clear h h2 hp
  go_enter Tryd.func14, Tryd.ntmps14
  go_wp2_with fail
  refine hk.mono ?_
  rintro e w1 ⟨v3, rfl, s1, b1⟩
  have H1 := Lib.hid (And.intro s1 b1)
  clear s1 b1 hk
  go_wp2_with fail
  have hk2 := words_any v v3 xs (cw N) w1 (H.out.below H1.out.2).1 H1.out.1.1 (by omega) (by omega)
  rw [HPP.out] at hk2
  refine hk2.mono ?_
  rintro e w2 ⟨rfl, b2⟩
  have hb := H1.out.2.trans (b2.mono H1.out.2.size)
  clear b2 H1 hk2
  go_wp2_with fail
  go_ret
  exact ⟨rfl, hb⟩
end Go.Proofs.YthiahpkodnfdcaaDoor
