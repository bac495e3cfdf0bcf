/- The walk of chapter 6's powers of x. For every input. No condition but the table of trailing zeros. -/
import Derived.Test.YthiahpkodnfdcaaDoorL06e
namespace Go.Proofs.YthiahpkodnfdcaaDoor
open Go.RowKit
theorem nv_one1 (x : BitVec 64) : nv [x] = x.toNat := by
  unfold nv nv; rw [Nat.mul_zero, Nat.add_zero]
theorem powx_zero (s : S4) (v : Value) (ms : List (BitVec 64)) (w : World) (h : SlK w v ms) (hl : ms.length ≤ 1000) (hz : nv ms = 0) :
    Calls Tryd.prog 26 #[u4 s, v] w fun e w' => e = .returned (.tuple #[.slice none 0 0, .bool false]) ∧ Below w.heap.size w w' := by
  have b0 := below_new w (c4 s)
  have b1 := below_new (w.alloc (c4 s)) (.cells #[.int .u64 1] 37)
  have b01 := b0.trans (b1.mono b0.size)
  have hk := mod_zero (.slice (some ⟨w.heap.size + 1, 0, none⟩) 1 1) v ms ((w.alloc (c4 s)).alloc (.cells #[.int .u64 1] 37)) (h.below b01) (by omega) hz
  clear h hz b0 b1
  go_enter Tryd.func26, Tryd.ntmps26
  go_wp2_with fail
  refine hk.mono ?_
  rintro e_ w1 ⟨v1, rfl, _, b2⟩
  have hb := b01.trans (b2.mono b01.size)
  clear hk b2 b01
  go_wp2_with fail
  go_ret2
  exact ⟨rfl, hb⟩
/-- what stands in PowX -/
structure PX (s : S4) (w0 w : World) (vo : Value) (O : Nat) : Prop where
  bel : Below w0.heap.size w0 w
  so : SlK w vo (cw O)
  bx : Blk w w0.heap.size 45 #[.int .u64 (ui s.a), .int .u64 (ui s.b), .int .u64 (ui s.c), .int .u64 (ui s.d)]
theorem PX.next {s : S4} {w0 w w1 : World} {vo : Value} {O : Nat} (h : PX s w0 w vo O) (hb : Below w.heap.size w w1) : PX s w0 w1 vo O := ⟨h.bel.trans (hb.mono h.bel.size), h.so.below hb, h.bx.belowS hb⟩
theorem PX.put {s : S4} {w0 w w1 : World} {vo vn : Value} {O Q : Nat} (h : PX s w0 w vo O) (hb : Below w.heap.size w w1) (hs : SlK w1 vn (cw Q)) : PX s w0 w1 vn Q := ⟨h.bel.trans (hb.mono h.bel.size), hs, h.bx.belowS hb⟩
theorem u4_cells {w : World} {g : Nat} {t : TypeId} {a b c d : Value} (h : Blk w g t #[a, b, c, d]) : w.cell? ⟨g, 0, none⟩ = some a ∧ w.cell? ⟨g, 1, none⟩ = some b ∧ w.cell? ⟨g, 2, none⟩ = some c ∧ w.cell? ⟨g, 3, none⟩ = some d := ⟨h.cell 0, h.cell 1, h.cell 2, h.cell 3⟩
theorem pow_next (N k : Nat) : N / 2 ^ k = 2 * (N / 2 ^ (k + 1)) + (N.testBit k).toNat := by
  have h1 : N / 2 ^ (k + 1) = N / 2 ^ k / 2 := by rw [Nat.pow_succ, Nat.div_div_eq_div_mul]
  have h2 : (N.testBit k).toNat = N / 2 ^ k % 2 := by
    rw [Nat.testBit, Nat.shiftRight_eq_div_pow, Nat.one_and_eq_mod_two]
    rcases Nat.mod_two_eq_zero_or_one (N / 2 ^ k) with h | h <;> rw [h] <;> rfl
  rw [h1, h2]; omega
set_option maxHeartbeats 1000000 in
theorem powx_any (s : S4) (v : Value) (ms : List (BitVec 64)) (w : World) (h : SlK w v ms) (hl : ms.length ≤ 1000) (hz : nv ms ≠ 0) (hT : Tab w) :
    Calls Tryd.prog 26 #[u4 s, v] w (RM w (cw (drem (2 ^ nv (ls s)) (nv ms))) true) := by
  have hTp := hT.1
  have b0 := below_new w (c4 s)
  have b1 := below_new (w.alloc (c4 s)) (.cells #[.int .u64 1] 37)
  have b01 := b0.trans (b1.mono b0.size)
  have h1 := lit_slk (w.alloc (c4 s)) 1#64
  rw [size_alloc] at h1
  have hk := mod_any _ v [1#64] ms _ h1 (h.below b01) (by simp) (by omega) hz
  rw [show nv [1#64] = 1 from rfl] at hk
  have hlen := len4_any s
  have hbit := fun m hm => bit4_any s m hm
  have hlt : sz (nv (ls s)) ≤ 256 := sz_le.2 (nv_lt (ls s))
  have hsz := lt_sz (nv (ls s))
  generalize nv (ls s) = N at *
  obtain ⟨P, hP⟩ : ∃ P : Nat → Nat, ∀ n, drem (2 ^ n) (nv ms) = P n := ⟨_, fun _ => rfl⟩
  have hp2 := fun n => (pow_rem n (nv ms) hz)
  simp only [hP] at hp2
  have p0 : drem 1 (nv ms) = P 0 := by rw [← hP 0, Nat.pow_zero]
  have hPl : ∀ n, (cw (P n)).length ≤ 1000 := by
    intro n
    rw [← hP n]
    have h1 := rem_lt (2 ^ n) (nv ms) hz
    have h2 := (@sz_le (nv ms) (64 * ms.length)).2 (nv_lt ms)
    exact cw_len_lt (by omega)
  rw [hP]
  rw [p0] at hk
  obtain ⟨t, ht⟩ : ∃ t, sz N = t := ⟨_, rfl⟩
  rw [ht] at hlt hsz hlen
  have HB := Lib.hid hbit
  have HLEN := Lib.hid hlen
  have H := Lib.hid h
  have HT := Lib.hid hT
  have HZ := Lib.hid hz
  have HPP := Lib.hid hp2
  have HPL := Lib.hid hPl
  have HSZ := Lib.hid hsz
  have t0 : (0 : Int) ≤ (t : Int) := by omega
  have b1' := b1
  clear h hT hz hp2 hPl hbit hlen b0 b1 h1 hP p0 ht hsz
  go_enter Tryd.func26, Tryd.ntmps26
  go_wp2_with fail
  refine hk.mono ?_
  rintro e_ w1 ⟨v1, rfl, s1, b2⟩
  have HX := Lib.hid (PX.mk (b01.trans (b2.mono b01.size)) s1 ((Blk.new w 45 #[.int .u64 (ui s.a), .int .u64 (ui s.b), .int .u64 (ui s.c), .int .u64 (ui s.d)]).belowS (b1'.trans (b2.mono b1'.size))))
  clear hk b2 b01 s1 b1'
  obtain ⟨d0, d1, d2, d3⟩ := u4_cells HX.out.bx
  go_wp2_with fail
  refine (HLEN.out _).mono ?_
  rintro e_ w2 ⟨rfl, b3⟩
  have HX2 := Lib.hid (HX.out.next b3)
  clear b3 HX d0 d1 d2 d3
  go_wp2_with fail
  go_loopw [6, 8] (fun vo i wr => ∃ k : Nat, k ≤ t ∧ i = .int .i64 ((k : Int) - 1) ∧ PX s w wr vo (P (N / 2 ^ k))) (fun _ i _ => (intOf i + 1).toNat)
  case atStart =>
    refine ⟨t, Nat.le_refl _, rfl, ?_⟩
    rw [Nat.div_eq_of_lt HSZ.out]
    exact HX2.out
  case round =>
    obtain ⟨k, hk, hi, hpx⟩ := hrel
    clear HX2
    have HX := Lib.hid hpx
    clear hpx
    by_cases h0 : k = 0
    · subst h0
      rw [show ((0 : Nat) : Int) - 1 = -1 from rfl] at hi
      subst hi
      have h1 := HX.out
      rw [Nat.pow_zero, Nat.div_one] at h1
      have HX1 := Lib.hid h1
      clear h1 HX
      go_wp2_with fail
      go_ret2
      exact ⟨_, rfl, HX1.out.so, HX1.out.bel⟩
    · obtain ⟨j, rfl⟩ : ∃ j, k = j + 1 := ⟨k - 1, by omega⟩
      rw [show ((j + 1 : Nat) : Int) - 1 = (j : Int) by omega] at hi
      subst hi
      have hj0 : (0 : Int) ≤ (j : Int) := by omega
      have hN := pow_next N j
      obtain ⟨Q, hQ⟩ : ∃ Q, N / 2 ^ (j + 1) = Q := ⟨_, rfl⟩
      obtain ⟨R, hR⟩ : ∃ R, N / 2 ^ j = R := ⟨_, rfl⟩
      have h1 := HX.out
      rw [hQ] at hN h1
      rw [hR] at hN
      have hk1 := mulmod_any _ _ v (cw (P Q)) (cw (P Q)) ms wr h1.so h1.so (H.out.below h1.bel) (by have := HPL.out Q; omega) (by have := HPL.out Q; omega) (by omega) HZ.out (HT.out.belowN h1.bel hTp)
      rw [nv_cw, (HPP.out Q).1] at hk1
      have HX1 := Lib.hid h1
      have HR := Lib.hid hR
      clear HX h1 hQ hR
      go_wp2_with fail
      refine hk1.mono ?_
      rintro e_ w3 ⟨v3, rfl, s3, b3⟩
      have HX3 := Lib.hid (HX1.out.put b3 s3)
      clear hk1 s3 b3 HX1
      obtain ⟨d0, d1, d2, d3⟩ := u4_cells HX3.out.bx
      rcases hbt : N.testBit j with _ | _
      · rw [hbt] at hN
        have hN2 : R = 2 * Q := hN
        have hk2 := HB.out j (by omega)
        rw [hbt] at hk2
        clear hbt hN
        subst hN2
        go_wp2_with fail
        refine (hk2 _).mono ?_
        rintro e_ w4 ⟨rfl, b4⟩
        have HX4 := Lib.hid (HX3.out.next b4)
        clear b4 HX3 d0 d1 d2 d3 hk2
        go_wp2_with fail
        go_roundw
        case rel => exact ⟨j, by omega, rfl, by rw [HR.out]; exact HX4.out⟩
        case measure => simp [intOf] <;> omega
      · rw [hbt] at hN
        have hN2 : R = 2 * Q + 1 := hN
        have hk2 := HB.out j (by omega)
        rw [hbt] at hk2
        clear hbt hN
        subst hN2
        go_wp2_with fail
        refine (hk2 _).mono ?_
        rintro e_ w4 ⟨rfl, b4⟩
        have h4 := HX3.out.next b4
        have bn := below_new w4 (.cells #[.int .u64 2] 37)
        have h5 := h4.next bn
        have hk3 := mulmod_any _ _ v (cw (P (2 * Q))) [2#64] ms _ h5.so (lit_slk w4 2#64) (H.out.below h5.bel) (by have := HPL.out (2 * Q); omega) (by simp) (by omega) HZ.out (HT.out.belowN h5.bel hTp)
        rw [nv_cw, show nv [2#64] = 2 from rfl, (HPP.out (2 * Q)).2] at hk3
        have HX5 := Lib.hid h5
        clear b4 HX3 d0 d1 d2 d3 hk2 h4 h5 bn
        go_wp2_with fail
        refine hk3.mono ?_
        rintro e_ w6 ⟨v6, rfl, s6, b6⟩
        have HX6 := Lib.hid (HX5.out.put b6 s6)
        clear hk3 s6 b6 HX5
        go_wp2_with fail
        go_roundw
        case rel => exact ⟨j, by omega, rfl, by rw [HR.out]; exact HX6.out⟩
        case measure => simp [intOf] <;> omega
end Go.Proofs.YthiahpkodnfdcaaDoor
