/- The walk of Go's long division of two words by one. No condition but its own: the divisor is greater than the high word. -/
import Derived.Test.YtodflmngbkiemaaShelf
import Derived.Test.YtodflmngbkiemaaPlDivB
import Derived.LoopTactic
import Derived.Deep.QuietTactic
import Derived.BigQuiet
import Derived.Deep.LoopGhost
import Derived.Deep.CutBlock
import Derived.Deep.DeepCutAuto
namespace Go.Proofs.Ytodflmngbkiemaa
open Go.RowKit
theorem ret_t2' {a b c d : Value} (h : a = b) (h2 : c = d) : Ending.returned (.tuple #[a, c]) = .returned (.tuple #[b, d]) := by rw [h, h2]
theorem lz_any (y : BitVec 64) (w : World) :
    Calls Try.prog 79 #[.int .u64 (ui y)] w fun e w' => e = .returned (.int .i64 (clz y)) ∧ w = w' := by
  have hle : (bl y.toNat : Int) ≤ 64 := by have := bl_le y.toNat 64 y.isLt; omega
  have hv : (64 : Int) - (bl y.toNat : Int) = (clz y : Int) := by unfold clz; omega
  have HV := Lib.hid hv
  clear hv
  generalize hb : bl y.toNat = b at *
  have HB := Lib.hid hb
  clear hb
  go_enter Try.func79, Try.ntmps79
  go_wp2_with fail
  refine (len64_any _ _).mono ?_
  rw [HB.out]
  rintro e w' ⟨rfl, rfl⟩
  go_wp2_with fail
  go_ret
  exact ⟨ret_i64 HV.out, rfl⟩
theorem ui_ne0 {y : BitVec 64} (h : 0 < y.toNat) : ¬ ui y = 0 := by rw [ui_def]; omega
theorem clz_cnt (y : BitVec 64) (h : clz y < 64) : (ui (BitVec.ofInt 64 (clz y : Int))).toNat = clz y ∧ (ui (64#64 - BitVec.ofInt 64 (clz y : Int))).toNat = 64 - clz y := by
  generalize clz y = n at *
  have e : (BitVec.ofInt 64 (n : Int)).toNat = n := by
    rw [BitVec.ofInt_natCast, BitVec.toNat_ofNat]; omega
  rw [ui_def, ui_def, e, BitVec.toNat_sub, e]
  constructor
  · omega
  · rw [show (64#64 : BitVec 64).toNat = 64 from rfl]; omega
theorem div64_low (lo y : BitVec 64) (hy : ¬ ui y = 0) (w : World) :
    Calls Try.prog 72 #[.int .u64 0, .int .u64 (ui lo), .int .u64 (ui y)] w fun e w' => e = .returned (.tuple #[.int .u64 (ui (lo / y)), .int .u64 (ui (lo % y))]) ∧ ∃ q, w' = w.drewN q := by
  have hy0 : (y == 0#64) = false := by rw [beq_eq_false_iff_ne]; rintro rfl; exact hy rfl
  have hy1 : ¬ ui y ≤ 0 := by have := ui_nonneg y; omega
  go_enter Try.func72, Try.ntmps72
  go_wp2_with fail
  go_quiet (fail)
  go_wp2_with fail
  go_ret2
  exact ⟨rfl, _, rfl⟩
structure Cnt (y : BitVec 64) (S : BitVec 64) : Prop where
  a : (ui S).toNat = clz y
  b : (ui (64#64 - S)).toNat = 64 - clz y
theorem dig_start' {Y1 Y0 U D : BitVec 64} (h : Dig Y1.toNat Y0.toNat U.toNat D.toNat) : DigRel Y1.toNat Y0.toNat U.toNat D.toNat (U / Y1).toNat (U - U / Y1 * Y1).toNat := by
  have hs := dig_start h
  have e : (U / Y1).toNat = U.toNat / Y1.toNat := BitVec.toNat_udiv
  have hd := Nat.div_add_mod U.toNat Y1.toNat
  rw [Nat.mul_comm] at hd
  have hU := U.isLt
  have e2 : (U / Y1 * Y1).toNat = U.toNat / Y1.toNat * Y1.toNat := by rw [mul_nat (by rw [e]; omega), e]
  rw [sub_nat (by rw [e2]; omega), e2, e, show U.toNat - U.toNat / Y1.toNat * Y1.toNat = U.toNat % Y1.toNat by omega]
  exact hs
/-- a round of a digit's loop -/
theorem round_go {Y1 Y0 U D q r : BitVec 64} (hd : Dig Y1.toNat Y0.toNat U.toNat D.toNat) (h : DigRel Y1.toNat Y0.toNat U.toNat D.toNat q.toNat r.toNat)
    (c : 4294967296 ≤ ui q ∨ ui (4294967296#64 * r + D) < ui (q * Y0)) :
    (q - 1#64).toNat < q.toNat ∧ (¬ 4294967296 ≤ ui (r + Y1) → DigRel Y1.toNat Y0.toNat U.toNat D.toNat (q - 1#64).toNat (r + Y1).toNat) ∧ (4294967296 ≤ ui (r + Y1) → (q - 1#64).toNat = digQ Y1.toNat Y0.toNat U.toNat D.toNat) := by
  obtain ⟨t1, t2, t3⟩ := test_nat hd h
  rw [ui_def, ui_def, ui_def, t1, t2] at c
  rw [ui_def, t3]
  have c' : 4294967296 ≤ q.toNat ∨ 4294967296 * r.toNat + D.toNat < q.toNat * Y0.toNat := by omega
  have hlt := dig_more hd h c'
  have e : (q - 1#64).toNat = q.toNat - 1 := sub_nat (by rw [show (1#64 : BitVec 64).toNat = 1 from rfl]; omega)
  rw [e]
  exact ⟨by omega, fun hr => dig_next h hlt (by omega), fun hr => dig_break hd h hlt (by omega)⟩
theorem round_exit {Y1 Y0 U D q r : BitVec 64} (hd : Dig Y1.toNat Y0.toNat U.toNat D.toNat) (h : DigRel Y1.toNat Y0.toNat U.toNat D.toNat q.toNat r.toNat)
    (c : ¬ ui (4294967296#64 * r + D) < ui (q * Y0)) : q.toNat = digQ Y1.toNat Y0.toNat U.toNat D.toNat := by
  obtain ⟨t1, t2, t3⟩ := test_nat hd h
  rw [ui_def, ui_def, t1, t2] at c
  exact dig_exit hd h (by omega)
theorem div64_high (hi lo y : BitVec 64) (hh : (hi == 0#64) = false) (hlt : ui hi < ui y) (w : World) :
    Calls Try.prog 72 #[.int .u64 (ui hi), .int .u64 (ui lo), .int .u64 (ui y)] w fun e w' => e = .returned (.tuple #[.int .u64 (ui (divQ hi lo y)), .int .u64 (ui (divR hi lo y))]) ∧ ∃ q, w' = w.drewN q := by
  have hhi := ui_nonneg hi
  have hlt' := hlt
  have hy : ¬ ui y = 0 := by omega
  have hy0 : (y == 0#64) = false := by rw [beq_eq_false_iff_ne]; rintro rfl; exact hy rfl
  have hN : hi.toNat < y.toNat := by rw [ui_def, ui_def] at hlt; omega
  have hlz := lz_any y w
  obtain ⟨hk, -, -⟩ := clz_spec y (by omega)
  obtain ⟨hc1, hc2⟩ := clz_cnt y hk
  have hn := norm_words hi lo y hN
  generalize hs : (clz y : Int) = s at *
  have hs0 : 0 ≤ s := by omega
  have hs1 : s < 64 := by omega
  rw [← hc2, ← hc1] at hn
  have HC := Lib.hid (Cnt.mk hc1 hc2)
  have hd1 := hn.dig1
  have hz : ¬ ui (y <<< (ui (BitVec.ofInt 64 s)).toNat >>> 32) = 0 := ui_ne0 (by have := hd1.y1; omega)
  have HN := Lib.hid hn
  clear hc1 hc2 hn hd1 hs hk hN
  go_enter Try.func72, Try.ntmps72
  go_wp2_with fail
  refine hlz.mono ?_
  clear hlz
  rintro e w' ⟨rfl, rfl⟩
  go_upto_block 0 with fail
  generalize BitVec.ofInt 64 s = S at *
  generalize (y <<< (ui S).toNat >>> 32) = Y1 at *
  generalize (y <<< (ui S).toNat &&& 4294967295#64) = Y0 at *
  generalize (hi <<< (ui S).toNat ||| lo >>> (ui (64#64 - S)).toNat) = U at *
  generalize (lo <<< (ui S).toNat >>> 32) = D1 at *
  generalize (lo <<< (ui S).toNat &&& 4294967295#64) = D0 at *
  generalize (y <<< (ui S).toNat) = Y at *
  go_cut [15, 16] (fun a b wx => w = wx ∧ ∃ q r : BitVec 64, a = .int .u64 (ui q) ∧ b = .int .u64 (ui r) ∧ RowKit.Hid (q.toNat = digQ Y1.toNat Y0.toNat U.toNat D1.toNat))
  case first =>
    go_wp2_with fail
    go_loopg [15, 16] (U / Y1).toNat (fun gk a b wr => w = wr ∧ ∃ q r : BitVec 64, gk = q.toNat ∧ a = .int .u64 (ui q) ∧ b = .int .u64 (ui r) ∧ RowKit.Hid (DigRel Y1.toNat Y0.toNat U.toNat D1.toNat q.toNat r.toNat))
    case atStart => exact ⟨rfl, _, _, rfl, rfl, rfl, dig_start' HN.out.dig1⟩
    case round =>
      obtain ⟨rfl, q, r, rfl, rfl, rfl, HR⟩ := hrel
      by_cases c : 4294967296 ≤ ui q
      · have HG := Lib.hid (round_go HN.out.dig1 HR.out (Or.inl c))
        by_cases c3 : 4294967296 ≤ ui (r + Y1)
        · have HE := Lib.hid (HG.out.2.2 c3)
          go_wp2_with fail
          go_meet
          exact ⟨rfl, _, _, rfl, rfl, HE⟩
        · have HE := Lib.hid (HG.out.2.1 c3)
          go_wp2_with fail
          go_roundg (q - 1#64).toNat
          case measure => exact HG.out.1
          case rel => exact ⟨rfl, _, _, rfl, rfl, rfl, HE⟩
      · by_cases c2 : ui (4294967296#64 * r + D1) < ui (q * Y0)
        · have HG := Lib.hid (round_go HN.out.dig1 HR.out (Or.inr c2))
          by_cases c3 : 4294967296 ≤ ui (r + Y1)
          · have HE := Lib.hid (HG.out.2.2 c3)
            go_wp2_with fail
            go_meet
            exact ⟨rfl, _, _, rfl, rfl, HE⟩
          · have HE := Lib.hid (HG.out.2.1 c3)
            go_wp2_with fail
            go_roundg (q - 1#64).toNat
            case measure => exact HG.out.1
            case rel => exact ⟨rfl, _, _, rfl, rfl, rfl, HE⟩
        · have HE := Lib.hid (round_exit HN.out.dig1 HR.out c2)
          go_wp2_with fail
          go_meet
          exact ⟨rfl, _, _, rfl, rfl, HE⟩
  case rest =>
    obtain ⟨rfl, q1, r1, rfl, rfl, HQ1⟩ := hcut
    have HL := Lib.hid (left_word HN.out.split HN.out.dig1 HQ1.out)
    go_upto_block 2 with fail
    generalize (U * 4294967296#64 + D1 - q1 * Y) = R at *
    go_cut [16, 18] (fun a b wx => w = wx ∧ ∃ q r : BitVec 64, b = .int .u64 (ui q) ∧ a = .int .u64 (ui r) ∧ RowKit.Hid (q.toNat = digQ Y1.toNat Y0.toNat R.toNat D0.toNat))
    case first =>
      go_wp2_with fail
      go_loopg [16, 18] (R / Y1).toNat (fun gk a b wr => w = wr ∧ ∃ q r : BitVec 64, gk = q.toNat ∧ b = .int .u64 (ui q) ∧ a = .int .u64 (ui r) ∧ RowKit.Hid (DigRel Y1.toNat Y0.toNat R.toNat D0.toNat q.toNat r.toNat))
      case atStart => exact ⟨rfl, _, _, rfl, rfl, rfl, dig_start' (HN.out.dig0 R HL.out)⟩
      case round =>
        obtain ⟨rfl, q, r, rfl, rfl, rfl, HR⟩ := hrel
        by_cases c : 4294967296 ≤ ui q
        · have HG := Lib.hid (round_go (HN.out.dig0 R HL.out) HR.out (Or.inl c))
          by_cases c3 : 4294967296 ≤ ui (r + Y1)
          · have HE := Lib.hid (HG.out.2.2 c3)
            go_wp2_with fail
            go_meet
            exact ⟨rfl, _, _, rfl, rfl, HE⟩
          · have HE := Lib.hid (HG.out.2.1 c3)
            go_wp2_with fail
            go_roundg (q - 1#64).toNat
            case measure => exact HG.out.1
            case rel => exact ⟨rfl, _, _, rfl, rfl, rfl, HE⟩
        · by_cases c2 : ui (4294967296#64 * r + D0) < ui (q * Y0)
          · have HG := Lib.hid (round_go (HN.out.dig0 R HL.out) HR.out (Or.inr c2))
            by_cases c3 : 4294967296 ≤ ui (r + Y1)
            · have HE := Lib.hid (HG.out.2.2 c3)
              go_wp2_with fail
              go_meet
              exact ⟨rfl, _, _, rfl, rfl, HE⟩
            · have HE := Lib.hid (HG.out.2.1 c3)
              go_wp2_with fail
              go_roundg (q - 1#64).toNat
              case measure => exact HG.out.1
              case rel => exact ⟨rfl, _, _, rfl, rfl, rfl, HE⟩
          · have HE := Lib.hid (round_exit (HN.out.dig0 R HL.out) HR.out c2)
            go_wp2_with fail
            go_meet
            exact ⟨rfl, _, _, rfl, rfl, HE⟩
    case rest =>
      obtain ⟨rfl, q0, r0, rfl, rfl, HQ0⟩ := hcut
      have HL0 := Lib.hid (left_word HN.out.split (HN.out.dig0 R HL.out) HQ0.out)
      have HF := Lib.hid (HN.out.fin q1 R q0 (R * 4294967296#64 + D0 - q0 * Y) HQ1.out HL.out HQ0.out HL0.out)
      go_wp2_with fail
      rw [← HF.out.1, ← HF.out.2]
      go_ret2
      exact ⟨rfl, 0, rfl⟩
/-- the long division of two words by one -/
theorem div64_any (hi lo y : BitVec 64) (hlt : ui hi < ui y) (w : World) :
    Calls Try.prog 72 #[.int .u64 (ui hi), .int .u64 (ui lo), .int .u64 (ui y)] w fun e w' => e = .returned (.tuple #[.int .u64 (ui (divQ hi lo y)), .int .u64 (ui (divR hi lo y))]) ∧ ∃ q, w' = w.drewN q := by
  by_cases h : hi = 0#64
  · subst h
    have h1 : lo / y = divQ 0#64 lo y := by
      unfold divQ; apply BitVec.eq_of_toNat_eq
      rw [BitVec.toNat_udiv, BitVec.toNat_ofNat, show (0#64 : BitVec 64).toNat = 0 from rfl, Nat.zero_mul, Nat.zero_add]
      exact (Nat.mod_eq_of_lt (Nat.lt_of_le_of_lt (Nat.div_le_self _ _) lo.isLt)).symm
    have h2 : lo % y = divR 0#64 lo y := by
      unfold divR; apply BitVec.eq_of_toNat_eq
      rw [BitVec.toNat_umod, BitVec.toNat_ofNat, show (0#64 : BitVec 64).toNat = 0 from rfl, Nat.zero_mul, Nat.zero_add]
      exact (Nat.mod_eq_of_lt (Nat.lt_of_le_of_lt (Nat.mod_le _ _) lo.isLt)).symm
    rw [← h1, ← h2]
    exact div64_low lo y (by have := ui_nonneg (0#64); omega) w
  · exact div64_high hi lo y (by simpa using h) hlt w
end Go.Proofs.Ytodflmngbkiemaa
