/- The walks of chapter 1's reference: bits, words, shifts, lengths. No condition but on lengths. -/
import Derived.Test.YtodflmngbkiemaaRows
import Derived.Test.YtodflmngbkiemaaPl01
import Derived.WalkKit
import Derived.WalkSpells
import Derived.WalkLawsBesides
import Derived.LoopTactic
import Derived.Deep.QuietTactic
import Derived.BigQuiet
import Derived.Outline
import Derived.Lib.Hide
namespace Go.Proofs.Ytodflmngbkiemaa
open Go.RowKit
theorem ret_t2 {a b c d : Value} (h : a = b) (h2 : c = d) : Ending.returned (.tuple #[a, c]) = .returned (.tuple #[b, d]) := by rw [h, h2]
theorem v_u64 {a b : BitVec 64} (h : a = b) : Value.int .u64 (ui a) = .int .u64 (ui b) := by rw [h]
theorem v_i64 {a b : Int} (h : a = b) : Value.int .i64 a = .int .i64 b := by rw [h]
theorem v_bool {a b : Bool} (h : a = b) : Value.bool a = .bool b := by rw [h]
theorem ret_b {a b : Bool} (h : a = b) : Ending.returned (.bool a) = .returned (.bool b) := by rw [h]
theorem info_int : (Try.prog.info? 3).map (fun i => (i.zero, i.size, i.bytes)) = some (some (.int .i64 0), 1, 8) := by kernel_rfl
theorem of_any (x : BitVec 64) (n : Int) (hn : n ≤ 300) (w : World) :
    Calls Try.prog 64 #[.int .u64 (ui x), .int .i64 n] w (RetSl 3 (bvs x.toNat n.toNat) w) := by
  obtain ⟨i0, hi, hz0, hz1, hz2⟩ := info_parts info_int
  go_enter Try.func64, Try.ntmps64
  go_wp2_with fail
  go_loopw [5, 6] (fun v i wr => ∃ k : Nat, k ≤ n.toNat ∧ i = .int .i64 k ∧ wr.ownsRow w.heap.size 3 1 v k (bvs x.toNat k) ∧ Below w.heap.size w wr) (fun _ i _ => (300 - intOf i).toNat)
  case atStart => exact ⟨0, by omega, rfl, World.ownsRow_nil _ _ _ _, Below.refl _ _⟩
  case round =>
    obtain ⟨k, hk, rfl, hown, hb⟩ := hrel
    by_cases h1 : (k : Int) < n
    · by_cases h2 : (k : Int) < 64
      · have hbit := of_bit x k
        have hk64 := ui_nat k (by omega)
        have hw : wrap64 (bi x.toNat k) = bi x.toNat k := by
          have := bi_01 x.toNat k
          exact IntWalk.wrap64_in _ (by omega)
        go_wp2_with (at_builtin; refine wpList_append_own _ rfl _ _ 25 rfl w.heap.size 3 i0 (.int .i64 0) 1 8 Try.underlying25 hi hz0 hz1 hz2 rfl (by decide) _ _ _ rfl (hown.alloc _) ⟨wr.heap.size, 0, none⟩ 1 1 [.int .i64 (bi x.toNat k)] rfl rfl ?c1 ?c2 ?c3 ?c4 ?c5 ?_)
        case c1 => exact cell_one_new _ _ _
        case c2 => intro u hu; simp at hu; subst hu; rfl
        case c3 => unfold maxLen; omega
        case c4 => omega
        case c5 => have := hb.size; simp; omega
        intro v' w1 hown' hgrow _
        have hB : Below w.heap.size w w1 := (hb.alloc hb.size _).grown hgrow (by have := hb.size; simp; omega) (fun q hq => (hown.lt q hq).1)
        rw [← bvs_snoc] at hown'
        clear hgrow hown hbit hw hk64
        go_wp2_with fail
        go_roundw
        case rel => exact ⟨k + 1, by omega, by go_num, hown', hB⟩
        case measure => simp [intOf]; omega
      · have hbit : bi x.toNat k = 0 := bi_big x.isLt (by omega)
        go_wp2_with (at_builtin; refine wpList_append_own _ rfl _ _ 25 rfl w.heap.size 3 i0 (.int .i64 0) 1 8 Try.underlying25 hi hz0 hz1 hz2 rfl (by decide) _ _ _ rfl (hown.alloc _) ⟨wr.heap.size, 0, none⟩ 1 1 [.int .i64 0] rfl rfl ?d1 ?d2 ?d3 ?d4 ?d5 ?_)
        case d2 => first | rfl | (simp; done) | kernel_rfl
        case d3 => unfold maxLen; omega
        case d4 => omega
        case d5 => have := hb.size; simp; omega
        intro v' w1 hown' hgrow _
        have hB : Below w.heap.size w w1 := (hb.alloc hb.size _).grown hgrow (by have := hb.size; simp; omega) (fun q hq => (hown.lt q hq).1)
        rw [show (0 : Int) = bi x.toNat k from hbit.symm, ← bvs_snoc] at hown'
        clear hgrow hown hbit
        go_wp2_with fail
        go_roundw
        case rel => exact ⟨k + 1, by omega, by go_num, hown', hB⟩
        case measure => simp [intOf]; omega
    · go_wp2_with fail
      go_ret
      exact ⟨_, rfl, by rw [bvs_length, show n.toNat = k by omega]; exact hown, hb⟩
theorem word_any (va : Value) (v m : Nat) (hv : v < 2 ^ m) (hm : m ≤ 1000) (from_ : Int) (h0 : 0 ≤ from_) (h1 : from_ ≤ 1000) (w : World) (hx : SlV w va (bvs v m)) :
    Calls Try.prog 59 #[va, .int .i64 from_] w fun e w' => e = .returned (.int .u64 (ui (BitVec.ofNat 64 (v / 2 ^ from_.toNat)))) ∧ w = w' := by
  obtain ⟨f, rfl⟩ := Int.eq_ofNat_of_zero_le h0
  simp only [Int.toNat_natCast]
  have hlen : ∃ ao cap, va = .slice ao m cap ∧ (0 < m → ∃ b o, ao = some ⟨b, o, none⟩ ∧ ∀ i, i < m → w.cell? ⟨b, o + i, none⟩ = some (.int .i64 (bi v i))) := by
    rcases hx with ⟨hnil, ao, cap, rfl⟩ | ⟨b, o, cap, rfl, hc⟩
    · have : m = 0 := by have := congrArg List.length hnil; rw [bvs_length] at this; simpa using this
      subst this
      exact ⟨ao, cap, rfl, fun h => absurd h (by omega)⟩
    · rw [bvs_length]
      exact ⟨_, _, rfl, fun _ => ⟨b, o, rfl, fun i hi => hc i _ (bvs_get v m i hi)⟩⟩
  obtain ⟨ao, cap, rfl, hc⟩ := hlen
  have HC := Lib.hid hc
  clear hc hx
  go_enter Try.func59, Try.ntmps59
  go_wp2_with fail
  go_loop [5, 6] (fun n i => ∃ t : Nat, t ≤ 64 ∧ i = .int .i64 (63 - (t : Int)) ∧ n = .int .u64 (ui (BitVec.ofNat 64 (v / 2 ^ (f + 64 - t) % 2 ^ t)))) (fun _ i => (intOf i + 1).toNat)
  case atStart => exact ⟨0, by omega, rfl, by rw [Nat.pow_zero, Nat.mod_one]; rfl⟩
  case round =>
    obtain ⟨t, ht, rfl, rfl⟩ := hrel
    by_cases h2 : t < 64
    · obtain ⟨p, hp⟩ : ∃ p, p = f + 63 - t := ⟨_, rfl⟩
      have e1 : f + 64 - t = p + 1 := by omega
      have e2 : (f : Int) + (63 - (t : Int)) = (p : Int) := by omega
      rw [e1]
      have h2' : (0 : Int) ≤ 63 - (t : Int) := by omega
      by_cases h3 : p < m
      · obtain ⟨b, o, rfl, hc⟩ := HC.out (by omega)
        have hcell := hc p h3
        have hst := word_step v p t
        have E1 := Lib.hid e1
        have HP := Lib.hid hp
        clear hc e1 hp
        have h3' : (p : Int) < (m : Int) := by omega
        go_wp2_with fail
        exact ⟨⟨t + 1, by omega, by congr 1; omega, by rw [show f + 64 - (t + 1) = p by have := E1.out; omega]⟩, by simp [intOf]; omega⟩
      · have hst := word_skip v p t m hv (by omega)
        have E1 := Lib.hid e1
        have HP := Lib.hid hp
        have h3' : ¬ (p : Int) < (m : Int) := by omega
        clear e1 hp
        go_wp2_with fail
        exact ⟨⟨t + 1, by omega, by congr 1; omega, by rw [show f + 64 - (t + 1) = p by have := E1.out; omega]⟩, by simp [intOf]; omega⟩
    · obtain rfl : t = 64 := by omega
      go_wp2_with fail
      go_ret
      exact ⟨ret_u64 (by apply BitVec.eq_of_toNat_eq; rw [BitVec.toNat_ofNat, BitVec.toNat_ofNat]; exact Nat.mod_mod _ _), rfl⟩
theorem at_any (va : Value) (v m : Nat) (hv : v < 2 ^ m) (hm : m ≤ 1000) (i : Int) (w : World) (hx : SlV w va (bvs v m)) :
    Calls Try.prog 76 #[va, .int .i64 i] w fun e w' => e = .returned (.int .i64 (atZ v i)) ∧ w = w' := by
  by_cases h0 : i < 0
  · have ha : atZ v i = 0 := by unfold atZ; rw [if_pos h0]
    have HA := Lib.hid ha
    clear ha hx
    go_enter Try.func76, Try.ntmps76
    go_wp2_with fail
    go_ret
    exact ⟨ret_i64 HA.out.symm, rfl⟩
  · obtain ⟨k, rfl⟩ := Int.eq_ofNat_of_zero_le (show 0 ≤ i by omega)
    rw [atZ_nat]
    rcases hx.cases with ⟨hnil, ao, cap, rfl⟩ | ⟨b, o, cap, rfl, hpos, hc⟩
    · have hz : m = 0 := by have := congrArg List.length hnil; rw [bvs_length] at this; simpa using this
      subst hz
      have hb : bi v k = 0 := bi_big hv (by omega)
      have HB := Lib.hid hb
      clear hb hx hnil
      go_enter Try.func76, Try.ntmps76
      go_wp2_with fail
      go_ret
      exact ⟨ret_i64 HB.out.symm, rfl⟩
    · rw [bvs_length] at *
      by_cases hk : k < m
      · have hcell := hc k _ (bvs_get v m k hk)
        have hk' : (k : Int) < (m : Int) := by omega
        clear hc hx hv
        go_enter Try.func76, Try.ntmps76
        go_wp2_with fail
        go_ret
        exact ⟨rfl, rfl⟩
      · have hb : bi v k = 0 := bi_big hv (by omega)
        have HB := Lib.hid hb
        have hk' : ¬ (k : Int) < (m : Int) := by omega
        clear hb hc hx hv
        go_enter Try.func76, Try.ntmps76
        go_wp2_with fail
        go_ret
        exact ⟨ret_i64 HB.out.symm, rfl⟩
theorem len_any (va : Value) (v m : Nat) (hv : v < 2 ^ m) (hm : m ≤ 1000) (w : World) (hx : SlV w va (bvs v m)) :
    Calls Try.prog 73 #[va] w fun e w' => e = .returned (.int .i64 (bl v)) ∧ w = w' := by
  rcases hx.cases with ⟨hnil, ao, cap, rfl⟩ | ⟨b, o, cap, rfl, hpos, hc⟩
  · have hz : m = 0 := by have := congrArg List.length hnil; rw [bvs_length] at this; simpa using this
    subst hz
    obtain rfl : v = 0 := by simpa using hv
    clear hx hnil
    go_enter Try.func73, Try.ntmps73
    go_wp2_with fail
    go_loop [3, 4] (fun n i => n = .int .i64 0 ∧ i = .int .i64 0) (fun _ _ => 0)
    case atStart => exact ⟨rfl, rfl⟩
    case round =>
      obtain ⟨rfl, rfl⟩ := hrel
      go_wp2_with fail
      go_ret
      exact ⟨rfl, rfl⟩
  · rw [bvs_length] at *
    have HC := Lib.hid hc
    clear hc hx
    go_enter Try.func73, Try.ntmps73
    go_wp2_with fail
    go_loop [3, 4] (fun n i => ∃ k : Nat, k ≤ m ∧ i = .int .i64 k ∧ n = .int .i64 (bl (v % 2 ^ k))) (fun _ i => m - (intOf i).toNat)
    case atStart => exact ⟨0, by omega, rfl, by rw [Nat.pow_zero, Nat.mod_one]; rfl⟩
    case round =>
      obtain ⟨k, hk, rfl, rfl⟩ := hrel
      by_cases hlt : k < m
      · have hcell := HC.out k _ (bvs_get v m k hlt)
        have hlt' : (k : Int) < (m : Int) := by omega
        have hn := bl_next v k
        by_cases h1 : bi v k = 1
        · rw [h1] at hcell
          rw [if_pos h1] at hn
          have HN := Lib.hid hn
          clear hn h1
          go_wp2_with fail
          go_round
          case rel => exact ⟨k + 1, by omega, by go_num, by rw [HN.out]; go_num⟩
          case measure => simp [intOf]; omega
        · have h0 : bi v k = 0 := by have := bi_01 v k; omega
          rw [h0] at hcell
          rw [if_neg h1] at hn
          have HN := Lib.hid hn
          clear hn h1 h0
          go_wp2_with fail
          go_round
          case rel => exact ⟨k + 1, by omega, by go_num, by rw [HN.out]⟩
          case measure => simp [intOf]; omega
      · obtain rfl : k = m := by omega
        have e := Nat.mod_eq_of_lt hv
        have HE := Lib.hid e
        clear e
        go_wp2_with fail
        go_ret
        exact ⟨ret_i64 (by rw [HE.out]), rfl⟩
theorem shl_any (va : Value) (v m : Nat) (hv : v < 2 ^ m) (hm : m ≤ 1000) (by_ n : Int) (hb0 : 0 ≤ by_) (hb1 : by_ ≤ 1000) (hn : n ≤ 1000) (w : World) (hx : SlV w va (bvs v m)) :
    Calls Try.prog 63 #[va, .int .i64 by_, .int .i64 n] w (RetSl 3 (bvs (v * 2 ^ by_.toNat) n.toNat) w) := by
  obtain ⟨s, rfl⟩ := Int.eq_ofNat_of_zero_le hb0
  simp only [Int.toNat_natCast]
  obtain ⟨i0, hi, hz0, hz1, hz2⟩ := info_parts info_int
  go_enter Try.func63, Try.ntmps63
  go_wp2_with fail
  go_loopw [7, 8] (fun r i wr => ∃ k : Nat, k ≤ n.toNat ∧ i = .int .i64 k ∧ wr.ownsRow w.heap.size 3 1 r k (bvs (v * 2 ^ s) k) ∧ Below w.heap.size w wr) (fun _ i _ => (1000 - intOf i).toNat)
  case atStart => exact ⟨0, by omega, rfl, World.ownsRow_nil _ _ _ _, Below.refl _ _⟩
  case round =>
    obtain ⟨k, hk, rfl, hown, hb⟩ := hrel
    by_cases h1 : (k : Int) < n
    · have hat := atZ_shl v s k
      have HA := Lib.hid hat
      clear hat
      go_wp2_with fail
      refine (at_any va v m hv hm _ _ (hx.below hb)).mono ?_
      rw [HA.out]
      rintro e w' ⟨rfl, rfl⟩
      go_wp2_with (at_builtin; refine wpList_append_own _ rfl _ _ 25 rfl w.heap.size 3 i0 (.int .i64 0) 1 8 Try.underlying25 hi hz0 hz1 hz2 rfl (by decide) _ _ _ rfl (hown.alloc _) ⟨wr.heap.size, 0, none⟩ 1 1 [.int .i64 (bi (v * 2 ^ s) k)] rfl rfl ?c1 ?c2 ?c3 ?c4 ?c5 ?_)
      case c1 => exact cell_one_new _ _ _
      case c2 => intro u hu; simp at hu; subst hu; rfl
      case c3 => unfold maxLen; omega
      case c4 => omega
      case c5 => have := hb.size; simp; omega
      intro v' w1 hown' hgrow _
      have hB : Below w.heap.size w w1 := (hb.alloc hb.size _).grown hgrow (by have := hb.size; simp; omega) (fun q hq => (hown.lt q hq).1)
      rw [← bvs_snoc] at hown'
      clear hgrow hown
      go_wp2_with fail
      go_roundw
      case rel => exact ⟨k + 1, by omega, by go_num, hown', hB⟩
      case measure => simp [intOf]; omega
    · go_wp2_with fail
      go_ret
      exact ⟨_, rfl, by rw [bvs_length, show n.toNat = k by omega]; exact hown, hb⟩
end Go.Proofs.Ytodflmngbkiemaa
