/- The walks of chapter 6's reference: bits, degrees, sums, what is raised. No condition but on lengths. -/
import Derived.Test.YthiahpkodnfdcaaDoorG6
import Derived.Maps.AppendAt
import Derived.Laws.AppendOwnNone
namespace Go.Proofs.YthiahpkodnfdcaaDoor
open Go.RowKit
theorem info_bool : (Tryd.prog.info? 4).map (fun i => (i.zero, i.size, i.bytes)) = some (some (.bool false), 1, 1) := by kernel_rfl
def bools (ds : List Bool) : List Value := ds.map fun d => .bool d
theorem bools_length (ds : List Bool) : (bools ds).length = ds.length := by simp [bools]
theorem bools_get (ds : List Bool) (i : Nat) (h : i < ds.length) : (bools ds)[i]? = some (.bool ds[i]) := by simp [bools, h]
theorem bools_app (xs : List Bool) (x : Bool) : bools (xs ++ [x]) = bools xs ++ [.bool x] := by simp [bools]
/-- a slice of bits, with its room -/
def BL (w : World) (v : Value) (N n : Nat) : Prop := SlV w v (bools (tb N n)) ∧ CapOk v ∧ ∀ m cap, v = .slice none m cap → cap = 0
theorem BL.below {w w' : World} {v : Value} {N n : Nat} (h : BL w v N n) (hb : Below w.heap.size w w') : BL w' v N n := ⟨h.1.below hb, h.2⟩
theorem BL.nil (w : World) (N : Nat) : BL w (.slice none 0 0) N 0 := ⟨SlV.nil w, ⟨none, 0, 0, rfl, Nat.le_refl _⟩, fun m cap h => by injection h with _ _ h; exact h.symm⟩
theorem BL.len {w : World} {v : Value} {N n : Nat} (h : BL w v N n) : ∃ ao cap, v = .slice ao n cap := by
  obtain ⟨ao, cap, e⟩ := slV_len h.1
  rw [bools_length, tb_length] at e
  exact ⟨ao, cap, e⟩
theorem BL.cells {w : World} {v : Value} {N n : Nat} (h : BL w v N n) (hn : 0 < n) : ∃ b o cap, v = .slice (some ⟨b, o, none⟩) n cap ∧ n ≤ cap ∧ ∀ i, i < n → w.cell? ⟨b, o + i, none⟩ = some (.bool (N.testBit i)) := by
  obtain ⟨h1, ⟨ao, m, cap, e, hm⟩, _⟩ := h
  rcases h1.cases with ⟨h0, ao', cap', rfl⟩ | ⟨b, o, cap', rfl, hp, hc⟩
  · have : (bools (tb N n)).length = 0 := by rw [h0]; rfl
    rw [bools_length, tb_length] at this; omega
  · rw [bools_length, tb_length] at *
    injection e with e1 e2 e3
    subst e2 e3
    refine ⟨b, o, cap', rfl, hm, fun i hi => hc i _ ?_⟩
    rw [bools_get _ _ (by rw [tb_length]; exact hi), tb_getElem]
theorem BL.own {w : World} {base : Nat} {e : TypeId} {v : Value} {N n : Nat} (h : w.ownsRow base e 1 v n (bools (tb N n))) : BL w v N n := by
  refine ⟨SlV.of_owns h, ?_⟩
  rcases h.2 with ⟨rfl, _⟩ | ⟨g, cap, cur, rfl, _, _, hn, _⟩
  · exact ⟨⟨_, _, _, rfl, Nat.le_refl _⟩, fun m cap h => by injection h with _ _ h; exact h.symm⟩
  · exact ⟨⟨_, _, _, rfl, hn⟩, fun m cap h => by injection h with h _ _; cases h⟩
/-- bits that are returned -/
def RB (w0 : World) (N n : Nat) (e : Ending) (w' : World) : Prop := ∃ v, e = .returned v ∧ BL w' v N n ∧ Below w0.heap.size w0 w'
theorem bitm (x : BitVec 64) (i : Nat) : (x >>> i) % 2#64 = if x.toNat.testBit i then 1#64 else 0#64 := by
  rw [← bit_word]
  apply BitVec.eq_of_toNat_eq
  rw [BitVec.toNat_umod, BitVec.toNat_and, show (2#64).toNat = 2 from rfl, show (1#64).toNat = 1 from rfl, Nat.and_one_is_mod]
theorem short_any (v : Value) (xs : List (BitVec 64)) (w : World) (h : SlK w v xs) (hl : xs.length ≤ 9223372036854775807) : Calls Tryd.prog 9 #[v] w fun e w' => e = .returned (.bool (decide (xs.length ≤ 6))) ∧ w = w' := by
  obtain ⟨ao, cap, rfl⟩ := slV_len h.1
  rw [vals_length]
  clear h
  by_cases h6 : xs.length ≤ 6
  · rw [decide_eq_true h6]
    have h6' : (xs.length : Int) ≤ 6 := by omega
    go_enter Tryd.func9, Tryd.ntmps9
    go_wp2_with fail
    go_ret
    exact ⟨rfl, rfl⟩
  · rw [decide_eq_false h6]
    have h6' : ¬ (xs.length : Int) ≤ 6 := by omega
    go_enter Tryd.func9, Tryd.ntmps9
    go_wp2_with fail
    go_ret
    exact ⟨rfl, rfl⟩
theorem of_any (v : Value) (xs : List (BitVec 64)) (w : World) (h : SlK w v xs) (hl : xs.length ≤ 1000) : Calls Tryd.prog 10 #[v] w (RB w (nv xs) (64 * xs.length)) := by
  obtain ⟨i1, hj, hy0, hy1, hy2⟩ := info_parts info_bool
  obtain ⟨ao, cap, rfl⟩ := slV_len h.1
  rw [vals_length] at *
  have HX := Lib.hid h
  clear h
  go_enter Tryd.func10, Tryd.ntmps10
  go_wp2_with fail
  go_loopw [3, 9] (fun v i wr => ∃ k : Nat, k ≤ xs.length ∧ i = .int .i64 k ∧ wr.ownsRow w.heap.size 4 1 v (64 * k) (bools (tb (nv xs) (64 * k))) ∧ Below w.heap.size w wr) (fun _ i _ => xs.length - (intOf i).toNat)
  case atStart => exact ⟨0, by omega, rfl, World.ownsRow_nil _ _ _ _, Below.refl _ _⟩
  case round =>
    obtain ⟨k, hk, rfl, hown, hb⟩ := hrel
    have HO := Lib.hid hown
    have HB := Lib.hid hb
    clear hown hb
    by_cases hlt : k < xs.length
    · have hlt' : (k : Int) < (xs.length : Int) := by omega
      have hk' : (0 : Int) ≤ (k : Int) := by omega
      rcases HX.out.cases with ⟨h0, _⟩ | ⟨_, b1, o1, cp1, e1, _, hc1⟩
      · rw [h0] at hlt; simp at hlt
      · injection e1 with e1 _ e3
        subst e1 e3
        have c1 := cells_below hc1 HB.out k hlt
        have hbits : ∀ i, i < 64 → (nv xs).testBit (64 * k + i) = xs[k].toNat.testBit i := by
          intro i hi
          rw [nv_bit, show (64 * k + i) / 64 = k by omega, show (64 * k + i) % 64 = i by omega, getD_at xs k _ hlt]
        generalize xs[k] = x at *
        have HBT := Lib.hid hbits
        clear hbits hc1
        go_wp2_with fail
        go_loopw [3, 6] (fun v i wr => ∃ j : Nat, j ≤ 64 ∧ i = .int .i64 j ∧ wr.ownsRow w.heap.size 4 1 v (64 * k + j) (bools (tb (nv xs) (64 * k + j))) ∧ Below w.heap.size w wr) (fun _ i _ => 64 - (intOf i).toNat)
        case atStart => exact ⟨0, by omega, rfl, HO.out, HB.out⟩
        case round =>
          obtain ⟨j, hj64, rfl, hown, hb⟩ := hrel
          clear HO HB c1
          have HO := Lib.hid hown
          have HB := Lib.hid hb
          clear hown hb
          by_cases hltj : j < 64
          · have hltj' : (j : Int) < 64 := by omega
            have hj' : (0 : Int) ≤ (j : Int) := by omega
            have huj := ui_nat j (by omega)
            have hbm := bitm x j
            rw [← HBT.out j hltj] at hbm
            rcases hbt : (nv xs).testBit (64 * k + j) with _ | _
            · rw [hbt, if_neg (by decide)] at hbm
              have HBV := Lib.hid hbt
              clear hbt
              go_wp2_with (at_builtin; refine wpList_append_own _ rfl _ _ 25 rfl w.heap.size 4 i1 (.bool false) 1 1 Tryd.underlying25 hj hy0 hy1 hy2 rfl (by decide) _ _ _ rfl (HO.out.alloc _) ⟨wr.heap.size, 0, none⟩ 1 1 [.bool false] rfl rfl ?a1 ?a2 ?a3 ?a4 ?a5 ?_)
              case a1 => exact cell_one_new _ _ _
              case a2 => intro u hu; simp at hu; subst hu; rfl
              case a3 => unfold maxLen; omega
              case a4 => omega
              case a5 => have := HB.out.size; simp; omega
              intro v1 w1 hown hgrow _
              have hbb := (HB.out.alloc HB.out.size (.cells #[.bool false] 4)).grown hgrow (by have := HB.out.size; rw [size_alloc]; omega) (fun q hq => (HO.out.lt q hq).1)
              rw [← bools_app] at hown
              have HB1 := Lib.hid hbb
              rw [← HBV.out, ← tb_succ] at hown
              have HO1 := Lib.hid hown
              clear hown hgrow hbb HO HB hbm huj
              go_wp2_with fail
              go_roundw
              case rel => exact ⟨j + 1, by omega, by go_num, HO1.out, HB1.out⟩
              case measure => simp [intOf]; omega
            · rw [hbt, if_pos rfl] at hbm
              have HBV := Lib.hid hbt
              clear hbt
              go_wp2_with (at_builtin; refine wpList_append_own _ rfl _ _ 25 rfl w.heap.size 4 i1 (.bool false) 1 1 Tryd.underlying25 hj hy0 hy1 hy2 rfl (by decide) _ _ _ rfl (HO.out.alloc _) ⟨wr.heap.size, 0, none⟩ 1 1 [.bool true] rfl rfl ?b1 ?b2 ?b3 ?b4 ?b5 ?_)
              case b1 => exact cell_one_new _ _ _
              case b2 => intro u hu; simp at hu; subst hu; rfl
              case b3 => unfold maxLen; omega
              case b4 => omega
              case b5 => have := HB.out.size; simp; omega
              intro v1 w1 hown hgrow _
              have hbb := (HB.out.alloc HB.out.size (.cells #[.bool true] 4)).grown hgrow (by have := HB.out.size; rw [size_alloc]; omega) (fun q hq => (HO.out.lt q hq).1)
              rw [← bools_app] at hown
              have HB1 := Lib.hid hbb
              rw [← HBV.out, ← tb_succ] at hown
              have HO1 := Lib.hid hown
              clear hown hgrow hbb HO HB hbm huj
              go_wp2_with fail
              go_roundw
              case rel => exact ⟨j + 1, by omega, by go_num, HO1.out, HB1.out⟩
              case measure => simp [intOf]; omega
          · obtain rfl : j = 64 := by omega
            clear hltj
            go_wp2_with fail
            go_roundw
            case rel => exact ⟨k + 1, by omega, by go_num, HO.out, HB.out⟩
            case measure => simp [intOf]; omega
    · obtain rfl : k = xs.length := by omega
      clear hlt
      go_wp2_with fail
      go_ret
      exact ⟨_, rfl, BL.own HO.out, HB.out⟩
theorem rdeg_any (v : Value) (N n : Nat) (w : World) (h : BL w v N n) (hn : n ≤ 100000) (hN : N < 2 ^ n) : Calls Tryd.prog 12 #[v] w fun e w' => e = .returned (.int .i64 ((sz N : Int) - 1)) ∧ w = w' := by
  have hs := sz_le.2 hN
  have hb : ∀ i, sz N ≤ i → N.testBit i = false := fun i hi => bit_big (lt_sz N) hi
  have ht : sz N ≠ 0 → N.testBit (sz N - 1) = true := fun h0 => top_bit (fun e => h0 (sz_eq_zero.2 e))
  generalize sz N = s at *
  obtain ⟨ao, cap, rfl⟩ := h.len
  have H := Lib.hid h
  have HB := Lib.hid hb
  have HT := Lib.hid ht
  clear h hb ht hN
  go_enter Tryd.func12, Tryd.ntmps12
  go_wp2_with fail
  go_loop [3] (fun i => ∃ k : Nat, s ≤ k ∧ k ≤ n ∧ i = .int .i64 ((k : Int) - 1)) (fun i => (intOf i + 1).toNat)
  case atStart => exact ⟨n, hs, Nat.le_refl _, rfl⟩
  case round =>
    obtain ⟨k, hk1, hk, rfl⟩ := hrel
    by_cases hk0 : k = 0
    · subst hk0
      obtain rfl : s = 0 := by omega
      go_wp2_with fail
      go_ret
      exact ⟨rfl, rfl⟩
    · obtain ⟨b, o, cp, e, _, hc⟩ := H.out.cells (by omega)
      injection e with e1 _ e3
      subst e1 e3
      have c1 := hc (k - 1) (by omega)
      have e2 : ((k : Int) - 1).toNat = k - 1 := by omega
      have h1 : (k : Int) - 1 < (n : Int) := by omega
      have h2 : (1 : Int) ≤ (k : Int) := by omega
      have h3 : (0 : Int) ≤ (k : Int) - 1 := by omega
      clear hc
      by_cases hlt : s < k
      · rw [HB.out (k - 1) (by omega)] at c1
        go_wp2_with fail
        go_round
        case rel => exact ⟨k - 1, by omega, by omega, by rw [show ((k - 1 : Nat) : Int) = (k : Int) - 1 by omega]⟩
        case measure => simp [intOf]; omega
      · obtain rfl : s = k := by omega
        rw [HT.out hk0] at c1
        clear hlt
        go_wp2_with fail
        go_ret
        exact ⟨rfl, rfl⟩
theorem at_any (v : Value) (N n : Nat) (w : World) (h : BL w v N n) (hn : n ≤ 100000) (hN : N < 2 ^ n) (i : Nat) : Calls Tryd.prog 34 #[v, .int .i64 (i : Int)] w fun e w' => e = .returned (.bool (N.testBit i)) ∧ w = w' := by
  obtain ⟨ao, cap, rfl⟩ := h.len
  have hd : decide ((0 : Int) ≤ (i : Int)) = true := by simp
  have hi0 : (0 : Int) ≤ (i : Int) := by omega
  by_cases hi : i < n
  · obtain ⟨b, o, cp, e, _, hc⟩ := h.cells (by omega)
    injection e with e1 _ e3
    subst e1 e3
    have c1 := hc i hi
    have hi' : (i : Int) < (n : Int) := by omega
    generalize N.testBit i = q at *
    clear h hc
    go_enter Tryd.func34, Tryd.ntmps34
    go_wp2_with fail
    go_ret
    exact ⟨rfl, rfl⟩
  · rw [bit_big hN (by omega)]
    have hi' : ¬ (i : Int) < (n : Int) := by omega
    clear h
    go_enter Tryd.func34, Tryd.ntmps34
    go_wp2_with fail
    go_ret
    exact ⟨rfl, rfl⟩
theorem bxor_ne (A B i : Nat) : (A ^^^ B).testBit i = (A.testBit i != B.testBit i) := by
  rw [Nat.testBit_xor]
theorem radd_any (v v2 : Value) (A n B m : Nat) (w : World) (h : BL w v A n) (h2 : BL w v2 B m) (hn : n ≤ 10000) (hm : m ≤ 10000) (hA : A < 2 ^ n) (hB : B < 2 ^ m) : Calls Tryd.prog 20 #[v, v2] w (RB w (A ^^^ B) (max n m)) := by
  obtain ⟨i1, hj, hy0, hy1, hy2⟩ := info_parts info_bool
  obtain ⟨ao, cap, rfl⟩ := h.len
  obtain ⟨ao2, cap2, rfl⟩ := h2.len
  have H := Lib.hid (And.intro h h2)
  have HP := Lib.hid (And.intro hA hB)
  clear h h2 hA hB
  go_enter Tryd.func20, Tryd.ntmps20
  go_wp2_with fail
  go_loopw [5, 6] (fun v i wr => ∃ k : Nat, k ≤ max n m ∧ i = .int .i64 k ∧ wr.ownsRow w.heap.size 4 1 v k (bools (tb (A ^^^ B) k)) ∧ Below w.heap.size w wr) (fun _ i _ => max n m - (intOf i).toNat)
  case atStart => exact ⟨0, by omega, rfl, World.ownsRow_nil _ _ _ _, Below.refl _ _⟩
  case round =>
    obtain ⟨k, hk, rfl, hown, hb⟩ := hrel
    have HO := Lib.hid hown
    have HB := Lib.hid hb
    clear hown hb
    have hx := bxor_ne A B k
    have HAB := Lib.hid hx
    clear hx
    by_cases hlt : k < n
    · have hlt' : (k : Int) < (n : Int) := by omega
      go_wp2_with fail
      refine (at_any _ A n wr (H.out.1.below HB.out) (by omega) HP.out.1 k).mono ?_
      rintro e w' ⟨rfl, rfl⟩
      go_wp2_with fail
      refine (at_any _ B m wr (H.out.2.below HB.out) (by omega) HP.out.2 k).mono ?_
      rintro e w' ⟨rfl, rfl⟩
      generalize A.testBit k = p at *
      generalize B.testBit k = q at *
      go_wp2_with (at_builtin; refine wpList_append_own _ rfl _ _ 25 rfl w.heap.size 4 i1 (.bool false) 1 1 Tryd.underlying25 hj hy0 hy1 hy2 rfl (by decide) _ _ _ rfl (HO.out.alloc _) ⟨wr.heap.size, 0, none⟩ 1 1 [.bool (p != q)] rfl rfl ?a1 ?a2 ?a3 ?a4 ?a5 ?_)
      case a1 => exact cell_one_new _ _ _
      case a2 => intro u hu; simp at hu; subst hu; rfl
      case a3 => unfold maxLen; omega
      case a4 => omega
      case a5 => have := HB.out.size; simp; omega
      intro v1 w1 hown hgrow _
      have hbb := (HB.out.alloc HB.out.size (.cells #[.bool (p != q)] 4)).grown hgrow (by have := HB.out.size; rw [size_alloc]; omega) (fun q hq => (HO.out.lt q hq).1)
      rw [← bools_app] at hown
      have HB1 := Lib.hid hbb
      rw [← HAB.out, ← tb_succ] at hown
      have HO1 := Lib.hid hown
      clear hown hgrow hbb HO HB
      go_wp2_with fail
      go_roundw
      case rel => exact ⟨k + 1, by omega, by go_num, HO1.out, HB1.out⟩
      case measure => simp [intOf]; omega
    · have hlt' : ¬ (k : Int) < (n : Int) := by omega
      by_cases hlt2 : k < m
      · have hlt2' : (k : Int) < (m : Int) := by omega
        go_wp2_with fail
        refine (at_any _ A n wr (H.out.1.below HB.out) (by omega) HP.out.1 k).mono ?_
        rintro e w' ⟨rfl, rfl⟩
        go_wp2_with fail
        refine (at_any _ B m wr (H.out.2.below HB.out) (by omega) HP.out.2 k).mono ?_
        rintro e w' ⟨rfl, rfl⟩
        generalize A.testBit k = p at *
        generalize B.testBit k = q at *
        go_wp2_with (at_builtin; refine wpList_append_own _ rfl _ _ 25 rfl w.heap.size 4 i1 (.bool false) 1 1 Tryd.underlying25 hj hy0 hy1 hy2 rfl (by decide) _ _ _ rfl (HO.out.alloc _) ⟨wr.heap.size, 0, none⟩ 1 1 [.bool (p != q)] rfl rfl ?b1 ?b2 ?b3 ?b4 ?b5 ?_)
        case b1 => exact cell_one_new _ _ _
        case b2 => intro u hu; simp at hu; subst hu; rfl
        case b3 => unfold maxLen; omega
        case b4 => omega
        case b5 => have := HB.out.size; simp; omega
        intro v1 w1 hown hgrow _
        have hbb := (HB.out.alloc HB.out.size (.cells #[.bool (p != q)] 4)).grown hgrow (by have := HB.out.size; rw [size_alloc]; omega) (fun q hq => (HO.out.lt q hq).1)
        rw [← bools_app] at hown
        have HB1 := Lib.hid hbb
        rw [← HAB.out, ← tb_succ] at hown
        have HO1 := Lib.hid hown
        clear hown hgrow hbb HO HB
        go_wp2_with fail
        go_roundw
        case rel => exact ⟨k + 1, by omega, by go_num, HO1.out, HB1.out⟩
        case measure => simp [intOf]; omega
      · have hlt2' : ¬ (k : Int) < (m : Int) := by omega
        obtain rfl : k = max n m := by omega
        clear hlt hlt2
        go_wp2_with fail
        go_ret
        exact ⟨_, rfl, BL.own HO.out, HB.out⟩
theorem tb_up (A k n : Nat) : tb (2 ^ k * A) (k + n) = tb 0 k ++ tb A n := by
  apply List.ext_getElem (by rw [List.length_append, tb_length, tb_length, tb_length])
  intro i h1 h2
  rw [tb_getElem]
  have hb := tb_low k A 0 i (Nat.two_pow_pos _)
  rw [Nat.add_zero] at hb
  rw [hb]
  by_cases hi : i < k
  · rw [if_pos hi, List.getElem_append_left (by rw [tb_length]; exact hi), tb_getElem]
  · rw [if_neg hi, List.getElem_append_right (by rw [tb_length]; omega), tb_getElem, tb_length]
theorem up_nil {w : World} {v : Value} (A k : Nat) (h : BL w v 0 k) : BL w v (2 ^ k * A) (k + 0) := by
  have e := tb_up A k 0
  have e0 : tb A 0 = [] := rfl
  rw [e0, List.append_nil] at e
  unfold BL
  rw [e]; exact h
theorem bools_app2 (xs ys : List Bool) : bools (xs ++ ys) = bools xs ++ bools ys := by simp [bools]
theorem bools_one (xs : List Bool) : ∀ u ∈ bools xs, u.oneCell' = true := by
  intro u hu
  obtain ⟨x, _, rfl⟩ := List.mem_map.1 hu
  rfl
theorem up_any (v : Value) (A n k : Nat) (w : World) (h : BL w v A n) (hn : n ≤ 10000) (hk : k ≤ 10000) : Calls Tryd.prog 30 #[v, .int .i64 (k : Int)] w (RB w (2 ^ k * A) (k + n)) := by
  obtain ⟨i1, hj, hy0, hy1, hy2⟩ := info_parts info_bool
  obtain ⟨ao, cap, rfl⟩ := h.len
  have H := Lib.hid h
  clear h
  go_enter Tryd.func30, Tryd.ntmps30
  go_wp2_with fail
  go_loopw [5, 6] (fun v i wr => ∃ j : Nat, j ≤ k ∧ i = .int .i64 j ∧ wr.ownsRow w.heap.size 4 1 v j (bools (tb 0 j)) ∧ Below w.heap.size w wr) (fun _ i _ => k - (intOf i).toNat)
  case atStart => exact ⟨0, by omega, rfl, World.ownsRow_nil _ _ _ _, Below.refl _ _⟩
  case round =>
    obtain ⟨j, hjk, rfl, hown, hb⟩ := hrel
    have HO := Lib.hid hown
    have HB := Lib.hid hb
    clear hown hb
    by_cases hlt : j < k
    · have hlt' : (j : Int) < (k : Int) := by omega
      go_wp2_with (at_builtin; refine wpList_append_own _ rfl _ _ 25 rfl w.heap.size 4 i1 (.bool false) 1 1 Tryd.underlying25 hj hy0 hy1 hy2 rfl (by decide) _ _ _ rfl (HO.out.alloc _) ⟨wr.heap.size, 0, none⟩ 1 1 [.bool false] rfl rfl ?a1 ?a2 ?a3 ?a4 ?a5 ?_)
      case a1 => exact cell_one_new _ _ _
      case a2 => intro u hu; simp at hu; subst hu; rfl
      case a3 => unfold maxLen; omega
      case a4 => omega
      case a5 => have := HB.out.size; simp; omega
      intro v1 w1 hown hgrow _
      have hbb := (HB.out.alloc HB.out.size (.cells #[.bool false] 4)).grown hgrow (by have := HB.out.size; rw [size_alloc]; omega) (fun q hq => (HO.out.lt q hq).1)
      rw [← bools_app] at hown
      have HB1 := Lib.hid hbb
      rw [show false = (0 : Nat).testBit j by simp, ← tb_succ] at hown
      have HO1 := Lib.hid hown
      clear hown hgrow hbb HO HB
      go_wp2_with fail
      go_roundw
      case rel => exact ⟨j + 1, by omega, by go_num, HO1.out, HB1.out⟩
      case measure => simp [intOf]; omega
    · obtain rfl : j = k := by omega
      clear hlt
      rcases Nat.eq_zero_or_pos n with h0 | h0
      · subst h0
        rcases ao with _ | ad
        · obtain rfl : cap = 0 := H.out.2.2 0 cap rfl
          go_wp2_with (at_builtin; refine wpList_append_own_none rfl _ _ 25 rfl w.heap.size 4 i1 1 Tryd.underlying25 hj _ _ _ rfl HO.out rfl ?_)
          go_wp2_with fail
          go_ret
          exact ⟨_, rfl, (by have h := BL.own HO.out; exact up_nil A j h), HB.out⟩
        · go_wp2_with (at_builtin; refine wpList_append_own _ rfl _ _ 25 rfl w.heap.size 4 i1 (.bool false) 1 1 Tryd.underlying25 hj hy0 hy1 hy2 rfl (by decide) _ _ _ rfl HO.out ad 0 _ (bools (tb A 0)) rfl ?b0 ?b1 ?b2 ?b3 ?b4 ?b5 ?_)
          case b0 => rfl
          case b1 => intro q u hu; cases hu
          case b2 => exact bools_one _
          case b3 => unfold maxLen; omega
          case b4 => omega
          case b5 => exact HB.out.size
          intro v1 w1 hown hgrow _
          have hbb := HB.out.grown hgrow HB.out.size (fun q hq => (HO.out.lt q hq).1)
          rw [← bools_app2, ← tb_up] at hown
          have HB1 := Lib.hid hbb
          have HO1 := Lib.hid hown
          clear hown hgrow hbb HO HB
          go_wp2_with fail
          go_ret
          exact ⟨_, rfl, BL.own HO1.out, HB1.out⟩
      · obtain ⟨b, o, cp, e, _, hc⟩ := (H.out.below HB.out).cells h0
        injection e with e1 _ e3
        subst e1 e3
        have HC := Lib.hid hc
        clear hc
        go_wp2_with (at_builtin; refine wpList_append_own _ rfl _ _ 25 rfl w.heap.size 4 i1 (.bool false) 1 1 Tryd.underlying25 hj hy0 hy1 hy2 rfl (by decide) _ _ _ rfl HO.out ⟨b, o, none⟩ n _ (bools (tb A n)) rfl ?c0 ?c1 ?c2 ?c3 ?c4 ?c5 ?_)
        case c0 => simp [bools_length, tb_length]
        case c1 => 
          intro q u hu
          have hq : q < n := by
            have := (List.getElem?_eq_some_iff.1 hu).1
            rwa [bools_length, tb_length] at this
          rw [bools_get _ _ (by rw [tb_length]; exact hq), tb_getElem] at hu
          injection hu with hu
          rw [← hu]
          exact HC.out q hq
        case c2 => exact bools_one _
        case c3 => unfold maxLen; omega
        case c4 => omega
        case c5 => exact HB.out.size
        intro v1 w1 hown hgrow _
        have hbb := HB.out.grown hgrow HB.out.size (fun q hq => (HO.out.lt q hq).1)
        rw [← bools_app2, ← tb_up] at hown
        have HB1 := Lib.hid hbb
        have HO1 := Lib.hid hown
        clear hown hgrow hbb HO HB
        go_wp2_with fail
        go_ret
        exact ⟨_, rfl, BL.own HO1.out, HB1.out⟩
end Go.Proofs.YthiahpkodnfdcaaDoor
