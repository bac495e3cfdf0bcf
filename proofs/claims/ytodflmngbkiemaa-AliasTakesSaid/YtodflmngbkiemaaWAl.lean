/- The walks of chapter 43's functions that look at a table, the program's and the reference's: what is wrong with it. No condition but on lengths. -/
import Derived.Test.YtodflmngbkiemaaPlAl
import Derived.WalkKit
import Derived.WalkSpells
import Derived.WalkLawsBesides
import Derived.LoopTactic
import Derived.Deep.QuietTactic
import Derived.BigQuiet
import Derived.Lib.Hide
namespace Go.Proofs.Ytodflmngbkiemaa
open Go.RowKit
theorem ui_toNat (x : BitVec 64) : ui x = (x.toNat : Int) := rfl
theorem below_new (w : World) (o : Obj) : Below w.heap.size w (w.alloc o) := (Below.refl _ _).alloc (Nat.le_refl _) _
theorem chk_any (T : BitVec 64) (bs : List (BitVec 64)) (ls : List Int) (vb va : Value) (w : World) (hb : SlV w vb (vals bs)) (ha : SlV w va (ints ls)) (hl : bs.length ≤ 9223372036854775807) :
    Calls Try.prog 18 #[.agg #[.int .u64 (ui T), vb, va]] w fun e w' => e = .returned (.int .i64 (errT T bs ls)) ∧ Below w.heap.size w w' := by
  by_cases hf : bs.length < 1 ∨ 256 < bs.length ∨ bs.length ≠ ls.length
  · rw [errT_form hf]
    obtain ⟨ao, cap, rfl⟩ := slV_len hb
    obtain ⟨ao2, cap2, rfl⟩ := slV_len ha
    rw [vals_length, ints_length] at *
    clear ha hb
    by_cases h1 : (bs.length : Int) < 1
    · clear hf
      go_enter Try.func18, Try.ntmps18
      go_wp2_with fail
      go_ret
      exact ⟨rfl, below_new _ _⟩
    · by_cases h2 : (256 : Int) < (bs.length : Int)
      · clear hf
        go_enter Try.func18, Try.ntmps18
        go_wp2_with fail
        go_ret
        exact ⟨rfl, below_new _ _⟩
      · have h3 : ((bs.length : Int) != (ls.length : Int)) = true := by rw [bne_iff_ne]; omega
        clear hf
        go_enter Try.func18, Try.ntmps18
        go_wp2_with fail
        go_ret
        exact ⟨rfl, below_new _ _⟩
  · obtain ⟨b, o, cap, rfl, hc⟩ := slV_pos hb (by rw [vals_length]; omega)
    obtain ⟨b2, o2, cap2, rfl, hc2⟩ := slV_pos ha (by rw [ints_length]; omega)
    have h1 : ¬ (bs.length : Int) < 1 := by omega
    have h2 : ¬ (256 : Int) < (bs.length : Int) := by omega
    have hn : ls.length = bs.length := by omega
    have h3 : ((bs.length : Int) != (bs.length : Int)) = false := by simp
    have hlt : b < w.heap.size := World.block_lt_of_cell? w _ (hc 0 _ (vals_get bs 0 (by omega)))
    have hlt2 : b2 < w.heap.size := World.block_lt_of_cell? w _ (hc2 0 _ (ints_get ls 0 (by omega)))
    rw [vals_length, ints_length] at *
    rw [hn]
    have HF := Lib.hid hf
    have HC := Lib.hid hc
    have HC2 := Lib.hid hc2
    clear hf hb ha hc hc2 hl
    by_cases h0 : T = 0#64
    · rw [errT_zero HF.out h0]
      have hz : (T == 0#64) = true := by simpa using h0
      subst h0
      go_enter Try.func18, Try.ntmps18
      go_wp2_with fail
      go_ret
      exact ⟨rfl, below_new _ _⟩
    · have hz : (T == 0#64) = false := by simpa using h0
      by_cases hg : 1099511627776 < T.toNat
      · rw [errT_over HF.out h0 hg]
        have hg' : (1099511627776 : Int) < ui T := by rw [ui_toNat]; omega
        clear hg h0
        go_enter Try.func18, Try.ntmps18
        go_wp2_with fail
        go_ret
        exact ⟨rfl, below_new _ _⟩
      · have hg' : ¬ (1099511627776 : Int) < ui T := by rw [ui_toNat]; omega
        rcases first_or (fun x => decide (T.toNat < x.toNat)) bs with hno | ⟨j, hj, hj1, hno⟩
        · rcases first_orI (fun x => decide (x < 0 ∨ (bs.length : Int) ≤ x)) ls with hnl | ⟨j, hj, hj1, hnl⟩
          · rw [(errT_fine HF.out h0 hg (fun i hi => by simpa using hno i hi) (fun i hi => by simpa using hnl i hi)).1]
            have HNO := Lib.hid hno
            have HNL := Lib.hid hnl
            clear hno hnl h0 hg
            go_enter Try.func18, Try.ntmps18
            go_wp2_with fail
            go_loop [36] (fun i => ∃ k : Nat, k ≤ bs.length ∧ i = .int .i64 k) (fun i => bs.length - (intOf i).toNat)
            case atStart => exact ⟨0, by omega, rfl⟩
            case round =>
              obtain ⟨k, hk, rfl⟩ := hrel
              by_cases hend : k = bs.length
              · subst hend
                have hend' : ¬ (bs.length : Int) < (bs.length : Int) := by omega
                go_wp2_with fail
                go_loop [48] (fun i => ∃ m : Nat, m ≤ bs.length ∧ i = .int .i64 m) (fun i => bs.length - (intOf i).toNat)
                case atStart => exact ⟨0, by omega, rfl⟩
                case round =>
                  obtain ⟨m, hm, rfl⟩ := hrel
                  by_cases hme : m = bs.length
                  · subst hme
                    have hend2 : ¬ (bs.length : Int) < (bs.length : Int) := by omega
                    clear HC HC2 HNO HNL HF
                    go_wp2_with fail
                    go_ret
                    exact ⟨rfl, below_new _ _⟩
                  · have hme' : m < bs.length := by omega
                    have c2 := HC2.out m _ (ints_get ls m (by omega))
                    have hx : ¬ (ls[m]'(by omega)) < 0 ∧ ¬ (bs.length : Int) ≤ ls[m]'(by omega) := by
                      have := HNL.out m (by omega)
                      simpa using this
                    obtain ⟨hx1, hx2⟩ := hx
                    have hlt' : (m : Int) < (bs.length : Int) := by omega
                    have hm' : (0 : Int) ≤ (m : Int) := by omega
                    clear HC HC2 HNO HNL HF
                    go_wp2_with fail
                    go_round
                    case rel => exact ⟨m + 1, by omega, by go_num⟩
                    case measure => simp [intOf]; omega
              · have hkj' : k < bs.length := by omega
                have c1 := HC.out k _ (vals_get bs k (by omega))
                have hx : ¬ ui T < ui (bs[k]'(by omega)) := by
                  have := HNO.out k (by omega)
                  rw [ui_lt_iff]
                  simpa using this
                have hlt' : (k : Int) < (bs.length : Int) := by omega
                have hk' : (0 : Int) ≤ (k : Int) := by omega
                clear HC HC2 HNO HF
                go_wp2_with fail
                go_round
                case rel => exact ⟨k + 1, by omega, by go_num⟩
                case measure => simp [intOf]; omega
          · rw [errT_alias HF.out h0 hg (fun i hi => by simpa using hno i hi) j hj (by simpa using hj1)]
            have HNO := Lib.hid hno
            have HNL := Lib.hid hnl
            have HJ := Lib.hid hj1
            clear hno hnl h0 hg hj1
            go_enter Try.func18, Try.ntmps18
            go_wp2_with fail
            go_loop [36] (fun i => ∃ k : Nat, k ≤ bs.length ∧ i = .int .i64 k) (fun i => bs.length - (intOf i).toNat)
            case atStart => exact ⟨0, by omega, rfl⟩
            case round =>
              obtain ⟨k, hk, rfl⟩ := hrel
              by_cases hend : k = bs.length
              · subst hend
                have hend' : ¬ (bs.length : Int) < (bs.length : Int) := by omega
                go_wp2_with fail
                go_loop [48] (fun i => ∃ m : Nat, m ≤ j ∧ i = .int .i64 m) (fun i => bs.length - (intOf i).toNat)
                case atStart => exact ⟨0, by omega, rfl⟩
                case round =>
                  obtain ⟨m, hm, rfl⟩ := hrel
                  by_cases hmj : m = j
                  · subst hmj
                    have c2 := HC2.out m _ (ints_get ls m hj)
                    have hx : ls[m] < 0 ∨ (bs.length : Int) ≤ ls[m] := by simpa using HJ.out
                    have hlt' : (m : Int) < (bs.length : Int) := by omega
                    have hm' : (0 : Int) ≤ (m : Int) := by omega
                    clear HC HC2 HNO HNL HF HJ
                    by_cases hx1 : ls[m] < 0
                    · clear hx
                      go_wp2_with fail
                      go_ret
                      exact ⟨rfl, below_new _ _⟩
                    · have hx2 : (bs.length : Int) ≤ ls[m] := by omega
                      clear hx
                      go_wp2_with fail
                      go_ret
                      exact ⟨rfl, below_new _ _⟩
                  · have hmj' : m < j := by omega
                    have c2 := HC2.out m _ (ints_get ls m (by omega))
                    have hx : ¬ (ls[m]'(by omega)) < 0 ∧ ¬ (bs.length : Int) ≤ ls[m]'(by omega) := by
                      have := HNL.out m (by omega)
                      simpa using this
                    obtain ⟨hx1, hx2⟩ := hx
                    have hlt' : (m : Int) < (bs.length : Int) := by omega
                    have hm' : (0 : Int) ≤ (m : Int) := by omega
                    clear HC HC2 HNO HNL HF
                    go_wp2_with fail
                    go_round
                    case rel => exact ⟨m + 1, by omega, by go_num⟩
                    case measure => simp [intOf]; omega
              · have hkj' : k < bs.length := by omega
                have c1 := HC.out k _ (vals_get bs k (by omega))
                have hx : ¬ ui T < ui (bs[k]'(by omega)) := by
                  have := HNO.out k (by omega)
                  rw [ui_lt_iff]
                  simpa using this
                have hlt' : (k : Int) < (bs.length : Int) := by omega
                have hk' : (0 : Int) ≤ (k : Int) := by omega
                clear HC HC2 HNO HF
                go_wp2_with fail
                go_round
                case rel => exact ⟨k + 1, by omega, by go_num⟩
                case measure => simp [intOf]; omega
        · rw [errT_below HF.out h0 hg j hj (by simpa using hj1)]
          have HNO := Lib.hid hno
          have HJ := Lib.hid hj1
          clear hno h0 hg hj1
          go_enter Try.func18, Try.ntmps18
          go_wp2_with fail
          go_loop [36] (fun i => ∃ k : Nat, k ≤ j ∧ i = .int .i64 k) (fun i => bs.length - (intOf i).toNat)
          case atStart => exact ⟨0, by omega, rfl⟩
          case round =>
            obtain ⟨k, hk, rfl⟩ := hrel
            by_cases hkj : k = j
            · subst hkj
              have c1 := HC.out k _ (vals_get bs k hj)
              have hx : ui T < ui bs[k] := by
                have := HJ.out
                rw [ui_lt_iff]
                simpa using this
              have hlt' : (k : Int) < (bs.length : Int) := by omega
              have hk' : (0 : Int) ≤ (k : Int) := by omega
              clear HC HC2 HNO HF HJ
              go_wp2_with fail
              go_ret
              exact ⟨rfl, below_new _ _⟩
            · have hkj' : k < j := by omega
              have c1 := HC.out k _ (vals_get bs k (by omega))
              have hx : ¬ ui T < ui (bs[k]'(by omega)) := by
                have := HNO.out k (by omega)
                rw [ui_lt_iff]
                simpa using this
              have hlt' : (k : Int) < (bs.length : Int) := by omega
              have hk' : (0 : Int) ≤ (k : Int) := by omega
              clear HC HC2 HNO HF
              go_wp2_with fail
              go_round
              case rel => exact ⟨k + 1, by omega, by go_num⟩
              case measure => simp [intOf]; omega
theorem rtab_any (T : BitVec 64) (bs : List (BitVec 64)) (ls : List Int) (vb va : Value) (w : World) (hb : SlV w vb (vals bs)) (ha : SlV w va (ints ls)) (hl : bs.length ≤ 9223372036854775807) :
    Calls Try.prog 19 #[.agg #[.int .u64 (ui T), vb, va]] w fun e w' => e = .returned (.int .i64 (errT T bs ls)) ∧ Below w.heap.size w w' := by
  by_cases hf : bs.length < 1 ∨ 256 < bs.length ∨ bs.length ≠ ls.length
  · rw [errT_form hf]
    obtain ⟨ao, cap, rfl⟩ := slV_len hb
    obtain ⟨ao2, cap2, rfl⟩ := slV_len ha
    rw [vals_length, ints_length] at *
    clear ha hb
    by_cases h1 : (bs.length : Int) < 1
    · clear hf
      go_enter Try.func19, Try.ntmps19
      go_wp2_with fail
      go_ret
      exact ⟨rfl, below_new _ _⟩
    · by_cases h2 : (256 : Int) < (bs.length : Int)
      · clear hf
        go_enter Try.func19, Try.ntmps19
        go_wp2_with fail
        go_ret
        exact ⟨rfl, below_new _ _⟩
      · have h3 : ((bs.length : Int) != (ls.length : Int)) = true := by rw [bne_iff_ne]; omega
        clear hf
        go_enter Try.func19, Try.ntmps19
        go_wp2_with fail
        go_ret
        exact ⟨rfl, below_new _ _⟩
  · obtain ⟨b, o, cap, rfl, hc⟩ := slV_pos hb (by rw [vals_length]; omega)
    obtain ⟨b2, o2, cap2, rfl, hc2⟩ := slV_pos ha (by rw [ints_length]; omega)
    have h1 : ¬ (bs.length : Int) < 1 := by omega
    have h2 : ¬ (256 : Int) < (bs.length : Int) := by omega
    have hn : ls.length = bs.length := by omega
    have h3 : ((bs.length : Int) != (bs.length : Int)) = false := by simp
    have hlt : b < w.heap.size := World.block_lt_of_cell? w _ (hc 0 _ (vals_get bs 0 (by omega)))
    have hlt2 : b2 < w.heap.size := World.block_lt_of_cell? w _ (hc2 0 _ (ints_get ls 0 (by omega)))
    rw [vals_length, ints_length] at *
    rw [hn]
    have HF := Lib.hid hf
    have HC := Lib.hid hc
    have HC2 := Lib.hid hc2
    clear hf hb ha hc hc2 hl
    by_cases h0 : T = 0#64
    · rw [errT_zero HF.out h0]
      have hz : (T == 0#64) = true := by simpa using h0
      subst h0
      go_enter Try.func19, Try.ntmps19
      go_wp2_with fail
      go_ret
      exact ⟨rfl, below_new _ _⟩
    · have hz : (T == 0#64) = false := by simpa using h0
      by_cases hg : 1099511627776 < T.toNat
      · rw [errT_over HF.out h0 hg]
        have hg' : (1099511627776 : Int) < ui T := by rw [ui_toNat]; omega
        clear hg h0
        go_enter Try.func19, Try.ntmps19
        go_wp2_with fail
        go_ret
        exact ⟨rfl, below_new _ _⟩
      · have hg' : ¬ (1099511627776 : Int) < ui T := by rw [ui_toNat]; omega
        rcases first_or (fun x => decide (T.toNat < x.toNat)) bs with hno | ⟨j, hj, hj1, hno⟩
        · rcases first_orI (fun x => decide (x < 0 ∨ (bs.length : Int) ≤ x)) ls with hnl | ⟨j, hj, hj1, hnl⟩
          · rw [(errT_fine HF.out h0 hg (fun i hi => by simpa using hno i hi) (fun i hi => by simpa using hnl i hi)).1]
            have HNO := Lib.hid hno
            have HNL := Lib.hid hnl
            clear hno hnl h0 hg
            go_enter Try.func19, Try.ntmps19
            go_wp2_with fail
            go_loop [33] (fun i => ∃ k : Nat, k ≤ bs.length ∧ i = .int .i64 k) (fun i => bs.length - (intOf i).toNat)
            case atStart => exact ⟨0, by omega, rfl⟩
            case round =>
              obtain ⟨k, hk, rfl⟩ := hrel
              by_cases hend : k = bs.length
              · subst hend
                have hend' : ¬ (bs.length : Int) < (bs.length : Int) := by omega
                go_wp2_with fail
                go_loop [45] (fun i => ∃ m : Nat, m ≤ bs.length ∧ i = .int .i64 m) (fun i => bs.length - (intOf i).toNat)
                case atStart => exact ⟨0, by omega, rfl⟩
                case round =>
                  obtain ⟨m, hm, rfl⟩ := hrel
                  by_cases hme : m = bs.length
                  · subst hme
                    have hend2 : ¬ (bs.length : Int) < (bs.length : Int) := by omega
                    clear HC HC2 HNO HNL HF
                    go_wp2_with fail
                    go_ret
                    exact ⟨rfl, below_new _ _⟩
                  · have hme' : m < bs.length := by omega
                    have c2 := HC2.out m _ (ints_get ls m (by omega))
                    have hx : ¬ (ls[m]'(by omega)) < 0 ∧ ¬ (bs.length : Int) ≤ ls[m]'(by omega) := by
                      have := HNL.out m (by omega)
                      simpa using this
                    obtain ⟨hx1, hx2⟩ := hx
                    have hlt' : (m : Int) < (bs.length : Int) := by omega
                    have hm' : (0 : Int) ≤ (m : Int) := by omega
                    clear HC HC2 HNO HNL HF
                    go_wp2_with fail
                    go_round
                    case rel => exact ⟨m + 1, by omega, by go_num⟩
                    case measure => simp [intOf]; omega
              · have hkj' : k < bs.length := by omega
                have c1 := HC.out k _ (vals_get bs k (by omega))
                have hx : ¬ ui T < ui (bs[k]'(by omega)) := by
                  have := HNO.out k (by omega)
                  rw [ui_lt_iff]
                  simpa using this
                have hlt' : (k : Int) < (bs.length : Int) := by omega
                have hk' : (0 : Int) ≤ (k : Int) := by omega
                clear HC HC2 HNO HF
                go_wp2_with fail
                go_round
                case rel => exact ⟨k + 1, by omega, by go_num⟩
                case measure => simp [intOf]; omega
          · rw [errT_alias HF.out h0 hg (fun i hi => by simpa using hno i hi) j hj (by simpa using hj1)]
            have HNO := Lib.hid hno
            have HNL := Lib.hid hnl
            have HJ := Lib.hid hj1
            clear hno hnl h0 hg hj1
            go_enter Try.func19, Try.ntmps19
            go_wp2_with fail
            go_loop [33] (fun i => ∃ k : Nat, k ≤ bs.length ∧ i = .int .i64 k) (fun i => bs.length - (intOf i).toNat)
            case atStart => exact ⟨0, by omega, rfl⟩
            case round =>
              obtain ⟨k, hk, rfl⟩ := hrel
              by_cases hend : k = bs.length
              · subst hend
                have hend' : ¬ (bs.length : Int) < (bs.length : Int) := by omega
                go_wp2_with fail
                go_loop [45] (fun i => ∃ m : Nat, m ≤ j ∧ i = .int .i64 m) (fun i => bs.length - (intOf i).toNat)
                case atStart => exact ⟨0, by omega, rfl⟩
                case round =>
                  obtain ⟨m, hm, rfl⟩ := hrel
                  by_cases hmj : m = j
                  · subst hmj
                    have c2 := HC2.out m _ (ints_get ls m hj)
                    have hx : ls[m] < 0 ∨ (bs.length : Int) ≤ ls[m] := by simpa using HJ.out
                    have hlt' : (m : Int) < (bs.length : Int) := by omega
                    have hm' : (0 : Int) ≤ (m : Int) := by omega
                    clear HC HC2 HNO HNL HF HJ
                    by_cases hx1 : ls[m] < 0
                    · clear hx
                      go_wp2_with fail
                      go_ret
                      exact ⟨rfl, below_new _ _⟩
                    · have hx2 : (bs.length : Int) ≤ ls[m] := by omega
                      clear hx
                      go_wp2_with fail
                      go_ret
                      exact ⟨rfl, below_new _ _⟩
                  · have hmj' : m < j := by omega
                    have c2 := HC2.out m _ (ints_get ls m (by omega))
                    have hx : ¬ (ls[m]'(by omega)) < 0 ∧ ¬ (bs.length : Int) ≤ ls[m]'(by omega) := by
                      have := HNL.out m (by omega)
                      simpa using this
                    obtain ⟨hx1, hx2⟩ := hx
                    have hlt' : (m : Int) < (bs.length : Int) := by omega
                    have hm' : (0 : Int) ≤ (m : Int) := by omega
                    clear HC HC2 HNO HNL HF
                    go_wp2_with fail
                    go_round
                    case rel => exact ⟨m + 1, by omega, by go_num⟩
                    case measure => simp [intOf]; omega
              · have hkj' : k < bs.length := by omega
                have c1 := HC.out k _ (vals_get bs k (by omega))
                have hx : ¬ ui T < ui (bs[k]'(by omega)) := by
                  have := HNO.out k (by omega)
                  rw [ui_lt_iff]
                  simpa using this
                have hlt' : (k : Int) < (bs.length : Int) := by omega
                have hk' : (0 : Int) ≤ (k : Int) := by omega
                clear HC HC2 HNO HF
                go_wp2_with fail
                go_round
                case rel => exact ⟨k + 1, by omega, by go_num⟩
                case measure => simp [intOf]; omega
        · rw [errT_below HF.out h0 hg j hj (by simpa using hj1)]
          have HNO := Lib.hid hno
          have HJ := Lib.hid hj1
          clear hno h0 hg hj1
          go_enter Try.func19, Try.ntmps19
          go_wp2_with fail
          go_loop [33] (fun i => ∃ k : Nat, k ≤ j ∧ i = .int .i64 k) (fun i => bs.length - (intOf i).toNat)
          case atStart => exact ⟨0, by omega, rfl⟩
          case round =>
            obtain ⟨k, hk, rfl⟩ := hrel
            by_cases hkj : k = j
            · subst hkj
              have c1 := HC.out k _ (vals_get bs k hj)
              have hx : ui T < ui bs[k] := by
                have := HJ.out
                rw [ui_lt_iff]
                simpa using this
              have hlt' : (k : Int) < (bs.length : Int) := by omega
              have hk' : (0 : Int) ≤ (k : Int) := by omega
              clear HC HC2 HNO HF HJ
              go_wp2_with fail
              go_ret
              exact ⟨rfl, below_new _ _⟩
            · have hkj' : k < j := by omega
              have c1 := HC.out k _ (vals_get bs k (by omega))
              have hx : ¬ ui T < ui (bs[k]'(by omega)) := by
                have := HNO.out k (by omega)
                rw [ui_lt_iff]
                simpa using this
              have hlt' : (k : Int) < (bs.length : Int) := by omega
              have hk' : (0 : Int) ≤ (k : Int) := by omega
              clear HC HC2 HNO HF
              go_wp2_with fail
              go_round
              case rel => exact ⟨k + 1, by omega, by go_num⟩
              case measure => simp [intOf]; omega
end Go.Proofs.Ytodflmngbkiemaa
