/- Chapter 43: what is wrong with weights, the reference's comparison of tables, the weights told of a table. No condition but on lengths. -/
import Derived.Test.YtodflmngbkiemaaW43k
import Derived.Test.YtodflmngbkiemaaPlAlC
namespace Go.Proofs.Ytodflmngbkiemaa
open Go.RowKit
/-- whether one of the first weights is not 0 -/
def anyP (ws : List (BitVec 64)) : Nat → Bool
  | 0 => false
  | k + 1 => anyP ws k || decide (0 < ui (ws.getD k 0#64))
/-- the number of what is wrong with weights -/
def errW (ws : List (BitVec 64)) : Int :=
  if ws.length < 1 ∨ 256 < ws.length then 1
  else if ∃ i, ∃ h : i < ws.length, 4294967296 < ws[i].toNat then 9
  else if anyP ws ws.length = false then 8
  else 0
theorem sumN_pos (f : Nat → Nat) (n : Nat) : 0 < sumN n f ↔ ∃ i, i < n ∧ 0 < f i := by
  constructor
  · intro h
    obtain ⟨c, h1, h2, h3⟩ := sumN_place f n 0 h
    exact ⟨c, h1, by omega⟩
  · rintro ⟨i, hi, hf⟩
    have h1 := sumN_mono f (show i + 1 ≤ n from hi)
    rw [sumN] at h1
    omega
theorem anyP_iff (ws : List (BitVec 64)) (n : Nat) : anyP ws n = true ↔ ∃ i, i < n ∧ 0 < (ws.getD i 0#64).toNat := by
  induction n with
  | zero => simp [anyP]
  | succ n ih =>
    rw [anyP, Bool.or_eq_true, ih, decide_eq_true_eq, ui_toNat]
    constructor
    · rintro (⟨i, hi, h⟩ | h)
      · exact ⟨i, by omega, h⟩
      · exact ⟨n, by omega, by omega⟩
    · rintro ⟨i, hi, h⟩
      by_cases e : i = n
      · subst e; exact .inr (by omega)
      · exact .inl ⟨i, by omega, h⟩
theorem tS_zero {ws : List (BitVec 64)} (h : OkW ws) : tS ws ws.length = 0#64 ↔ anyP ws ws.length = false := by
  have h1 := (tS_nat h ws.length (Nat.le_refl _)).1
  have h2 := sumN_pos (fun i => (ws.getD i 0#64).toNat) ws.length
  have h3 := anyP_iff ws ws.length
  rw [← h1] at h2
  constructor
  · intro e
    rw [e] at h2
    rcases ha : anyP ws ws.length with _ | _
    · rfl
    · have := h2.2 (h3.1 ha); simp at this
  · intro e
    apply BitVec.eq_of_toNat_eq
    rcases Nat.eq_zero_or_pos (tS ws ws.length).toNat with e2 | e2
    · exact e2
    · have := h3.2 (h2.1 e2); rw [e] at this; cases this
theorem errW_len {ws : List (BitVec 64)} (h : ws.length < 1 ∨ 256 < ws.length) : errW ws = 1 := by unfold errW; rw [if_pos h]
theorem errW_over {ws : List (BitVec 64)} (h : ¬ (ws.length < 1 ∨ 256 < ws.length)) (j : Nat) (hj : j < ws.length) (h2 : 4294967296 < ws[j].toNat) : errW ws = 9 := by
  unfold errW; rw [if_neg h, if_pos ⟨j, hj, h2⟩]
theorem okW_of {ws : List (BitVec 64)} (h : ¬ (ws.length < 1 ∨ 256 < ws.length)) (h2 : ∀ i, (hi : i < ws.length) → ¬ 4294967296 < ws[i].toNat) : OkW ws :=
  ⟨by omega, by omega, fun i hi => by rw [getD_at _ _ _ hi]; have := h2 i hi; omega⟩
theorem errW_rest {ws : List (BitVec 64)} (h : ¬ (ws.length < 1 ∨ 256 < ws.length)) (h2 : ∀ i, (hi : i < ws.length) → ¬ 4294967296 < ws[i].toNat) : errW ws = if anyP ws ws.length = false then 8 else 0 := by
  unfold errW; rw [if_neg h, if_neg (by rintro ⟨i, hi, x⟩; exact h2 i hi x)]
theorem errW_ok {ws : List (BitVec 64)} (h : errW ws = 0) : OkW ws ∧ tS ws ws.length ≠ 0#64 := by
  by_cases h1 : ws.length < 1 ∨ 256 < ws.length
  · rw [errW_len h1] at h; cases h
  · by_cases h2 : ∃ i, ∃ hi : i < ws.length, 4294967296 < ws[i].toNat
    · obtain ⟨i, hi, h2⟩ := h2
      rw [errW_over h1 i hi h2] at h; cases h
    · have h2' : ∀ i, (hi : i < ws.length) → ¬ 4294967296 < ws[i].toNat := fun i hi x => h2 ⟨i, hi, x⟩
      have hok := okW_of h1 h2'
      rw [errW_rest h1 h2'] at h
      refine ⟨hok, fun e => ?_⟩
      rw [if_pos ((tS_zero hok).1 e)] at h
      cases h
theorem errW_of_ok {ws : List (BitVec 64)} (hok : OkW ws) (h0 : tS ws ws.length ≠ 0#64) : errW ws = 0 := by
  have := hok.n1
  have := hok.n2
  rw [errW_rest (by omega) (fun i hi => by have := hok.hw i hi; rw [getD_at _ _ _ hi] at this; omega), if_neg (fun e => h0 ((tS_zero hok).2 e))]
theorem rcheck_any (ws : List (BitVec 64)) (v : Value) (w : World) (hv : SlV w v (vals ws)) (hl : ws.length ≤ 9223372036854775807) :
    Calls Try.prog 15 #[v] w fun e w' => e = .returned (.int .i64 (errW ws)) ∧ w = w' := by
  by_cases hf : ws.length < 1 ∨ 256 < ws.length
  · rw [errW_len hf]
    obtain ⟨ao, cap, rfl⟩ := slV_len hv
    rw [vals_length] at *
    clear hv
    by_cases h1 : (ws.length : Int) < 1
    · clear hf
      go_enter Try.func15, Try.ntmps15
      go_wp2_with fail
      go_ret
      exact ⟨rfl, rfl⟩
    · have h2 : (256 : Int) < (ws.length : Int) := by omega
      clear hf
      go_enter Try.func15, Try.ntmps15
      go_wp2_with fail
      go_ret
      exact ⟨rfl, rfl⟩
  · obtain ⟨b, o, cap, rfl, hc⟩ := slV_pos hv (by rw [vals_length]; omega)
    have h1 : ¬ (ws.length : Int) < 1 := by omega
    have h2 : ¬ (256 : Int) < (ws.length : Int) := by omega
    rw [vals_length] at *
    have HC := Lib.hid hc
    rcases first_or (fun x => decide (4294967296 < x.toNat)) ws with hno | ⟨j, hj, hj1, hno⟩
    · rw [errW_rest hf (fun i hi => by simpa using hno i hi)]
      have HNO := Lib.hid hno
      clear hv hc hno hf
      rcases hp : anyP ws ws.length with _ | _
      · have HP := Lib.hid hp
        rw [if_pos rfl]
        clear hp
        go_enter Try.func15, Try.ntmps15
        go_wp2_with fail
        go_loop [3, 16] (fun s i => ∃ k : Nat, k ≤ ws.length ∧ i = .int .i64 k ∧ s = .bool (anyP ws k)) (fun _ i => ws.length - (intOf i).toNat)
        case atStart => exact ⟨0, by omega, rfl, rfl⟩
        case round =>
          obtain ⟨k, hk, rfl, rfl⟩ := hrel
          by_cases hlt : k < ws.length
          · have hlt' : (k : Int) < (ws.length : Int) := by omega
            have hk' : (0 : Int) ≤ (k : Int) := by omega
            have c1 := HC.out k _ (vals_get ws k hlt)
            have hx : ¬ 4294967296 < ui (ws[k]'hlt) := by
              have := HNO.out k hlt
              rw [ui_toNat]
              have : ¬ 4294967296 < (ws[k]'hlt).toNat := by simpa using this
              omega
            have hs : anyP ws (k + 1) = (anyP ws k || decide (0 < ui (ws[k]'hlt))) := by rw [anyP, getD_at ws k _ hlt]
            generalize ws[k]'hlt = x at *
            have HS := Lib.hid hs
            clear hs
            rcases hp : anyP ws k with _ | _
            · rw [hp] at HS
              by_cases hx0 : 0 < ui x
              · go_wp2_with fail
                go_round
                case rel => exact ⟨k + 1, by omega, by go_num, by rw [HS.out]; simp [hx0]⟩
                case measure => simp [intOf]; omega
              · go_wp2_with fail
                go_round
                case rel => exact ⟨k + 1, by omega, by go_num, by rw [HS.out]; simp [hx0]⟩
                case measure => simp [intOf]; omega
            · rw [hp] at HS
              go_wp2_with fail
              go_round
              case rel => exact ⟨k + 1, by omega, by go_num, by rw [HS.out]; rfl⟩
              case measure => simp [intOf]; omega
          · have hk2 : k = ws.length := by omega
            subst hk2
            clear hlt
            rw [HP.out]
            go_wp2_with fail
            go_ret
            exact ⟨rfl, rfl⟩
      · have HP := Lib.hid hp
        rw [if_neg (by decide)]
        clear hp
        go_enter Try.func15, Try.ntmps15
        go_wp2_with fail
        go_loop [3, 16] (fun s i => ∃ k : Nat, k ≤ ws.length ∧ i = .int .i64 k ∧ s = .bool (anyP ws k)) (fun _ i => ws.length - (intOf i).toNat)
        case atStart => exact ⟨0, by omega, rfl, rfl⟩
        case round =>
          obtain ⟨k, hk, rfl, rfl⟩ := hrel
          by_cases hlt : k < ws.length
          · have hlt' : (k : Int) < (ws.length : Int) := by omega
            have hk' : (0 : Int) ≤ (k : Int) := by omega
            have c1 := HC.out k _ (vals_get ws k hlt)
            have hx : ¬ 4294967296 < ui (ws[k]'hlt) := by
              have := HNO.out k hlt
              rw [ui_toNat]
              have : ¬ 4294967296 < (ws[k]'hlt).toNat := by simpa using this
              omega
            have hs : anyP ws (k + 1) = (anyP ws k || decide (0 < ui (ws[k]'hlt))) := by rw [anyP, getD_at ws k _ hlt]
            generalize ws[k]'hlt = x at *
            have HS := Lib.hid hs
            clear hs
            rcases hp : anyP ws k with _ | _
            · rw [hp] at HS
              by_cases hx0 : 0 < ui x
              · go_wp2_with fail
                go_round
                case rel => exact ⟨k + 1, by omega, by go_num, by rw [HS.out]; simp [hx0]⟩
                case measure => simp [intOf]; omega
              · go_wp2_with fail
                go_round
                case rel => exact ⟨k + 1, by omega, by go_num, by rw [HS.out]; simp [hx0]⟩
                case measure => simp [intOf]; omega
            · rw [hp] at HS
              go_wp2_with fail
              go_round
              case rel => exact ⟨k + 1, by omega, by go_num, by rw [HS.out]; rfl⟩
              case measure => simp [intOf]; omega
          · have hk2 : k = ws.length := by omega
            subst hk2
            clear hlt
            rw [HP.out]
            go_wp2_with fail
            go_ret
            exact ⟨rfl, rfl⟩
    · rw [errW_over hf j hj (by simpa using hj1)]
      have HNO := Lib.hid hno
      have HJ := Lib.hid hj1
      clear hv hc hno hf hj1
      go_enter Try.func15, Try.ntmps15
      go_wp2_with fail
      go_loop [3, 16] (fun s i => ∃ k : Nat, k ≤ j ∧ i = .int .i64 k ∧ ∃ p, s = .bool p) (fun _ i => ws.length - (intOf i).toNat)
      case atStart => exact ⟨0, by omega, rfl, _, rfl⟩
      case round =>
        obtain ⟨k, hk, rfl, p, rfl⟩ := hrel
        have hlt' : (k : Int) < (ws.length : Int) := by omega
        have hk' : (0 : Int) ≤ (k : Int) := by omega
        have c1 := HC.out k _ (vals_get ws k (by omega))
        by_cases hlt : k < j
        · have hx : ¬ 4294967296 < ui (ws[k]'(by omega)) := by
            have := HNO.out k hlt
            rw [ui_toNat]
            have : ¬ 4294967296 < (ws[k]'(by omega)).toNat := by simpa using this
            omega
          cases p with
          | true =>
            go_wp2_with fail
            go_round
            case rel => exact ⟨k + 1, by omega, by go_num, _, rfl⟩
            case measure => simp [intOf]; omega
          | false =>
            by_cases hx0 : 0 < ui (ws[k]'(by omega))
            · go_wp2_with fail
              go_round
              case rel => exact ⟨k + 1, by omega, by go_num, _, rfl⟩
              case measure => simp [intOf]; omega
            · go_wp2_with fail
              go_round
              case rel => exact ⟨k + 1, by omega, by go_num, _, rfl⟩
              case measure => simp [intOf]; omega
        · have hk2 : k = j := by omega
          subst hk2
          have hx : 4294967296 < ui (ws[k]'hj) := by
            have := HJ.out
            rw [ui_toNat]
            have : 4294967296 < (ws[k]'hj).toNat := by simpa using this
            omega
          go_wp2_with fail
          go_ret
          exact ⟨rfl, rfl⟩
/-- no table -/
def NoTab (w0 : World) (q : Int) (e : Ending) (w' : World) : Prop := e = .returned (.tuple #[.agg #[.int .u64 0, .slice none 0 0, .slice none 0 0], .int .i64 q]) ∧ Below w0.heap.size w0 w'
theorem build_arg (ws : List (BitVec 64)) (v : Value) (w : World) (hv : SlV w v (vals ws)) (hl : ws.length ≤ 9223372036854775807) (hf : ws.length < 1 ∨ 256 < ws.length) :
    Calls Try.prog 14 #[v] w (NoTab w 1) := by
  obtain ⟨ao, cap, rfl⟩ := slV_len hv
  rw [vals_length]
  have hu : ui (BitVec.ofNat 64 ws.length) = (ws.length : Int) := by
    rw [ui_toNat, BitVec.toNat_ofNat, Nat.mod_eq_of_lt (by omega)]
  clear hv
  by_cases h1 : ws.length < 1
  · have hn1 : ui (BitVec.ofNat 64 ws.length) < 1 := by rw [hu]; omega
    clear hf hu h1
    go_enter Try.func14, Try.ntmps14
    go_wp2_with fail
    go_step3
    go_wp2_with fail
    refine bodyPost_ret (v := .tuple #[.agg #[.int .u64 0, .slice none 0 0, .slice none 0 0], .int .i64 1]) (by simp [results, Try.results14, go_sem]) rfl ?_
    exact ⟨rfl, below_new _ _⟩
  · have hn1 : ¬ ui (BitVec.ofNat 64 ws.length) < 1 := by rw [hu]; omega
    have hn2 : 256 < ui (BitVec.ofNat 64 ws.length) := by rw [hu]; omega
    clear hf hu h1
    go_enter Try.func14, Try.ntmps14
    go_wp2_with fail
    go_step3
    go_wp2_with fail
    refine bodyPost_ret (v := .tuple #[.agg #[.int .u64 0, .slice none 0 0, .slice none 0 0], .int .i64 1]) (by simp [results, Try.results14, go_sem]) rfl ?_
    exact ⟨rfl, below_new _ _⟩
set_option maxHeartbeats 2000000 in
theorem build_over (ws : List (BitVec 64)) (b0 o0 cap : Nat) (w : World) (hc : SlC w b0 o0 (vals ws)) (hn0 : 1 ≤ ws.length) (hn' : ws.length ≤ 256) (j : Nat) (hj : j < ws.length) (hj1 : decide (4294967296 < ws[j].toNat) = true) (hno : ∀ i, (hi : i < j) → decide (4294967296 < (ws[i]'(by omega)).toNat) = false) :
    Calls Try.prog 14 #[.slice (some ⟨b0, o0, none⟩) ws.length cap] w (NoTab w 9) := by
  have HNO := Lib.hid hno
  have HJ := Lib.hid hj1
  clear hno hj1
  have hn1 : ¬ ui (BitVec.ofNat 64 ws.length) < 1 := by rw [ui_len _ hn']; have := hn0; omega
  have hn2 : ¬ 256 < ui (BitVec.ofNat 64 ws.length) := by rw [ui_len _ hn']; have := hn'; omega
  have m1 := mk_u64 ws.length hn'
  have m2 := mk_int ws.length hn'
  have hlt0 := hc.lt (by rw [vals_length]; exact hn0)
  go_enter Try.func14, Try.ntmps14
  go_wp2_with fail
  go_step3
  go_wp2_with fail
  go_cut [5] (fun s5 wx => ∃ B5 bb ba, s5 = .pointer (some ⟨B5, 0, none⟩) ∧ M4 w wx w.heap.size B5 bb ba b0 o0 ws ws.length)
  case first =>
    go_region
    all_goals clear m1 m2
    all_goals go_step
    all_goals (rename_i hJ hK; refine hK _ _ (Met.intro (hJ _ _ ?_)); (repeat apply Exists.intro); refine ⟨?_, rfl⟩)
    all_goals refine ⟨_, _, _, rfl, M4.mk (bel4 _ _ _ _ _) (blk4_0 _ _ _ _ _ _) (by first | exact blk4_1 _ _ _ _ _ _ | exact blk4_2 _ _ _ _ _ _ | exact blk4_3 _ _ _ _ _ _) (by first | exact blk4_1 _ _ _ _ _ _ | exact blk4_2 _ _ _ _ _ _ | exact blk4_3 _ _ _ _ _ _) (by first | exact blk4_1 _ _ _ _ _ _ | exact blk4_2 _ _ _ _ _ _ | exact blk4_3 _ _ _ _ _ _) (Nat.le_refl _) (by omega) (by omega) (by omega) (by omega) (hc.below (bel4 _ _ _ _ _)) hlt0⟩
  case rest =>
    obtain ⟨B5, bb, ba, rfl, m4⟩ := hcut
    obtain ⟨hbm, hbd⟩ := m4.toBM
    have HM := Lib.hid hbm
    have HD := Lib.hid hbd
    clear m4 hbm hbd
    go_wp2_with fail
    go_loopw [33] (fun i wr => ∃ k : Nat, k ≤ j ∧ i = .int .i64 k ∧ L1 w.heap.size B5 (wc.heap.size + 1) bb ba wc.heap.size b0 o0 ws ws.length w wr k) (fun i _ => ws.length - (intOf i).toNat)
    case atStart => exact ⟨0, by omega, rfl, List.replicate ws.length 0, List.replicate ws.length 0#64, List.length_replicate, List.length_replicate, (fun i hi => absurd hi (by omega)), (fun i hi => absurd hi (by omega)), HM.out⟩
    case round =>
      obtain ⟨k, hk, rfl, al, hs, la, lh, pa, ph, hbm⟩ := hrel
      clear HM m1 m2
      have HB := Lib.hid hbm
      have HA := Lib.hid pa
      have HP := Lib.hid ph
      clear hbm pa ph
      obtain ⟨q1, q2, q3, q4, q5, q6, q7, q8, q9, q10, q11, q12, q13⟩ := HB.out.ne
      obtain ⟨d0, d1, d2⟩ := tab_cells HB.out.tv
      have v0 := HB.out.hv.cell 0
      by_cases hltj : k < j
      · have hlt : k < ws.length := by omega
        have hlt' : (k : Int) < (ws.length : Int) := by omega
        have hk' : (0 : Int) ≤ (k : Int) := by omega
        have c1 := HB.out.sc k _ (vals_get ws k hlt)
        rw [← getD_at ws k 0#64 hlt] at c1
        have hx : ¬ 4294967296 < ui (ws.getD k 0#64) := by 
          have h1 := HNO.out k hltj
          rw [getD_at ws k _ hlt, ui_toNat]
          have h2 : ¬ 4294967296 < (ws[k]'hlt).toNat := by simpa using h1
          omega
        obtain ⟨x, hx0⟩ : ∃ x, ws.getD k 0#64 = x := ⟨_, rfl⟩
        rw [hx0] at c1 hx
        have HX := Lib.hid hx0
        clear hx0
        have e1 := blk_vals HB.out.hr k (by omega)
        have e2 := blk_ints HB.out.ra k (by omega)
        have f0 := HB.out.tv.frozen 0
        have f1 := HB.out.hr.frozen k
        have f2 := HB.out.ra.frozen k
        have hb5 : ¬ b0 = B5 := by have := HD.out.h5; omega
        have hbh : ¬ b0 = wc.heap.size := by have := HD.out.hh; omega
        have hba : ¬ b0 = ba := by have := HD.out.ha; omega
        generalize wc.heap.size = bh at *
        have hn3 := hn'
        go_wp2_with fail
        go_roundw
        case rel => exact ⟨k + 1, by omega, by go_num, L1.step HD.out hlt HX.out la lh HA.out HP.out HB.out⟩
        case measure => simp [intOf]; omega
      · have hk2 : k = j := by omega
        subst hk2
        have hlt' : (k : Int) < (ws.length : Int) := by omega
        have hk' : (0 : Int) ≤ (k : Int) := by omega
        have c1 := HB.out.sc k _ (vals_get ws k hj)
        have hx : 4294967296 < ui (ws[k]'hj) := by
          have := HJ.out
          rw [ui_toNat]
          have : 4294967296 < (ws[k]'hj).toNat := by simpa using this
          omega
        have r0 := HB.out.rv.cell 0
        have r1 := HB.out.rv.cell 1
        have r2 := HB.out.rv.cell 2
        have f0 := HB.out.rv.frozen 0
        have f1 := HB.out.rv.frozen 1
        have f2 := HB.out.rv.frozen 2
        go_wp2_with fail
        refine bodyPost_ret (v := .tuple #[.agg #[.int .u64 0, .slice none 0 0, .slice none 0 0], .int .i64 9]) (by simp [results, Try.results14, go_sem, r0, r1, r2]) rfl ?_
        exact ⟨rfl, (HB.out.fin_mem HD.out).2.2⟩
set_option maxHeartbeats 2000000 in
theorem build_zero (ws : List (BitVec 64)) (b0 o0 cap : Nat) (w : World) (hc : SlC w b0 o0 (vals ws)) (hok : OkW ws) (h0 : tS ws ws.length = 0#64) :
    Calls Try.prog 14 #[.slice (some ⟨b0, o0, none⟩) ws.length cap] w (NoTab w 8) := by
  have H0 := Lib.hid h0
  clear h0
  have hn1 : ¬ ui (BitVec.ofNat 64 ws.length) < 1 := by rw [ui_len _ hok.n2]; have := hok.n1; omega
  have hn2 : ¬ 256 < ui (BitVec.ofNat 64 ws.length) := by rw [ui_len _ hok.n2]; have := hok.n2; omega
  have m1 := mk_u64 ws.length hok.n2
  have m2 := mk_int ws.length hok.n2
  have hlt0 := hc.lt (by rw [vals_length]; exact hok.n1)
  go_enter Try.func14, Try.ntmps14
  go_wp2_with fail
  go_step3
  go_wp2_with fail
  go_cut [5] (fun s5 wx => ∃ B5 bb ba, s5 = .pointer (some ⟨B5, 0, none⟩) ∧ M4 w wx w.heap.size B5 bb ba b0 o0 ws ws.length)
  case first =>
    go_region
    all_goals clear m1 m2
    all_goals go_step
    all_goals (rename_i hJ hK; refine hK _ _ (Met.intro (hJ _ _ ?_)); (repeat apply Exists.intro); refine ⟨?_, rfl⟩)
    all_goals refine ⟨_, _, _, rfl, M4.mk (bel4 _ _ _ _ _) (blk4_0 _ _ _ _ _ _) (by first | exact blk4_1 _ _ _ _ _ _ | exact blk4_2 _ _ _ _ _ _ | exact blk4_3 _ _ _ _ _ _) (by first | exact blk4_1 _ _ _ _ _ _ | exact blk4_2 _ _ _ _ _ _ | exact blk4_3 _ _ _ _ _ _) (by first | exact blk4_1 _ _ _ _ _ _ | exact blk4_2 _ _ _ _ _ _ | exact blk4_3 _ _ _ _ _ _) (Nat.le_refl _) (by omega) (by omega) (by omega) (by omega) (hc.below (bel4 _ _ _ _ _)) hlt0⟩
  case rest =>
    obtain ⟨B5, bb, ba, rfl, m4⟩ := hcut
    obtain ⟨hbm, hbd⟩ := m4.toBM
    have HM := Lib.hid hbm
    have HD := Lib.hid hbd
    clear m4 hbm hbd
    go_wp2_with fail
    go_loopw [33] (fun i wr => ∃ k : Nat, k ≤ ws.length ∧ i = .int .i64 k ∧ L1 w.heap.size B5 (wc.heap.size + 1) bb ba wc.heap.size b0 o0 ws ws.length w wr k) (fun i _ => ws.length - (intOf i).toNat)
    case atStart => exact ⟨0, by omega, rfl, List.replicate ws.length 0, List.replicate ws.length 0#64, List.length_replicate, List.length_replicate, (fun i hi => absurd hi (by omega)), (fun i hi => absurd hi (by omega)), HM.out⟩
    case round =>
      obtain ⟨k, hk, rfl, al, hs, la, lh, pa, ph, hbm⟩ := hrel
      clear HM m1 m2
      have HB := Lib.hid hbm
      have HA := Lib.hid pa
      have HP := Lib.hid ph
      clear hbm pa ph
      obtain ⟨q1, q2, q3, q4, q5, q6, q7, q8, q9, q10, q11, q12, q13⟩ := HB.out.ne
      obtain ⟨d0, d1, d2⟩ := tab_cells HB.out.tv
      have v0 := HB.out.hv.cell 0
      by_cases hlt : k < ws.length
      · have hlt' : (k : Int) < (ws.length : Int) := by omega
        have hk' : (0 : Int) ≤ (k : Int) := by omega
        have c1 := HB.out.sc k _ (vals_get ws k hlt)
        rw [← getD_at ws k 0#64 hlt] at c1
        have hx : ¬ 4294967296 < ui (ws.getD k 0#64) := by have := hok.hw k hlt; rw [ui_toNat]; omega
        obtain ⟨x, hx0⟩ : ∃ x, ws.getD k 0#64 = x := ⟨_, rfl⟩
        rw [hx0] at c1 hx
        have HX := Lib.hid hx0
        clear hx0
        have e1 := blk_vals HB.out.hr k (by omega)
        have e2 := blk_ints HB.out.ra k (by omega)
        have f0 := HB.out.tv.frozen 0
        have f1 := HB.out.hr.frozen k
        have f2 := HB.out.ra.frozen k
        have hb5 : ¬ b0 = B5 := by have := HD.out.h5; omega
        have hbh : ¬ b0 = wc.heap.size := by have := HD.out.hh; omega
        have hba : ¬ b0 = ba := by have := HD.out.ha; omega
        generalize wc.heap.size = bh at *
        have hn3 := hok.n2
        go_wp2_with fail
        go_roundw
        case rel => exact ⟨k + 1, by omega, by go_num, L1.step HD.out hlt HX.out la lh HA.out HP.out HB.out⟩
        case measure => simp [intOf]; omega
      · have hk2 : k = ws.length := by omega
        subst hk2
        clear hlt
        rw [H0.out] at d0
        have r0 := HB.out.rv.cell 0
        have r1 := HB.out.rv.cell 1
        have r2 := HB.out.rv.cell 2
        have f0 := HB.out.rv.frozen 0
        have f1 := HB.out.rv.frozen 1
        have f2 := HB.out.rv.frozen 2
        go_wp2_with fail
        refine bodyPost_ret (v := .tuple #[.agg #[.int .u64 0, .slice none 0 0, .slice none 0 0], .int .i64 8]) (by simp [results, Try.results14, go_sem, r0, r1, r2]) rfl ?_
        exact ⟨rfl, (HB.out.fin_mem HD.out).2.2⟩
theorem build_bad (ws : List (BitVec 64)) (v : Value) (w : World) (hv : SlV w v (vals ws)) (hl : ws.length ≤ 9223372036854775807) (hne : errW ws ≠ 0) : Calls Try.prog 14 #[v] w (NoTab w (errW ws)) := by
  by_cases hf : ws.length < 1 ∨ 256 < ws.length
  · rw [errW_len hf]
    exact build_arg ws v w hv hl hf
  · obtain ⟨b, o, cap, rfl, hc⟩ := slV_pos hv (by rw [vals_length]; omega)
    rw [vals_length]
    rcases first_or (fun x => decide (4294967296 < x.toNat)) ws with hno | ⟨j, hj, hj1, hno⟩
    · have h2 : ∀ i, (hi : i < ws.length) → ¬ 4294967296 < ws[i].toNat := fun i hi => by simpa using hno i hi
      have hok := okW_of hf h2
      by_cases h0 : tS ws ws.length = 0#64
      · rw [errW_rest hf h2, if_pos ((tS_zero hok).1 h0)]
        exact build_zero ws b o cap w hc hok h0
      · exact absurd (errW_of_ok hok h0) hne
    · rw [errW_over hf j hj (by simpa using hj1)]
      exact build_over ws b o cap w hc (by omega) (by omega) j hj hj1 hno
end Go.Proofs.Ytodflmngbkiemaa
