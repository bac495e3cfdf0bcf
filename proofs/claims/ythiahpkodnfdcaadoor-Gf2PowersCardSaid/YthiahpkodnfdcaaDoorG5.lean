/- The walk of chapter 6's division: quotient and rest. No condition but on lengths. -/
import Derived.Test.YthiahpkodnfdcaaDoorG4
import Derived.Test.YthiahpkodnfdcaaDoorPlG3
namespace Go.Proofs.YthiahpkodnfdcaaDoor
open Go.RowKit
/-- quotient and rest that are returned -/
def RQ (w0 : World) (qs rs : List (BitVec 64)) (is : Bool) (e : Ending) (w' : World) : Prop := ∃ v v2, e = .returned (.tuple #[v, v2, .bool is]) ∧ SlK w' v qs ∧ SlK w' v2 rs ∧ Below w0.heap.size w0 w'
theorem ofInt_pow (j : Nat) (h : j < 64) : BitVec.ofInt 64 ((2 : Int) ^ j) = 1#64 <<< j := by
  apply BitVec.eq_of_toNat_eq
  rw [one_shl j h, BitVec.toNat_ofInt]
  have : ((2 : Int) ^ j) = ((2 ^ j : Nat) : Int) := by simp
  rw [this]
  clear this
  have h2 : 2 ^ j < 2 ^ 64 := Nat.pow_lt_pow_right (by decide) h
  generalize 2 ^ j = p at *
  omega
/-- what stands in both -/
structure DL (w0 w : World) (g1 c1 g2 n : Nat) (rs qs : List (BitVec 64)) : Prop where
  bel : Below w0.heap.size w0 w
  own1 : w.ownsRow w0.heap.size 37 1 (.slice (some ⟨g1, 0, none⟩) n c1) n (vals rs)
  own2 : w.ownsRow w0.heap.size 37 1 (.slice (some ⟨g2, 0, none⟩) n n) n (vals qs)
  l1 : rs.length = n
  l2 : qs.length = n
  h1 : w0.heap.size ≤ g1
  h2 : w0.heap.size ≤ g2
  ne : g1 ≠ g2
section
variable {w0 w w1 : World} {g1 c1 g2 n : Nat} {rs qs : List (BitVec 64)}
theorem DL.next (h : DL w0 w g1 c1 g2 n rs qs) (hb : Below w.heap.size w w1) : DL w0 w1 g1 c1 g2 n rs qs :=
  ⟨h.bel.trans (hb.mono h.bel.size), owns_below h.own1 hb, owns_below h.own2 hb, h.l1, h.l2, h.h1, h.h2, h.ne⟩
theorem DL.drew (h : DL w0 w g1 c1 g2 n rs qs) : DL w0 w.drew g1 c1 g2 n rs qs := ⟨h.bel.drew, h.own1.drew, h.own2.drew, h.l1, h.l2, h.h1, h.h2, h.ne⟩
theorem DL.set1 (h : DL w0 w g1 c1 g2 n rs qs) (k : Nat) (x : BitVec 64) : DL w0 (w.setCell ⟨g1, k, none⟩ (.int .u64 (ui x))) g1 c1 g2 n (rs.set k x) qs :=
  ⟨h.bel.setCell (p := ⟨g1, k, none⟩) h.h1 _, own_set h.own1 k x, ownsRow_setCell_other h.own2 (a := ⟨g1, k, none⟩) (by simp [Value.ownBlock]; exact fun e => h.ne e.symm) _, by rw [List.length_set]; exact h.l1, h.l2, h.h1, h.h2, h.ne⟩
theorem DL.set2 (h : DL w0 w g1 c1 g2 n rs qs) (k : Nat) (x : BitVec 64) : DL w0 (w.setCell ⟨g2, k, none⟩ (.int .u64 (ui x))) g1 c1 g2 n rs (qs.set k x) :=
  ⟨h.bel.setCell (p := ⟨g2, k, none⟩) h.h2 _, ownsRow_setCell_other h.own1 (a := ⟨g2, k, none⟩) (by simp [Value.ownBlock]; exact h.ne) _, own_set h.own2 k x, h.l1, by rw [List.length_set]; exact h.l2, h.h1, h.h2, h.ne⟩
end
theorem both_zero (v v2 : Value) (ms : List (BitVec 64)) (w : World) (h2 : SlK w v2 ms) (hl2 : ms.length ≤ 100000) (hz : nv ms = 0) :
    Calls Tryd.prog 37 #[v, v2] w (RQ w [] [] false) := by
  have hk := deg_any v2 ms w h2 hl2
  rw [hz, sz_zero] at hk
  clear h2
  go_enter Tryd.func37, Tryd.ntmps37
  go_wp2_with fail
  go_step3
  go_wp2_with fail
  refine hk.mono ?_
  rintro e w' ⟨rfl, rfl⟩
  go_wp2_with fail
  go_ret3
  exact ⟨_, _, rfl, SlK.nil _, SlK.nil _, Below.refl _ _⟩
theorem both_nil (v v2 : Value) (ms : List (BitVec 64)) (w : World) (h : SlK w v []) (h2 : SlK w v2 ms) (hl2 : ms.length ≤ 100000) (hz : nv ms ≠ 0) :
    Calls Tryd.prog 37 #[v, v2] w (RQ w [] [] true) := by
  have hk := deg_any v2 ms w h2 hl2
  obtain ⟨s, hs⟩ : ∃ s, sz (nv ms) = s + 1 := ⟨sz (nv ms) - 1, by have : sz (nv ms) ≠ 0 := fun e => hz (sz_eq_zero.1 e); omega⟩
  have hlm := (@sz_le (nv ms) (64 * ms.length)).2 (nv_lt ms)
  rw [hs, show (((s + 1 : Nat) : Int) - 1) = (s : Int) by omega] at hk
  have hs64 : (s : Int) ≤ 6400000 := by omega
  have m1 := mk_row 0 (by omega) 0 rfl
  obtain ⟨ao, cap, rfl⟩ := slV_len h.1
  rw [vals_length, List.length_nil] at *
  have H := Lib.hid h
  clear h h2 hs hlm
  go_enter Tryd.func37, Tryd.ntmps37
  go_wp2_with fail
  go_step3
  go_wp2_with fail
  refine hk.mono ?_
  rintro e w' ⟨rfl, rfl⟩
  clear hk
  go_wp2_with fail
  refine (clone_w _ [] (by simp) _ H.out.1).mono ?_
  rintro e w1 ⟨v1, rfl, s1, _, b1⟩
  have H1 := Lib.hid (And.intro s1 b1)
  have H2 := Lib.hid (And.intro (s1.below (below_new w1 (.cells (madeCells #[.int .u64 0] 0) 37))) (b1.alloc b1.size (.cells (madeCells #[.int .u64 0] 0) 37)))
  clear s1 b1
  go_wp2_with fail
  go_step3
  go_wp2_with fail
  go_loopg [10] 0 (fun _ _ wr => Below w1.heap.size w1 wr ∧ SlK wr v1 [] ∧ Below w.heap.size w wr)
  case atStart => exact ⟨below_new _ _, H2.out.1, H2.out.2⟩
  case round =>
    obtain ⟨hb1, hs1, hb2⟩ := hrel
    have HR := Lib.hid (And.intro hs1 hb2)
    clear H2 H1 hb1 hs1 hb2
    have hk := deg_any v1 [] wr HR.out.1 (by simp)
    rw [nv_nil, sz_zero] at hk
    go_wp2_with fail
    refine hk.mono ?_
    rintro e w' ⟨rfl, rfl⟩
    clear hk
    go_wp2_with fail
    refine (trim_any _ [] _ (SlK.zero (some ⟨w1.heap.size, 0, none⟩) 0) (by simp)).mono ?_
    rintro e w3 ⟨v3, rfl, s3, _, b3⟩
    rw [nv_nil, cw_zero] at s3
    have H3 := Lib.hid (And.intro s3 (And.intro (HR.out.1.below b3) (HR.out.2.trans (b3.mono HR.out.2.size))))
    clear s3 b3 HR
    go_wp2_with fail
    refine (trim_any _ [] _ H3.out.2.1 (by simp)).mono ?_
    rintro e w4 ⟨v4, rfl, s4, _, b4⟩
    rw [nv_nil, cw_zero] at s4
    have H4 := Lib.hid (And.intro (H3.out.1.below b4) (And.intro s4 (H3.out.2.2.trans (b4.mono H3.out.2.2.size))))
    clear s4 b4 H3
    go_wp2_with fail
    go_ret3
    exact ⟨_, _, rfl, H4.out.1, H4.out.2.1, H4.out.2.2⟩
set_option maxHeartbeats 2000000 in
theorem both_some (v v2 : Value) (xs ms : List (BitVec 64)) (w : World) (h : SlK w v xs) (h2 : SlK w v2 ms) (hl : xs.length ≤ 40000) (hl2 : ms.length ≤ 40000) (hz : nv ms ≠ 0) (hp : 0 < xs.length) :
    Calls Tryd.prog 37 #[v, v2] w (RQ w (cw (dquo (nv xs) (nv ms))) (cw (drem (nv xs) (nv ms))) true) := by
  have hk := deg_any v2 ms w h2 (by omega)
  obtain ⟨s, hs⟩ : ∃ s, sz (nv ms) = s + 1 := ⟨sz (nv ms) - 1, by have : sz (nv ms) ≠ 0 := fun e => hz (sz_eq_zero.1 e); omega⟩
  obtain ⟨hD, hMD⟩ := nv_words ms hz
  rw [hs, show s + 1 - 1 = s by omega] at hD hMD
  rw [hs, show (((s + 1 : Nat) : Int) - 1) = (s : Int) by omega] at hk
  have hs0 : (0 : Int) ≤ (s : Int) := by omega
  obtain ⟨ao, cap, hv⟩ := slV_len h.1
  rw [vals_length] at hv
  subst hv
  have HX := Lib.hid h
  rcases h2.cases with ⟨rfl, _⟩ | ⟨_, b, o, cp, rfl, hcp, hc⟩
  · exact absurd nv_nil hz
  · obtain ⟨n, hn⟩ : ∃ n, xs.length = n := ⟨_, rfl⟩
    obtain ⟨D, hDe⟩ : ∃ D, s / 64 + 1 = D := ⟨_, rfl⟩
    rw [hDe] at hD hMD
    have q1 : (s : Int) / 64 + 1 = (D : Int) := by omega
    have hDc : (D : Int) ≤ (cp : Int) := by omega
    have hDn : D ≤ cp := by omega
    have hD0 : (0 : Int) ≤ (D : Int) := by omega
    have hcp0 : ¬ cp = 0 := by omega
    have m1 := mk_row n (by omega) (n : Int) rfl
    have HN := Lib.hid hn
    have HM := Lib.hid (And.intro hs (And.intro hDe (And.intro hD hMD)))
    have HC := Lib.hid hc
    have HZ := Lib.hid hz
    rw [hn] at HX hl hp ⊢
    clear h h2 hs hDe hMD hc hn hz
    go_enter Tryd.func37, Tryd.ntmps37
    go_wp2_with fail
    go_step3
    go_wp2_with fail
    refine hk.mono ?_
    rintro e w' ⟨rfl, rfl⟩
    clear hk
    go_wp2_with fail
    refine (clone_w _ xs (by rw [HN.out]; omega) _ HX.out.1).mono ?_
    rintro e w1 ⟨v1, rfl, s1, o1, b1⟩
    have o2 := o1 (by rw [HN.out]; exact hp)
    rw [HN.out] at o2
    obtain ⟨g1, c1, rfl, hg1, hg1l⟩ := o2.form hp
    have HL := Lib.hid (DL.mk (b1.alloc b1.size (.cells (madeCells #[.int .u64 0] n) 37)) (o2.alloc _) (made_own w1 n (by omega) w.heap.size b1.size) HN.out List.length_replicate hg1 b1.size (Nat.ne_of_lt hg1l))
    clear s1 o1 b1 o2 hg1l
    go_wp2_with fail
    go_step3
    go_wp2_with fail
    go_loopg [10] (sz (nv xs)) (fun gk _ wr => ∃ rs qs, gk = sz (nv rs) ∧ RowKit.Hid (DI (nv xs) (nv ms) qs rs) ∧ DL w wr g1 c1 w1.heap.size n rs qs)
    case atStart => exact ⟨xs, _, rfl, DI.start rfl (nv_rep n), HL.out⟩
    case round =>
      obtain ⟨rs, qs, rfl, HI, hdl⟩ := hrel
      clear HL m1
      generalize w1.heap.size = g2 at *
      have HL := Lib.hid hdl
      have hlr := hdl.l1
      have hlq := hdl.l2
      have hk := deg_any _ rs wr (own_slk hdl.own1) (by omega)
      clear hdl
      have hszr := (@sz_le (nv rs) (64 * rs.length)).2 (nv_lt rs)
      obtain ⟨t, ht⟩ : ∃ t, sz (nv rs) = t := ⟨_, rfl⟩
      rw [ht] at hk
      have ht0 : (t : Int) ≤ 2560000 := by omega
      by_cases hlt : t ≤ s
      · have hstop := HI.stop (by rw [ht, HM.out.1]; omega)
        have HS := Lib.hid hstop
        have hneg : (t : Int) - 1 - (s : Int) < 0 := by omega
        clear HI hstop ht hszr
        go_wp2_with fail
        refine hk.mono ?_
        rintro e w' ⟨rfl, rfl⟩
        clear hk
        go_wp2_with fail
        refine (trim_any _ qs _ (own_slk HL.out.own2) (by omega)).mono ?_
        rintro e w3 ⟨v3, rfl, s3, _, b3⟩
        rw [HS.out.1] at s3
        have H3 := Lib.hid (And.intro s3 (HL.out.next b3))
        clear s3 b3 HL
        go_wp2_with fail
        refine (trim_any _ rs _ (own_slk H3.out.2.own1) (by omega)).mono ?_
        rintro e w4 ⟨v4, rfl, s4, _, b4⟩
        rw [HS.out.2] at s4
        have H4 := Lib.hid (And.intro (H3.out.1.below b4) (And.intro s4 (H3.out.2.bel.trans (b4.mono H3.out.2.bel.size))))
        clear s4 b4 H3
        go_wp2_with fail
        go_ret3
        exact ⟨v3, v4, rfl, H4.out.1, H4.out.2.1, H4.out.2.2⟩
      · obtain ⟨e, he⟩ : ∃ e, t = s + 1 + e := ⟨t - s - 1, by omega⟩
        have q2 : (t : Int) - 1 - (s : Int) = (e : Int) := by omega
        have he2 : sz (nv rs) = sz (nv ms) + e := by rw [ht, HM.out.1, he]
        have hbit := HI.bit e (by omega)
        obtain ⟨ei, hei⟩ : ∃ ei, e / 64 = ei := ⟨_, rfl⟩
        obtain ⟨ej, hej⟩ : ∃ ej, e % 64 = ej := ⟨_, rfl⟩
        have q3 : (e : Int) / 64 = (ei : Int) := by omega
        have q4 : (e : Int) % 64 = (ej : Int) := by omega
        have q5 : (e : Int).tdiv 64 = (ei : Int) := by rw [Int.tdiv_eq_ediv_of_nonneg (by omega)]; exact q3
        have q6 : (e : Int).tmod 64 = (ej : Int) := by rw [Int.tmod_eq_emod_of_nonneg (by omega)]; exact q4
        have hein : ei < n := by omega
        have hei' : (ei : Int) < (n : Int) := by omega
        have hei0 : (0 : Int) ≤ (ei : Int) := by omega
        have hej0 : (0 : Int) ≤ (ej : Int) := by omega
        have hej64 : (ej : Int) < 64 := by omega
        have he0 : ¬ (e : Int) < 0 := by omega
        have hqi : ei < qs.length := by omega
        have hqs := quo_set' hei hej hqi hbit
        have hRn : nv rs < 2 ^ (64 * n) := by rw [← hlr]; exact nv_lt rs
        have hpl := fun k (hk : 64 * k < sz (nv ms)) => rem_place' (k := k) hei hRn he2 hk
        have hpl2 := fun k hk hz => rem_place2' (ms := ms) (k := k) hei hej hRn he2 hk hz
        have e1 := own_cell HL.out.own2 ei hqi
        have f1 := HL.out.own2.frozenAt ei
        have HE := Lib.hid (And.intro he2 (And.intro hei hej))
        have HQ := Lib.hid hqs
        have HP := Lib.hid hpl
        have HP2 := Lib.hid hpl2
        have HB := Lib.hid hbit
        have HT := Lib.hid ht
        clear hbit hei hej he2 hqs hpl hpl2 ht he hszr hRn
        go_wp2_with fail
        refine hk.mono ?_
        rintro e_ w' ⟨rfl, rfl⟩
        clear hk
        go_wp2_with fail
        go_cut [] (fun wx => DL w wx g1 c1 g2 n rs (qs.set ei (qs[ei]'hqi ||| 1#64 <<< ej)))
        case first =>
          go_region
          all_goals go_step
          all_goals (rename_i hJ hK; refine hK _ _ (Met.intro (hJ _ _ ?_)); (repeat apply Exists.intro); refine ⟨?_, rfl⟩)
          all_goals rw [ofInt_pow ej (by omega)]
          all_goals exact (HL.out.set2 _ _).drew
        case rest =>
          have HL2 := Lib.hid hcut
          clear hcut HL e1 f1 HB
          go_wp2_with fail
          go_loopw [45] (fun i wr => ∃ k rs', k ≤ D ∧ i = .int .i64 ((k : Nat) : Int) ∧ RowKit.Hid (nv rs' = nv rs ^^^ 2 ^ e * nv (ms.take k)) ∧ DL w wr g1 c1 g2 n rs' (qs.set ei (qs[ei]'hqi ||| 1#64 <<< ej))) (fun i _ => D - (intOf i).toNat)
          case atStart => exact ⟨0, rs, by omega, rfl, (show nv rs = nv rs ^^^ 2 ^ e * nv (ms.take 0) by rw [List.take_zero, nv_nil, Nat.mul_zero, Nat.xor_zero]), HL2.out⟩
          case round =>
            obtain ⟨k, rs', hkD, rfl, HR, hdl⟩ := hrel
            clear HL2
            have HL := Lib.hid hdl
            clear hdl
            by_cases hkl : k < D
            · have hkl' : (k : Int) < (D : Int) := by omega
              have hk0 : (0 : Int) ≤ (k : Int) := by omega
              have hkm : k < ms.length := by have := HM.out.2.2.1; omega
              have c1_ := cells_below HC.out HL.out.bel k hkm
              have hpl := HP.out k (by have h1 := HM.out.1; have h2 := HM.out.2.1; omega)
              have hl1 := HL.out.l1
              have hpr : k + ei < rs'.length := by omega
              have hr1 := fun hz => rem_one' (k := k) (rs := rs') (ms := ms) HE.out.2.1 HE.out.2.2 hkm hpr HR hz
              have hr2 := fun hj => rem_two' (k := k) (rs := rs') (ms := ms) HE.out.2.1 HE.out.2.2 hkm hj HR
              have hpl2 := HP2.out k hkm
              generalize ms[k] = x at *
              obtain ⟨mo, hmo⟩ : ∃ mo, x >>> (64 - ej) = mo := ⟨_, rfl⟩
              rw [hmo] at hr1 hr2 hpl2
              have hmo' : x >>> (64 - (ej : Int)).toNat = mo := by rw [show (64 - (ej : Int)).toNat = 64 - ej by omega]; exact hmo
              have hej2 : (0 : Int) ≤ 64 - (ej : Int) := by omega
              have HR1 := Lib.hid (And.intro hr1 hr2)
              have HPL2 := Lib.hid hpl2
              have e1 := own_cell HL.out.own1 (k + ei) hpr
              have f1 := HL.out.own1.frozenAt (k + ei)
              have g1_ : (k : Int) + (ei : Int) < (n : Int) := by omega
              have g2_ : (0 : Int) ≤ (k : Int) + (ei : Int) := by omega
              have g3_ : ((k : Int) + (ei : Int)).toNat = k + ei := by omega
              have hw1 : IntKind.i64.wrap ((k : Int) + (ei : Int)) = (k : Int) + (ei : Int) := IntWalk.i64_in _ (by omega)
              clear hr1 hr2 hpl2 HR
              go_wp2_with fail
              go_cut [] (fun wx => DL w wx g1 c1 g2 n (rs'.set (k + ei) (rs'[k + ei]'hpr ^^^ x <<< ej)) (qs.set ei (qs[ei]'hqi ||| 1#64 <<< ej)))
              case first =>
                go_region
                all_goals go_step
                all_goals (rename_i hJ hK; refine hK _ _ (Met.intro (hJ _ _ ?_)); (repeat apply Exists.intro); refine ⟨?_, rfl⟩)
                all_goals exact (HL.out.set1 _ _).drew
              case rest =>
                have HL2 := Lib.hid hcut
                clear hcut HL e1 f1
                by_cases hmz : mo = 0#64
                · subst hmz
                  have hz : (ui 0#64 != 0) = false := rfl
                  go_wp2_with fail
                  go_roundw
                  case rel => exact ⟨k + 1, _, by omega, by go_num, HR1.out.1 rfl, HL2.out⟩
                  case measure => simp [intOf]; omega
                · have hz : (mo != 0#64) = true := by simpa using hmz
                  have hj2 : k + ei + 1 < n := HPL2.out hmz
                  have hj3 : k + ei + 1 < rs'.length := by omega
                  have hst := HR1.out.2 hj3
                  have HST := Lib.hid hst
                  have e1 := own_cell HL2.out.own1 (k + ei + 1) (by rw [List.length_set]; exact hj3)
                  rw [List.getElem_set_ne (by omega)] at e1
                  have f1 := HL2.out.own1.frozenAt (k + ei + 1)
                  have g4_ : (k : Int) + (ei : Int) + 1 < (n : Int) := by omega
                  have g5_ : (0 : Int) ≤ (k : Int) + (ei : Int) + 1 := by omega
                  have g6_ : ((k : Int) + (ei : Int) + 1).toNat = k + ei + 1 := by omega
                  have HL3 := Lib.hid (HL2.out.set1 (k + ei + 1) (rs'[k + ei + 1] ^^^ mo))
                  clear hst hmz
                  go_wp2_with fail
                  go_roundw
                  case rel => exact ⟨k + 1, _, by omega, by go_num, HST.out, HL3.out⟩
                  case measure => simp [intOf]; omega
            · obtain rfl : k = D := by omega
              clear hkl
              have hR2 : nv rs' = nv rs ^^^ 2 ^ e * nv (ms.take k) := HR
              rw [HM.out.2.2.2] at hR2
              obtain ⟨hI2, hdec⟩ := HI.next HZ.out HE.out.1 HQ.out hR2
              have HI2 := Lib.hid (And.intro hI2 hdec)
              clear hR2 hI2 hdec HR HI
              go_wp2_with fail
              go_roundg (sz (nv rs'))
              case rel => exact ⟨rs', _, rfl, HI2.out.1, HL.out⟩
              case measure => exact HI2.out.2
theorem both_any (v v2 : Value) (xs ms : List (BitVec 64)) (w : World) (h : SlK w v xs) (h2 : SlK w v2 ms) (hl : xs.length ≤ 40000) (hl2 : ms.length ≤ 40000) (hz : nv ms ≠ 0) :
    Calls Tryd.prog 37 #[v, v2] w (RQ w (cw (dquo (nv xs) (nv ms))) (cw (drem (nv xs) (nv ms))) true) := by
  rcases Nat.eq_zero_or_pos xs.length with h0 | h0
  · obtain rfl : xs = [] := List.length_eq_zero_iff.1 h0
    have hs : sz (nv []) < sz (nv ms) := by
      rw [nv_nil, sz_zero]
      have : sz (nv ms) ≠ 0 := fun e => hz (sz_eq_zero.1 e)
      omega
    obtain ⟨e1, e2⟩ := rem_small hs
    rw [e1, e2, nv_nil, cw_zero]
    exact both_nil v v2 ms w h h2 (by omega) hz
  · exact both_some v v2 xs ms w h h2 hl hl2 hz h0
end Go.Proofs.YthiahpkodnfdcaaDoor
