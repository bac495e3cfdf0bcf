/- The walk of chapter 6's products. No condition but on lengths and the table of trailing zeros. -/
import Derived.Test.YthiahpkodnfdcaaDoorG3
import Derived.Deep.OwnRows
namespace Go.Proofs.YthiahpkodnfdcaaDoor
open Go.RowKit
theorem mk_row (n : Nat) (hn : n ≤ 1000000) (c : Int) (hc : c = (n : Int)) (w : World) : (Instr.makeSlice 22 (.int .i64 c) (.int .i64 c)).run Tryd.prog w = .ok (.slice (some ⟨w.heap.size, 0, none⟩) n n) (w.alloc (.cells (madeCells #[.int .u64 0] n) 37)) := by
  subst hc
  exact run_make_row' (P := Tryd.prog) 22 37 (.int .u64 0) 8 Tryd.underlying22 (by kernel_rfl) rfl .i64 .i64 n (by omega) (by omega) w
theorem made_vals (n : Nat) : (madeCells #[.int .u64 0] n).toList = vals (List.replicate n 0#64) := by
  rw [toList_madeCells_one]
  unfold vals
  rw [List.map_replicate]
  rfl
theorem made_own (w : World) (n : Nat) (hn : n ≤ 1000000) (b : Nat) (hb : b ≤ w.heap.size) : (w.alloc (.cells (madeCells #[.int .u64 0] n) 37)).ownsRow b 37 1 (.slice (some ⟨w.heap.size, 0, none⟩) n n) n (vals (List.replicate n 0#64)) := by
  have h := World.ownsRow_lit (e := 37) (size := 1) (base := b) w (madeCells #[.int .u64 0] n) n hb (by unfold maxLen; omega) (by rw [← Array.length_toList, made_vals, vals_length, List.length_replicate, Nat.mul_one])
  rw [made_vals] at h
  exact h
theorem nv_rep (n : Nat) : nv (List.replicate n 0#64) = 0 := nv_zero _ (fun i hi => by rw [List.getElem_replicate])
theorem nv_nil : nv [] = 0 := rfl
theorem mul_step {A B I K j : Nat} {x : BitVec 64} {os ys : List (BitVec 64)} (hK : K < ys.length) (hj : j = I + K) (hj1 : j + 1 < os.length) (h : nv os = clm A B ^^^ 2 ^ (64 * I) * clm x.toNat (nv (ys.take K))) :
    nv ((os.set j (os[j] ^^^ clLo x ys[K])).set (j + 1) (os[j + 1] ^^^ clHi x ys[K])) = clm A B ^^^ 2 ^ (64 * I) * clm x.toNat (nv (ys.take (K + 1))) := by
  have e1 : os[j + 1] = (os.set j (os[j] ^^^ clLo x ys[K]))[j + 1]'(by rw [List.length_set]; exact hj1) := by
    rw [List.getElem_set_ne (by omega)]
  rw [e1, nv_set _ _ (by rw [List.length_set]; exact hj1), nv_set _ _ (by omega), h, nv_take_succ _ _ hK, clm_xor_r, clm_shl_r, pow_xor]
  have e2 : 2 ^ (64 * j) * (clLo x ys[K]).toNat ^^^ 2 ^ (64 * (j + 1)) * (clHi x ys[K]).toNat = 2 ^ (64 * I) * (2 ^ (64 * K) * clm x.toNat ys[K].toNat) := by
    rw [show 64 * (j + 1) = 64 * j + 64 by omega, Nat.pow_add, Nat.mul_assoc, ← pow_xor, Nat.xor_comm, ← add_xor _ _ _ (clLo x ys[K]).isLt]
    have hh := cl128_of (clm_lt x ys[K])
    unfold cl128 at hh
    have h2 : 2 ^ 64 * (clHi x ys[K]).toNat + (clLo x ys[K]).toNat = clm x.toNat ys[K].toNat := hh
    rw [h2, hj, Nat.mul_add, Nat.pow_add, Nat.mul_assoc]
  rw [Nat.xor_assoc, Nat.xor_assoc, e2]
/-- what stands in Mul -/
structure ML (w0 w : World) (g n : Nat) (os : List (BitVec 64)) : Prop where
  bel : Below w0.heap.size w0 w
  own : w.ownsRow w0.heap.size 37 1 (.slice (some ⟨g, 0, none⟩) n n) n (vals os)
  len : os.length = n
  hg : w0.heap.size ≤ g
theorem ML.next {w0 w w1 : World} {g n : Nat} {os : List (BitVec 64)} (h : ML w0 w g n os) (hb : Below w.heap.size w w1) : ML w0 w1 g n os :=
  ⟨h.bel.trans (hb.mono h.bel.size), owns_below h.own hb, h.len, h.hg⟩
theorem ML.drew {w0 w : World} {g n : Nat} {os : List (BitVec 64)} (h : ML w0 w g n os) : ML w0 w.drew g n os := ⟨h.bel.drew, h.own.drew, h.len, h.hg⟩
theorem ML.set {w0 w : World} {g n : Nat} {os : List (BitVec 64)} (h : ML w0 w g n os) (k : Nat) (x : BitVec 64) : ML w0 (w.setCell ⟨g, k, none⟩ (.int .u64 (ui x))) g n (os.set k x) :=
  ⟨h.bel.setCell (p := ⟨g, k, none⟩) h.hg _, own_set h.own k x, by rw [List.length_set]; exact h.len, h.hg⟩
theorem own_lt {w : World} {base g n cap : Nat} {e : TypeId} {us : List Value} (h : w.ownsRow base e 1 (.slice (some ⟨g, 0, none⟩) n cap) n us) : g < w.heap.size := (h.lt g rfl).2
set_option maxHeartbeats 1000000 in
theorem mul_any (v v2 : Value) (xs ys : List (BitVec 64)) (w : World) (h : SlK w v xs) (h2 : SlK w v2 ys) (hl : xs.length ≤ 40000) (hl2 : ys.length ≤ 40000) (hT : Tab w) :
    Calls Tryd.prog 16 #[v, v2] w (RK w (cw (clm (nv xs) (nv ys)))) := by
  obtain ⟨ao, cap, hv⟩ := slV_len h.1
  obtain ⟨ao2, cap2, hv2⟩ := slV_len h2.1
  rw [vals_length] at hv hv2
  subst hv hv2
  have HX := Lib.hid h
  have HY := Lib.hid h2
  have HT := Lib.hid hT
  have hpos := hT.1
  have m1 := mk_row (xs.length + ys.length) (by omega) ((xs.length : Int) + (ys.length : Int)) (by omega)
  have HM := Lib.hid (ML.mk (below_new w _) (made_own w (xs.length + ys.length) (by omega) w.heap.size (Nat.le_refl _)) List.length_replicate (Nat.le_refl _))
  obtain ⟨n, hn⟩ : ∃ n, xs.length + ys.length = n := ⟨_, rfl⟩
  rw [hn] at m1 HM
  have HN := Lib.hid hn
  clear h h2 hT hn
  go_enter Tryd.func16, Tryd.ntmps16
  go_wp2_with fail
  go_loopw [19] (fun i wr => ∃ I os, I ≤ xs.length ∧ i = .int .i64 ((I : Nat) : Int) ∧ RowKit.Hid (nv os = clm (nv (xs.take I)) (nv ys)) ∧ ML w wr w.heap.size n os) (fun i _ => xs.length - (intOf i).toNat)
  case atStart => exact ⟨0, _, by omega, rfl, (show nv (List.replicate n 0#64) = clm (nv (xs.take 0)) (nv ys) by rw [nv_rep, List.take_zero, nv_nil, clm_zero]), HM.out⟩
  case round =>
    obtain ⟨I, os, hI, rfl, HP, hm⟩ := hrel
    clear HM m1
    have HM := Lib.hid hm
    clear hm
    by_cases hlt : I < xs.length
    · have hlt' : (I : Int) < (xs.length : Int) := by omega
      have hI' : (0 : Int) ≤ (I : Int) := by omega
      rcases (HX.out.below HM.out.bel).cases with ⟨h0, _⟩ | ⟨_, b1, o1, cp1, e1, _, hc1⟩
      · rw [h0] at hlt; simp at hlt
      · injection e1 with e1 _ e3
        subst e1 e3
        have c1 := hc1 I hlt
        obtain ⟨x, hx⟩ : ∃ x, xs[I] = x := ⟨_, rfl⟩
        rw [hx] at c1
        have HXI := Lib.hid hx
        clear hc1 hx
        go_wp2_with fail
        go_loopw [26] (fun i wr => ∃ K os, K ≤ ys.length ∧ i = .int .i64 ((K : Nat) : Int) ∧ RowKit.Hid (nv os = clm (nv (xs.take I)) (nv ys) ^^^ 2 ^ (64 * I) * clm x.toNat (nv (ys.take K))) ∧ ML w wr w.heap.size n os) (fun i _ => ys.length - (intOf i).toNat)
        case atStart => exact ⟨0, os, by omega, rfl, (show nv os = clm (nv (xs.take I)) (nv ys) ^^^ 2 ^ (64 * I) * clm x.toNat (nv (ys.take 0)) by rw [List.take_zero, nv_nil, clm_r0, Nat.mul_zero, Nat.xor_zero]; exact HP), HM.out⟩
        case round =>
          obtain ⟨K, os, hK, rfl, HP, hm⟩ := hrel
          clear HM c1
          have HM := Lib.hid hm
          clear hm
          by_cases hltK : K < ys.length
          · have hltK' : (K : Int) < (ys.length : Int) := by omega
            have hK' : (0 : Int) ≤ (K : Int) := by omega
            rcases (HY.out.below HM.out.bel).cases with ⟨h0, _⟩ | ⟨_, b2, o2, cp2, e2, _, hc2⟩
            · rw [h0] at hltK; simp at hltK
            · injection e2 with e2 _ e4
              subst e2 e4
              have c2 := hc2 K hltK
              have hst := fun hj1 => mul_step (A := nv (xs.take I)) (B := nv ys) (x := x) (os := os) hltK rfl hj1 HP
              have hlen := HM.out.len
              have hsum := HN.out
              have hj1 : I + K + 1 < os.length := by omega
              have hst2 := hst hj1
              clear hst hc2
              obtain ⟨y, hy⟩ : ∃ y, ys[K] = y := ⟨_, rfl⟩
              rw [hy] at c2 hst2
              have HST := Lib.hid hst2
              clear hst2 hy hlen hsum
              go_wp2_with fail
              refine (clmul_any x y _ (HT.out.belowN HM.out.bel hpos)).mono ?_
              rintro e w3 ⟨rfl, bb⟩
              generalize clHi x y = hi at *
              generalize clLo x y = lo at *
              have HM3 := Lib.hid ((HM.out.next bb).next (below_new w3 (.cells #[.int .u64 (ui hi), .int .u64 (ui lo)] 39)))
              have hP3 := Blk.new w3 39 #[.int .u64 (ui hi), .int .u64 (ui lo)]
              have hgp : w.heap.size ≠ w3.heap.size := by have := own_lt (HM.out.next bb).own; omega
              clear bb HM c2
              obtain ⟨p0, p1⟩ := u128_cells hP3
              have HP3 := Lib.hid hP3
              have e1 := own_cell HM3.out.own (I + K) (by omega)
              have f1 := HM3.out.own.frozenAt (I + K)
              have g1 : (I : Int) + (K : Int) < (n : Int) := by have := HM3.out.len; omega
              have g2 : (0 : Int) ≤ (I : Int) + (K : Int) := by omega
              have g3 : ((I : Int) + (K : Int)).toNat = I + K := by omega
              have hw1 : IntKind.i64.wrap ((I : Int) + (K : Int)) = (I : Int) + (K : Int) := IntWalk.i64_in _ (by omega)
              have hw2 : IntKind.i64.wrap ((I : Int) + (K : Int) + 1) = (I : Int) + (K : Int) + 1 := IntWalk.i64_in _ (by omega)
              clear hP3
              go_wp2_with fail
              go_cut [] (fun wx => ML w wx w.heap.size n (os.set (I + K) (os[I + K]'(by omega) ^^^ lo)) ∧ Blk wx w3.heap.size 39 #[.int .u64 (ui hi), .int .u64 (ui lo)])
              case first =>
                go_region
                all_goals go_step
                all_goals (rename_i hJ hK; refine hK _ _ (Met.intro (hJ _ _ ?_)); (repeat apply Exists.intro); refine ⟨?_, rfl⟩)
                all_goals exact ⟨(HM3.out.set _ _).drew, (HP3.out.far (p := ⟨w.heap.size, I + K, none⟩) (fun e => hgp e.symm) _).drew⟩
              case rest =>
                obtain ⟨hm4, hp4⟩ := hcut
                have HM4 := Lib.hid hm4
                clear hm4 HM3 HP3 p0 p1 e1 f1
                obtain ⟨p0, p1⟩ := u128_cells hp4
                clear hp4
                have e1 := own_cell HM4.out.own (I + K + 1) (by rw [List.length_set]; omega)
                rw [List.getElem_set_ne (by omega)] at e1
                have f1 := HM4.out.own.frozenAt (I + K + 1)
                have g4 : (I : Int) + (K : Int) + 1 < (n : Int) := by have := HM4.out.len; rw [List.length_set] at this; omega
                have g5 : (0 : Int) ≤ (I : Int) + (K : Int) + 1 := by omega
                have g6 : ((I : Int) + (K : Int) + 1).toNat = I + K + 1 := by omega
                have HM5 := Lib.hid ((HM4.out.set (I + K + 1) (os[I + K + 1] ^^^ hi)).drew)
                go_wp2_with fail
                go_region
                go_wp2_with fail
                go_roundw
                case rel => exact ⟨K + 1, _, by omega, by go_num, HST.out, HM5.out⟩
                case measure => simp [intOf]; omega
          · obtain rfl : K = ys.length := by omega
            clear hltK
            have hP2 : nv os = clm (nv (xs.take (I + 1))) (nv ys) := by
              have h : nv os = clm (nv (xs.take I)) (nv ys) ^^^ 2 ^ (64 * I) * clm x.toNat (nv (ys.take ys.length)) := HP
              rw [h, List.take_length, nv_take_succ _ _ hlt, clm_xor_l, clm_shl_l, HXI.out]
            have HP2 := Lib.hid hP2
            clear hP2
            go_wp2_with fail
            go_roundw
            case rel => exact ⟨I + 1, os, by omega, by go_num, HP2.out, HM.out⟩
            case measure => simp [intOf]; omega
    · obtain rfl : I = xs.length := by omega
      clear hlt
      have hP2 : nv os = clm (nv xs) (nv ys) := by
        have h : nv os = clm (nv (xs.take xs.length)) (nv ys) := HP
        rw [h, List.take_length]
      have HP2 := Lib.hid hP2
      clear hP2
      have hlen := HM.out.len
      have hsum := HN.out
      go_wp2_with fail
      refine (trim_any _ os _ (own_slk HM.out.own) (by omega)).mono ?_
      rintro e w4 ⟨v4, rfl, s4, _, b4⟩
      rw [HP2.out] at s4
      have H4 := Lib.hid (And.intro s4 (HM.out.bel.trans (b4.mono HM.out.bel.size)))
      clear s4 b4
      go_wp2_with fail
      go_ret
      exact ⟨v4, rfl, H4.out.1, H4.out.2⟩
end Go.Proofs.YthiahpkodnfdcaaDoor
