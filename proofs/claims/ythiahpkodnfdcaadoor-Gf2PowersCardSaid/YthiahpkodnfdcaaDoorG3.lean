/- The walk of chapter 6's sums. No condition but on lengths. -/
import Derived.Test.YthiahpkodnfdcaaDoorG2
import Derived.Deep.AppendLies
namespace Go.Proofs.YthiahpkodnfdcaaDoor
open Go.RowKit
theorem own_slk {w : World} {base : Nat} {e : TypeId} {v : Value} {n : Nat} {xs : List (BitVec 64)} (h : w.ownsRow base e 1 v n (vals xs)) : SlK w v xs := by
  refine ⟨SlV.of_owns h, ?_⟩
  rcases h.2 with ⟨rfl, _⟩ | ⟨g, cap, cur, rfl, _, _, hn, _⟩
  · exact ⟨_, _, _, rfl, Nat.le_refl _⟩
  · exact ⟨_, _, _, rfl, hn⟩
theorem own_cell {w : World} {base g n cap : Nat} {e : TypeId} {hs : List (BitVec 64)} (h : w.ownsRow base e 1 (.slice (some ⟨g, 0, none⟩) n cap) n (vals hs)) (k : Nat) (hk : k < hs.length) : w.cell? ⟨g, k, none⟩ = some (.int .u64 (ui hs[k])) := by
  have hl := h.1
  rw [vals_length, Nat.mul_one] at hl
  rw [h.cellAt k (by omega)]
  exact vals_get hs k hk
theorem vals_setL (xs : List (BitVec 64)) (k : Nat) (x : BitVec 64) : (vals xs).set k (.int .u64 (ui x)) = vals (xs.set k x) := by simp [vals, List.map_set]
theorem own_set {w : World} {base g n cap : Nat} {e : TypeId} {hs : List (BitVec 64)} (h : w.ownsRow base e 1 (.slice (some ⟨g, 0, none⟩) n cap) n (vals hs)) (k : Nat) (x : BitVec 64) : (w.setCell ⟨g, k, none⟩ (.int .u64 (ui x))).ownsRow base e 1 (.slice (some ⟨g, 0, none⟩) n cap) n (vals (hs.set k x)) := by
  rw [← vals_setL]
  exact (h.stored k _).1
theorem cells_below {w w' : World} {b o : Nat} {xs : List (BitVec 64)} (h : ∀ i, (hi : i < xs.length) → w.cell? ⟨b, o + i, none⟩ = some (.int .u64 (ui xs[i]))) (hb : Below w.heap.size w w') (i : Nat) (hi : i < xs.length) : w'.cell? ⟨b, o + i, none⟩ = some (.int .u64 (ui xs[i])) := by
  have h1 := h i hi
  rw [hb.cell (p := ⟨b, o + i, none⟩) (World.block_lt_of_cell? w _ h1)]
  exact h1
/-- words that are returned, told shorter -/
def RK (w0 : World) (xs : List (BitVec 64)) (e : Ending) (w' : World) : Prop := ∃ v, e = .returned v ∧ SlK w' v xs ∧ Below w0.heap.size w0 w'
theorem RW.toK {w0 : World} {xs : List (BitVec 64)} {e : Ending} {w' : World} (h : RW w0 xs e w') : RK w0 xs e w' := by
  obtain ⟨v, h1, h2, _, h3⟩ := h
  exact ⟨v, h1, h2, h3⟩
theorem add_nil (v v2 : Value) (w : World) (h : SlK w v []) (h2 : SlK w v2 []) :
    Calls Tryd.prog 19 #[v, v2] w (RK w []) := by
  obtain ⟨ao, cap, rfl⟩ := slV_len h.1
  obtain ⟨ao2, cap2, rfl⟩ := slV_len h2.1
  rw [vals_length, List.length_nil] at *
  have H := Lib.hid h
  clear h h2
  go_enter Tryd.func19, Tryd.ntmps19
  go_wp2_with fail
  refine (clone_w _ [] (by simp) _ H.out.1).mono ?_
  rintro e w1 ⟨v1, rfl, s1, _, b1⟩
  have H1 := Lib.hid (And.intro s1 b1)
  clear s1 b1
  go_wp2_with fail
  go_loop [19] (fun i => i = .int .i64 0) (fun _ => 0)
  case atStart => rfl
  case round =>
    obtain rfl := hrel
    go_wp2_with fail
    refine (trim_any _ [] _ H1.out.1 (by simp)).mono ?_
    rintro e w2 ⟨v2, rfl, s2, _, b2⟩
    rw [show nv [] = 0 from rfl, cw_zero] at s2
    have H2 := Lib.hid (And.intro s2 (H1.out.2.trans (b2.mono H1.out.2.size)))
    clear s2 b2
    go_wp2_with fail
    go_ret
    exact ⟨_, rfl, H2.out.1, H2.out.2⟩
theorem add_ge (v v2 : Value) (xs ys : List (BitVec 64)) (w : World) (h : SlK w v xs) (h2 : SlK w v2 ys) (hl : xs.length ≤ 100000) (hlen : ys.length ≤ xs.length) (hp : 0 < xs.length) :
    Calls Tryd.prog 19 #[v, v2] w (RK w (cw (nv xs ^^^ nv ys))) := by
  have hp0 : 0 < xs.length := by omega
  have HX := Lib.hid h
  rcases h.cases with ⟨rfl, _⟩ | ⟨_, b, o, cap, rfl, hcap, hc⟩
  · simp at hp0
  · have hcmp : ¬ (xs.length : Int) < (ys.length : Int) := by omega
    obtain ⟨ao2, cap2, hv2⟩ := slV_len h2.1
    rw [vals_length] at hv2
    subst hv2
    have HY := Lib.hid h2
    rw [← xorK_nv xs ys (by omega)]
    have h64 : xs.length ≤ 17592186044416 := by omega
    have hyx : ys.length ≤ xs.length := by omega
    clear h h2 hc hlen
    go_enter Tryd.func19, Tryd.ntmps19
    go_wp2_with fail
    refine (clone_w _ xs h64 _ HX.out.1).mono ?_
    rintro e w1 ⟨v1, rfl, s1, o1, b1⟩
    obtain ⟨g, cg, rfl, hg, hgl⟩ := (o1 hp0).form hp0
    have HO := Lib.hid (And.intro (o1 hp0) b1)
    clear s1 o1 b1 hgl
    go_wp2_with fail
    go_loopw [19] (fun i wr => ∃ k : Nat, k ≤ ys.length ∧ i = .int .i64 k ∧ wr.ownsRow w.heap.size 37 1 (.slice (some ⟨g, 0, none⟩) xs.length cg) xs.length (vals (xorK xs ys k)) ∧ Below w.heap.size w wr) (fun i _ => ys.length - (intOf i).toNat)
    case atStart => exact ⟨0, by omega, rfl, by rw [xorK_zero]; exact HO.out.1, HO.out.2⟩
    case round =>
      obtain ⟨k, hk, rfl, ho, hb⟩ := hrel
      have HR := Lib.hid (And.intro ho hb)
      clear ho hb
      by_cases hlt : k < ys.length
      · have hlt' : (k : Int) < (ys.length : Int) := by omega
        have hlx : (k : Int) < (xs.length : Int) := by omega
        have hk' : (0 : Int) ≤ (k : Int) := by omega
        have hsucc := xorK_succ xs ys k (by omega) hlt
        have c1 := own_cell HR.out.1 k (by rw [xorK_length]; omega)
        rw [xorK_get _ _ _ _ (by omega), if_neg (by omega), getD_at _ _ _ (by omega)] at c1
        have f1 := HR.out.1.frozenAt k
        rcases (HY.out.below HR.out.2).cases with ⟨h0, _⟩ | ⟨_, b2, o2, cp2, e2, _, hc2⟩
        · rw [h0] at hlt; simp at hlt
        · injection e2 with e2 _ _
          subst e2
          have c2 := hc2 k hlt
          have hbg : b2 ≠ g := by
            have := World.block_lt_of_cell? wr _ c2
            rcases HY.out.cases with ⟨h0, _⟩ | ⟨_, b3, o3, cp3, e3, _, hc3⟩
            · rw [h0] at hlt; simp at hlt
            · injection e3 with e3 _ _
              injection e3 with e3
              injection e3 with e3 _ _
              have := World.block_lt_of_cell? w _ (hc3 k hlt)
              simp at this
              omega
          have HS := Lib.hid hsucc
          clear hsucc hc2
          generalize xs[k]'(by omega) = x at *
          generalize ys[k] = y at *
          go_wp2_with fail
          go_roundw
          case rel => exact ⟨k + 1, by omega, by go_num, by rw [HS.out]; exact own_set HR.out.1 k _, HR.out.2.setCell (p := ⟨g, k, none⟩) hg _⟩
          case measure => simp [intOf]; omega
      · obtain rfl : k = ys.length := by omega
        clear hlt
        go_wp2_with fail
        refine (trim_any _ _ _ (own_slk HR.out.1) (by rw [xorK_length]; exact hl)).mono ?_
        rintro e w2 ⟨v3, rfl, s3, _, b3⟩
        have H2 := Lib.hid (And.intro s3 (HR.out.2.trans (b3.mono HR.out.2.size)))
        clear s3 b3
        go_wp2_with fail
        go_ret
        exact ⟨_, rfl, H2.out.1, H2.out.2⟩
theorem add_lt (v v2 : Value) (xs ys : List (BitVec 64)) (w : World) (h : SlK w v xs) (h2 : SlK w v2 ys) (hl : xs.length ≤ 100000) (hlen : ys.length < xs.length) :
    Calls Tryd.prog 19 #[v2, v] w (RK w (cw (nv xs ^^^ nv ys))) := by
  have hp0 : 0 < xs.length := by omega
  have HX := Lib.hid h
  rcases h.cases with ⟨rfl, _⟩ | ⟨_, b, o, cap, rfl, hcap, hc⟩
  · simp at hp0
  · have hcmp : (ys.length : Int) < (xs.length : Int) := by omega
    obtain ⟨ao2, cap2, hv2⟩ := slV_len h2.1
    rw [vals_length] at hv2
    subst hv2
    have HY := Lib.hid h2
    rw [← xorK_nv xs ys (by omega)]
    have h64 : xs.length ≤ 17592186044416 := by omega
    have hyx : ys.length ≤ xs.length := by omega
    clear h h2 hc hlen
    go_enter Tryd.func19, Tryd.ntmps19
    go_wp2_with fail
    refine (clone_w _ xs h64 _ HX.out.1).mono ?_
    rintro e w1 ⟨v1, rfl, s1, o1, b1⟩
    obtain ⟨g, cg, rfl, hg, hgl⟩ := (o1 hp0).form hp0
    have HO := Lib.hid (And.intro (o1 hp0) b1)
    clear s1 o1 b1 hgl
    go_wp2_with fail
    go_loopw [19] (fun i wr => ∃ k : Nat, k ≤ ys.length ∧ i = .int .i64 k ∧ wr.ownsRow w.heap.size 37 1 (.slice (some ⟨g, 0, none⟩) xs.length cg) xs.length (vals (xorK xs ys k)) ∧ Below w.heap.size w wr) (fun i _ => ys.length - (intOf i).toNat)
    case atStart => exact ⟨0, by omega, rfl, by rw [xorK_zero]; exact HO.out.1, HO.out.2⟩
    case round =>
      obtain ⟨k, hk, rfl, ho, hb⟩ := hrel
      have HR := Lib.hid (And.intro ho hb)
      clear ho hb
      by_cases hlt : k < ys.length
      · have hlt' : (k : Int) < (ys.length : Int) := by omega
        have hlx : (k : Int) < (xs.length : Int) := by omega
        have hk' : (0 : Int) ≤ (k : Int) := by omega
        have hsucc := xorK_succ xs ys k (by omega) hlt
        have c1 := own_cell HR.out.1 k (by rw [xorK_length]; omega)
        rw [xorK_get _ _ _ _ (by omega), if_neg (by omega), getD_at _ _ _ (by omega)] at c1
        have f1 := HR.out.1.frozenAt k
        rcases (HY.out.below HR.out.2).cases with ⟨h0, _⟩ | ⟨_, b2, o2, cp2, e2, _, hc2⟩
        · rw [h0] at hlt; simp at hlt
        · injection e2 with e2 _ _
          subst e2
          have c2 := hc2 k hlt
          have hbg : b2 ≠ g := by
            have := World.block_lt_of_cell? wr _ c2
            rcases HY.out.cases with ⟨h0, _⟩ | ⟨_, b3, o3, cp3, e3, _, hc3⟩
            · rw [h0] at hlt; simp at hlt
            · injection e3 with e3 _ _
              injection e3 with e3
              injection e3 with e3 _ _
              have := World.block_lt_of_cell? w _ (hc3 k hlt)
              simp at this
              omega
          have HS := Lib.hid hsucc
          clear hsucc hc2
          generalize xs[k]'(by omega) = x at *
          generalize ys[k] = y at *
          go_wp2_with fail
          go_roundw
          case rel => exact ⟨k + 1, by omega, by go_num, by rw [HS.out]; exact own_set HR.out.1 k _, HR.out.2.setCell (p := ⟨g, k, none⟩) hg _⟩
          case measure => simp [intOf]; omega
      · obtain rfl : k = ys.length := by omega
        clear hlt
        go_wp2_with fail
        refine (trim_any _ _ _ (own_slk HR.out.1) (by rw [xorK_length]; exact hl)).mono ?_
        rintro e w2 ⟨v3, rfl, s3, _, b3⟩
        have H2 := Lib.hid (And.intro s3 (HR.out.2.trans (b3.mono HR.out.2.size)))
        clear s3 b3
        go_wp2_with fail
        go_ret
        exact ⟨_, rfl, H2.out.1, H2.out.2⟩
theorem add_any (v v2 : Value) (xs ys : List (BitVec 64)) (w : World) (h : SlK w v xs) (h2 : SlK w v2 ys) (hl : xs.length ≤ 100000) (hl2 : ys.length ≤ 100000) :
    Calls Tryd.prog 19 #[v, v2] w (RK w (cw (nv xs ^^^ nv ys))) := by
  by_cases hc : xs.length < ys.length
  · rw [Nat.xor_comm]
    exact add_lt v2 v ys xs w h2 h hl2 hc
  · rcases Nat.eq_zero_or_pos xs.length with h0 | h0
    · obtain rfl : xs = [] := List.length_eq_zero_iff.1 h0
      obtain rfl : ys = [] := List.length_eq_zero_iff.1 (by simp at hc; simpa using hc)
      rw [show nv [] ^^^ nv [] = 0 from rfl, cw_zero]
      exact add_nil v v2 w h h2
    · exact add_ge v v2 xs ys w h h2 hl (by omega) h0
end Go.Proofs.YthiahpkodnfdcaaDoor
