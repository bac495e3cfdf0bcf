/- The walks of the reference's rows of draws of chapter 38 and of its Take of chapter 43. No condition but on lengths. -/
import Derived.Test.YtodflmngbkiemaaW43p
import Derived.Test.YtodflmngbkiemaaSlcOpen
namespace Go.Proofs.Ytodflmngbkiemaa
open Go.RowKit
/-- the rest of a slice -/
theorem drop_run (va : Value) (xs : List (BitVec 64)) (k : Nat) (hk : k ≤ xs.length) (hc : CapOk va) (w0 : World) (hv : SlV w0 va (vals xs)) :
    (∀ (ty : TypeId) (w : World), (Builtin.len_ #[22] ty #[va]).run Try.prog w = .ok (.int .i64 (xs.length : Int)) w) ∧ ∃ v1, (∀ (c : Int) (w : World), c = (k : Int) → (Instr.sliceAt 22 va (some (.int .i64 c)) none none).run Try.prog w = .ok v1 w ∧ (Instr.slice 22 va (some (.int .i64 c)) none none).run Try.prog w = .ok v1 w) ∧ ∀ w, SlV w va (vals xs) → SlV w v1 (vals (xs.drop k)) := by
  obtain ⟨ao, n, cap, rfl, hn⟩ := hc
  have hlen : n = xs.length := by
    rcases hv with ⟨h0, ao', cap', e⟩ | ⟨b, o, cap', e, _⟩
    · have : xs.length = 0 := by rw [← vals_length, h0]; rfl
      injection e with _ e _; omega
    · injection e with _ e _; rw [e, vals_length]
  subst hlen
  refine ⟨fun ty w => by go_simp, .slice (if cap = k then ao else ao.map (·.add (k * 1))) (xs.length - k) (cap - k), fun c w hck => ?_, fun w h => ?_⟩
  · subst hck
    have hs := run_slice_l (P := Try.prog) w 22 ao xs.length cap (by go_simp) .i64 (k : Int) (by omega) (by omega)
    have hz : ((sizeOf (Try.prog.elem 22)).run Try.prog w) = .ok 1 w := by kernel_rfl
    rw [run_sliceAt_slice (P := Try.prog) w 22 _ _ _ _ (by go_simp), hs, hz]
    simp [Result.andThen, sliced]
  · by_cases he : xs.length = k
    · refine .inl ⟨by rw [List.drop_of_length_le (by omega)]; rfl, _, _, by rw [he, Nat.sub_self]⟩
    · rcases h with ⟨h0, _⟩ | ⟨b, o, cap', e, hcell⟩
      · exfalso
        have : xs.length = 0 := by rw [← vals_length, h0]; rfl
        omega
      · injection e with e1 _ e2
        subst e1
        rw [if_neg (by omega), Option.map_some, Addr.add_lit]
        refine .inr ⟨b, o + k * 1, _, by rw [vals_length, List.length_drop], fun i u hu => ?_⟩
        rw [show o + k * 1 + i = o + (k + i) by omega]
        apply hcell (k + i) u
        unfold vals at hu ⊢
        rw [← hu, List.getElem?_map, List.getElem?_map, List.getElem?_drop]
structure RA (w0 w : World) (v : Value) (m : Nat) (dr : List Value) : Prop where
  bel : Below w0.heap.size w0 w
  own : w.ownsRow w0.heap.size 57 3 v m dr
theorem RA.next {w0 w w1 : World} {v : Value} {m : Nat} {dr : List Value} (h : RA w0 w v m dr) (hb : Below w.heap.size w w1) : RA w0 w1 v m dr :=
  ⟨h.bel.trans (hb.mono h.bel.size), owns_below h.own hb⟩
theorem RA.grown {w0 w w1 : World} {v v' : Value} {m m' : Nat} {dr dr' : List Value} (h : RA w0 w v m dr) (hg : w.grownBy w1 v.ownBlock) (ho : w1.ownsRow w0.heap.size 57 3 v' m' dr') : RA w0 w1 v' m' dr' :=
  ⟨h.bel.grown hg h.bel.size (fun k hk => (h.own.lt k hk).1), ho⟩
/-- no row of draws -/
def RRn (w : World) (n : Int) (e : Ending) (w' : World) : Prop := e = .returned (.tuple #[.slice none 0 0, .int .i64 n, .bool false]) ∧ Below w.heap.size w w'
def RRy (w : World) (n : Int) (dr : List Value) (e : Ending) (w' : World) : Prop := ∃ v, e = .returned (.tuple #[v, .int .i64 n, .bool true]) ∧ RA w w' v 2 dr
def posR (u1 u2 : Int) : Nat → Int
  | 0 => 0
  | 1 => u1
  | _ => u1 + u2
theorem row_none1 (T n1 : BitVec 64) (va : Value) (xs : List (BitVec 64)) (bl ol cl : Nat) (w : World) (hv : SlV w va (vals xs)) (hcap : CapOk va) (hlx : xs.length ≤ 1000) (hL : SlC w bl ol (vals [n1, T])) (hno : ∀ i, (hi : i < xs.length) → takesL xs[i] n1 = false) :
    Calls Try.prog 71 #[va, .slice (some ⟨bl, ol, none⟩) 2 cl] w (RRn w xs.length) := by
  obtain ⟨ql, v0, q0, hv0⟩ := drop_run va xs 0 (by omega) hcap w hv
  have q0a := fun w => (q0 0 w rfl).1
  have q0b := fun w => (q0 0 w rfl).2
  have HV := Lib.hid hv
  have HV0 := Lib.hid hv0
  clear q0
  have HL := Lib.hid hL
  have hbl := hL.lt (by rw [vals_length]; simp)
  have HN := Lib.hid hno
  clear hv hv0 hL hno hcap
  go_enter Try.func71, Try.ntmps71
  go_wp2_with fail
  go_loopw [7, 8, 15] (fun v u i wr => i = .int .i64 0 ∧ u = .int .i64 0 ∧ v = .slice none 0 0 ∧ Below w.heap.size w wr) (fun _ _ i _ => 2 - (intOf i).toNat)
  case atStart => exact ⟨rfl, rfl, rfl, Below.refl _ _⟩
  case round =>
    obtain ⟨rfl, rfl, rfl, hb⟩ := hrel
    have l0 : wr.cell? ⟨bl, ol, none⟩ = some (.int .u64 (ui n1)) := (HL.out.below hb) 0 _ rfl
    go_wp2_with fail
    refine (reftake_none v0 xs n1 hlx _ ((HV0.out _ (HV.out.below hb))) HN.out).mono ?_
    rintro e w2 ⟨rfl, bb⟩
    have hb2 := hb.trans (bb.mono hb.size)
    clear bb l0
    go_wp2_with fail
    go_ret3
    exact ⟨rfl, hb2.alloc hb2.size _⟩
set_option maxRecDepth 100000 in
set_option maxHeartbeats 1000000 in
theorem row_none2 (T n1 : BitVec 64) (va : Value) (xs : List (BitVec 64)) (bl ol cl : Nat) (w : World) (hv : SlV w va (vals xs)) (hcap : CapOk va) (hlx : xs.length ≤ 1000) (hL : SlC w bl ol (vals [n1, T])) (j1 : Nat) (hj1 : j1 < xs.length) (ht1 : takesL xs[j1] n1 = true) (hno1 : ∀ i, (hi : i < j1) → takesL (xs[i]'(by omega)) n1 = false) (a1 r1 : BitVec 64) (u1 : Int) (ha1 : mulHi xs[j1] n1 = a1) (hr1 : rankL xs[j1] n1 = r1) (hu1 : ((j1 + 1 : Nat) : Int) = u1) (hno2 : ∀ i, j1 + 1 ≤ i → (hi : i < xs.length) → takesL xs[i] T = false) :
    Calls Try.prog 71 #[va, .slice (some ⟨bl, ol, none⟩) 2 cl] w (RRn w xs.length) := by
  obtain ⟨i0, hi, hi0, hi1, hi2⟩ := info_parts info_draw
  obtain ⟨ql, v0, q0, hv0⟩ := drop_run va xs 0 (by omega) hcap w hv
  have q0a := fun w => (q0 0 w rfl).1
  have q0b := fun w => (q0 0 w rfl).2
  have HV := Lib.hid hv
  have HV0 := Lib.hid hv0
  clear q0
  have HL := Lib.hid hL
  have hbl := hL.lt (by rw [vals_length]; simp)
  obtain ⟨_, vd, qd, hvd⟩ := drop_run va xs (j1 + 1) (by omega) hcap w hv
  have qda := fun w => (qd u1 w hu1.symm).1
  have qdb := fun w => (qd u1 w hu1.symm).2
  clear qd
  have HVD := Lib.hid hvd
  have hld : (xs.drop (j1 + 1)).length ≤ 1000 := by rw [List.length_drop]; omega
  have HT := Lib.hid (show ∀ w1, SlV w1 vd (vals (xs.drop (j1 + 1))) → Calls Try.prog 33 #[vd, .int .u64 (ui T)] w1 fun e w' => e = .returned (.tuple #[.agg #[.int .u64 0, .int .u64 0, .int .i64 0], .bool false]) ∧ Below w1.heap.size w1 w' from fun w1 h1 => reftake_none vd (xs.drop (j1 + 1)) T hld w1 h1 (fun i hi => by rw [List.length_drop] at hi; rw [List.getElem_drop]; exact hno2 _ (by omega) (by omega)))
  have hub : 0 ≤ u1 ∧ u1 ≤ 1000 := by omega
  clear hno2
  have HF := Lib.hid (show ∀ w1, SlV w1 v0 (vals xs) → Calls Try.prog 33 #[v0, .int .u64 (ui n1)] w1 fun e w' => e = .returned (.tuple #[.agg #[.int .u64 (ui a1), .int .u64 (ui r1), .int .i64 u1], .bool true]) ∧ Below w1.heap.size w1 w' from fun w1 h1 => reftake_found' v0 xs j1 n1 hlx w1 h1 hj1 ht1 hno1 a1 r1 u1 ha1 hr1 hu1)
  clear hv hv0 hL hcap hvd hld ht1 hno1 ha1 hr1 hu1
  obtain ⟨u1a, u1b⟩ := hub
  go_enter Try.func71, Try.ntmps71
  go_wp2_with fail
  go_loopw [7, 8, 15] (fun v u i wr => ∃ k : Nat, k ≤ 1 ∧ i = .int .i64 k ∧ u = .int .i64 (posR u1 0 k) ∧ RA w wr v k (drF (drC a1 r1 u1) [] k)) (fun _ _ i _ => 3 - (intOf i).toNat)
  case atStart => exact ⟨0, by omega, rfl, rfl, Below.refl _ _, World.ownsRow_nil _ _ _ _⟩
  case round =>
    obtain ⟨k, hk, rfl, rfl, ha⟩ := hrel
    have HA := Lib.hid ha
    have l0 : wr.cell? ⟨bl, ol, none⟩ = some (.int .u64 (ui n1)) := (HL.out.belowN ha.bel hbl) 0 _ rfl
    have l1 : wr.cell? ⟨bl, ol + 1, none⟩ = some (.int .u64 (ui T)) := (HL.out.belowN ha.bel hbl) 1 _ rfl
    clear ha
    rcases k with _ | _ | k
    · rw [show posR u1 0 0 = 0 from rfl]
      go_wp2_with fail
      refine (HF.out _ (HV0.out _ (HV.out.belowN HA.out.bel (Nat.le_refl _)))).mono ?_
      rintro e w2 ⟨rfl, bb⟩
      have HA2 := Lib.hid ((HA.out.next bb).next (below_new _ (.cells #[.int .u64 (ui a1), .int .u64 (ui r1), .int .i64 u1] 57)))
      have hbd := Blk.new w2 57 #[.int .u64 (ui a1), .int .u64 (ui r1), .int .i64 u1]
      obtain ⟨g0, g1, g2⟩ := draw_cells hbd
      have hsz := HA2.out.bel.size
      rw [size_alloc] at hsz
      have hlt0 := (HA.out.next bb).own.lt
      clear bb HA l0 l1
      go_wp2_with (at_builtin; refine wpList_append_own _ rfl _ _ 78 rfl w.heap.size 57 i0 (.agg #[.int .u64 0, .int .u64 0, .int .i64 0]) 3 24 Try.underlying78 hi hi0 hi1 hi2 rfl (by decide) _ _ _ rfl (HA2.out.own.alloc _) ⟨w2.heap.size + 1, 0, none⟩ 1 1 (drC a1 r1 u1) rfl rfl ?a1 ?a2 ?a3 ?a4 ?a5 ?_)
      case a1 =>
        have hh := drC_new (w2.alloc (.cells #[.int .u64 (ui a1), .int .u64 (ui r1), .int .i64 u1] 57)) a1 r1 u1 57
        rw [size_alloc] at hh
        exact hh
      case a2 => intro x hx; simp [drC] at hx; rcases hx with rfl | rfl | rfl <;> rfl
      case a3 => unfold maxLen; omega
      case a4 => omega
      case a5 => have := HA2.out.bel.size; simp; omega
      intro v2 w2b hown hgrow _
      have HB2 := Lib.hid ((HA2.out.next (below_new _ (.cells #[.int .u64 (ui a1), .int .u64 (ui r1), .int .i64 u1] 57))).grown hgrow hown)
      have hb3 := (hbd.alloc (.cells #[.int .u64 (ui a1), .int .u64 (ui r1), .int .i64 u1] 57)).grown hgrow (fun e => by have := (hlt0 _ e.symm).2; omega)
      clear g0 g1 g2
      obtain ⟨g0, g1, g2⟩ := draw_cells hb3
      clear hown hgrow HA2 hb3 hbd hlt0
      go_wp2_with fail
      go_roundw
      case rel => exact ⟨1, by omega, by go_num, by go_num, HB2.out⟩
      case measure => simp [intOf]
    · rw [show posR u1 0 (0 + 1) = u1 from rfl]
      go_wp2_with fail
      refine (HT.out _ (HVD.out _ (HV.out.belowN HA.out.bel (Nat.le_refl _)))).mono ?_
      rintro e w3 ⟨rfl, bb⟩
      have hb3 := (HA.out.next bb).bel
      clear bb HA l0 l1
      go_wp2_with fail
      go_ret3
      exact ⟨rfl, hb3.alloc hb3.size _⟩
    · omega
set_option maxRecDepth 100000 in
set_option maxHeartbeats 1000000 in
theorem row_both (T n1 : BitVec 64) (va : Value) (xs : List (BitVec 64)) (bl ol cl : Nat) (w : World) (hv : SlV w va (vals xs)) (hcap : CapOk va) (hlx : xs.length ≤ 1000) (hL : SlC w bl ol (vals [n1, T])) (j1 : Nat) (hj1 : j1 < xs.length) (ht1 : takesL xs[j1] n1 = true) (hno1 : ∀ i, (hi : i < j1) → takesL (xs[i]'(by omega)) n1 = false) (a1 r1 : BitVec 64) (u1 : Int) (ha1 : mulHi xs[j1] n1 = a1) (hr1 : rankL xs[j1] n1 = r1) (hu1 : ((j1 + 1 : Nat) : Int) = u1) (j2 : Nat) (hj2 : j2 < xs.length) (hjj : j1 + 1 ≤ j2) (ht2 : takesL xs[j2] T = true) (hno2 : ∀ i, j1 + 1 ≤ i → (hi : i < j2) → takesL (xs[i]'(by omega)) T = false) (a2 r2 : BitVec 64) (u2 : Int) (ha2 : mulHi xs[j2] T = a2) (hr2 : rankL xs[j2] T = r2) (hu2 : ((j2 - (j1 + 1) + 1 : Nat) : Int) = u2) :
    Calls Try.prog 71 #[va, .slice (some ⟨bl, ol, none⟩) 2 cl] w (RRy w (u1 + u2) (drC a1 r1 u1 ++ drC a2 r2 u2)) := by
  obtain ⟨i0, hi, hi0, hi1, hi2⟩ := info_parts info_draw
  obtain ⟨ql, v0, q0, hv0⟩ := drop_run va xs 0 (by omega) hcap w hv
  have q0a := fun w => (q0 0 w rfl).1
  have q0b := fun w => (q0 0 w rfl).2
  have HV := Lib.hid hv
  have HV0 := Lib.hid hv0
  clear q0
  have HL := Lib.hid hL
  have hbl := hL.lt (by rw [vals_length]; simp)
  obtain ⟨_, vd, qd, hvd⟩ := drop_run va xs (j1 + 1) (by omega) hcap w hv
  have qda := fun w => (qd u1 w hu1.symm).1
  have qdb := fun w => (qd u1 w hu1.symm).2
  clear qd
  have HVD := Lib.hid hvd
  have hld : (xs.drop (j1 + 1)).length ≤ 1000 := by rw [List.length_drop]; omega
  have hgd : ∀ i, (hi : i < xs.length - (j1 + 1)) → (xs.drop (j1 + 1))[i]'(by rw [List.length_drop]; exact hi) = xs[j1 + 1 + i]'(by omega) := fun i hi => by rw [List.getElem_drop]
  have hjd : j2 - (j1 + 1) < (xs.drop (j1 + 1)).length := by rw [List.length_drop]; omega
  have hge : (xs.drop (j1 + 1))[j2 - (j1 + 1)] = xs[j2] := by rw [List.getElem_drop]; congr 1; omega
  have hT := reftake_found' vd (xs.drop (j1 + 1)) (j2 - (j1 + 1)) T hld
  have HT := Lib.hid (show ∀ w1, SlV w1 vd (vals (xs.drop (j1 + 1))) → Calls Try.prog 33 #[vd, .int .u64 (ui T)] w1 fun e w' => e = .returned (.tuple #[.agg #[.int .u64 (ui a2), .int .u64 (ui r2), .int .i64 u2], .bool true]) ∧ Below w1.heap.size w1 w' from fun w1 h1 => hT w1 h1 hjd (by rw [hge]; exact ht2) (fun i hi => by rw [List.getElem_drop]; exact hno2 _ (by omega) (by omega)) a2 r2 u2 (by rw [hge]; exact ha2) (by rw [hge]; exact hr2) hu2)
  have hub : 0 ≤ u1 ∧ u1 ≤ 1000 ∧ 0 ≤ u2 ∧ u2 ≤ 1000 := by omega
  clear hgd hjd hge hT ht2 hno2 ha2 hr2 hu2
  have HF := Lib.hid (show ∀ w1, SlV w1 v0 (vals xs) → Calls Try.prog 33 #[v0, .int .u64 (ui n1)] w1 fun e w' => e = .returned (.tuple #[.agg #[.int .u64 (ui a1), .int .u64 (ui r1), .int .i64 u1], .bool true]) ∧ Below w1.heap.size w1 w' from fun w1 h1 => reftake_found' v0 xs j1 n1 hlx w1 h1 hj1 ht1 hno1 a1 r1 u1 ha1 hr1 hu1)
  clear hv hv0 hL hcap hvd hld ht1 hno1 ha1 hr1 hu1
  obtain ⟨u1a, u1b, u2a, u2b⟩ := hub
  go_enter Try.func71, Try.ntmps71
  go_wp2_with fail
  go_loopw [7, 8, 15] (fun v u i wr => ∃ k : Nat, k ≤ 2 ∧ i = .int .i64 k ∧ u = .int .i64 (posR u1 u2 k) ∧ RA w wr v k (drF (drC a1 r1 u1) (drC a2 r2 u2) k)) (fun _ _ i _ => 3 - (intOf i).toNat)
  case atStart => exact ⟨0, by omega, rfl, rfl, Below.refl _ _, World.ownsRow_nil _ _ _ _⟩
  case round =>
    obtain ⟨k, hk, rfl, rfl, ha⟩ := hrel
    have HA := Lib.hid ha
    have l0 : wr.cell? ⟨bl, ol, none⟩ = some (.int .u64 (ui n1)) := (HL.out.belowN ha.bel hbl) 0 _ rfl
    have l1 : wr.cell? ⟨bl, ol + 1, none⟩ = some (.int .u64 (ui T)) := (HL.out.belowN ha.bel hbl) 1 _ rfl
    clear ha
    rcases k with _ | _ | k
    · rw [show posR u1 u2 0 = 0 from rfl]
      go_wp2_with fail
      refine (HF.out _ (HV0.out _ (HV.out.belowN HA.out.bel (Nat.le_refl _)))).mono ?_
      rintro e w2 ⟨rfl, bb⟩
      have HA2 := Lib.hid ((HA.out.next bb).next (below_new _ (.cells #[.int .u64 (ui a1), .int .u64 (ui r1), .int .i64 u1] 57)))
      have hbd := Blk.new w2 57 #[.int .u64 (ui a1), .int .u64 (ui r1), .int .i64 u1]
      obtain ⟨g0, g1, g2⟩ := draw_cells hbd
      have hsz := HA2.out.bel.size
      rw [size_alloc] at hsz
      have hlt0 := (HA.out.next bb).own.lt
      clear bb HA l0 l1
      go_wp2_with (at_builtin; refine wpList_append_own _ rfl _ _ 78 rfl w.heap.size 57 i0 (.agg #[.int .u64 0, .int .u64 0, .int .i64 0]) 3 24 Try.underlying78 hi hi0 hi1 hi2 rfl (by decide) _ _ _ rfl (HA2.out.own.alloc _) ⟨w2.heap.size + 1, 0, none⟩ 1 1 (drC a1 r1 u1) rfl rfl ?a1 ?a2 ?a3 ?a4 ?a5 ?_)
      case a1 =>
        have hh := drC_new (w2.alloc (.cells #[.int .u64 (ui a1), .int .u64 (ui r1), .int .i64 u1] 57)) a1 r1 u1 57
        rw [size_alloc] at hh
        exact hh
      case a2 => intro x hx; simp [drC] at hx; rcases hx with rfl | rfl | rfl <;> rfl
      case a3 => unfold maxLen; omega
      case a4 => omega
      case a5 => have := HA2.out.bel.size; simp; omega
      intro v2 w2b hown hgrow _
      have HB2 := Lib.hid ((HA2.out.next (below_new _ (.cells #[.int .u64 (ui a1), .int .u64 (ui r1), .int .i64 u1] 57))).grown hgrow hown)
      have hb3 := (hbd.alloc (.cells #[.int .u64 (ui a1), .int .u64 (ui r1), .int .i64 u1] 57)).grown hgrow (fun e => by have := (hlt0 _ e.symm).2; omega)
      clear g0 g1 g2
      obtain ⟨g0, g1, g2⟩ := draw_cells hb3
      clear hown hgrow HA2 hb3 hbd hlt0
      go_wp2_with fail
      go_roundw
      case rel => exact ⟨1, by omega, by go_num, by go_num, HB2.out⟩
      case measure => simp [intOf]
    · rw [show posR u1 u2 (0 + 1) = u1 from rfl]
      go_wp2_with fail
      refine (HT.out _ (HVD.out _ (HV.out.belowN HA.out.bel (Nat.le_refl _)))).mono ?_
      rintro e w3 ⟨rfl, bb⟩
      have HA3 := Lib.hid ((HA.out.next bb).next (below_new _ (.cells #[.int .u64 (ui a2), .int .u64 (ui r2), .int .i64 u2] 57)))
      have hbd := Blk.new w3 57 #[.int .u64 (ui a2), .int .u64 (ui r2), .int .i64 u2]
      obtain ⟨g0, g1, g2⟩ := draw_cells hbd
      have hsz := HA3.out.bel.size
      rw [size_alloc] at hsz
      have hlt0 := (HA.out.next bb).own.lt
      clear bb HA l0 l1
      go_wp2_with (at_builtin; refine wpList_append_own _ rfl _ _ 78 rfl w.heap.size 57 i0 (.agg #[.int .u64 0, .int .u64 0, .int .i64 0]) 3 24 Try.underlying78 hi hi0 hi1 hi2 rfl (by decide) _ _ _ rfl (HA3.out.own.alloc _) ⟨w3.heap.size + 1, 0, none⟩ 1 1 (drC a2 r2 u2) rfl rfl ?b1 ?b2 ?b3 ?b4 ?b5 ?_)
      case b1 =>
        have hh := drC_new (w3.alloc (.cells #[.int .u64 (ui a2), .int .u64 (ui r2), .int .i64 u2] 57)) a2 r2 u2 57
        rw [size_alloc] at hh
        exact hh
      case b2 => intro x hx; simp [drC] at hx; rcases hx with rfl | rfl | rfl <;> rfl
      case b3 => unfold maxLen; omega
      case b4 => omega
      case b5 => have := HA3.out.bel.size; simp; omega
      intro v3 w3b hown hgrow _
      have HB3 := Lib.hid ((HA3.out.next (below_new _ (.cells #[.int .u64 (ui a2), .int .u64 (ui r2), .int .i64 u2] 57))).grown hgrow hown)
      have hb3 := (hbd.alloc (.cells #[.int .u64 (ui a2), .int .u64 (ui r2), .int .i64 u2] 57)).grown hgrow (fun e => by have := (hlt0 _ e.symm).2; omega)
      clear g0 g1 g2
      obtain ⟨g0, g1, g2⟩ := draw_cells hb3
      clear hown hgrow HA3 hb3 hbd hlt0
      go_wp2_with fail
      go_roundw
      case rel => exact ⟨2, by omega, by go_num, by go_num, HB3.out⟩
      case measure => simp [intOf]
    · obtain rfl : k = 0 := by omega
      rw [show posR u1 u2 (0 + 1 + 1) = u1 + u2 from rfl]
      go_wp2_with fail
      go_ret3
      exact ⟨_, rfl, HA.out⟩
end Go.Proofs.Ytodflmngbkiemaa
