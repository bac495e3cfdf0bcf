/- The walk of the reference's Build of chapter 43. No condition but on lengths. -/
import Derived.Test.YtodflmngbkiemaaW43j
namespace Go.Proofs.Ytodflmngbkiemaa
open Go.RowKit
/-- a table that is returned -/
def RTab (w0 : World) (T : BitVec 64) (bs : List (BitVec 64)) (ls : List Int) (e : Ending) (w' : World) : Prop := ∃ vb va, e = .returned (.agg #[.int .u64 (ui T), vb, va]) ∧ SlV w' vb (vals bs) ∧ SlV w' va (ints ls) ∧ Below w0.heap.size w0 w'
def hsK (ws : List (BitVec 64)) (k : Nat) : List (BitVec 64) := (ws.take k).map (fun x => BitVec.ofNat 64 ws.length * x)
theorem hsK_len (ws : List (BitVec 64)) (k : Nat) (hk : k ≤ ws.length) : (hsK ws k).length = k := by unfold hsK; rw [List.length_map, List.length_take]; omega
theorem hsK_succ (ws : List (BitVec 64)) (k : Nat) (hk : k < ws.length) : hsK ws (k + 1) = hsK ws k ++ [BitVec.ofNat 64 ws.length * ws[k]] := by
  unfold hsK; rw [List.take_succ_eq_append_getElem hk, List.map_append]; rfl
def alK (k : Nat) : List Int := (List.range k).map (fun (i : Nat) => (i : Int))
theorem alK_len (k : Nat) : (alK k).length = k := by unfold alK; rw [List.length_map, List.length_range]
theorem alK_succ (k : Nat) : alK (k + 1) = alK k ++ [(k : Int)] := by unfold alK; rw [List.range_succ, List.map_append]; rfl
theorem vals_app (xs : List (BitVec 64)) (x : BitVec 64) : vals (xs ++ [x]) = vals xs ++ [.int .u64 (ui x)] := by simp [vals]
theorem bools_app (xs : List Bool) (x : Bool) : bools (xs ++ [x]) = bools xs ++ [.bool x] := by simp [bools]
theorem ints_app (xs : List Int) (x : Int) : ints (xs ++ [x]) = ints xs ++ [.int .i64 x] := by simp [ints]
theorem own_lit {w : World} {base n : Nat} {e : TypeId} {v : Value} {us : List Value} (h : w.ownsRow base e 1 v n us) : ∃ ao cap, v = .slice ao n cap := by
  obtain ⟨ao, cap, hv⟩ := slV_len (SlV.of_owns h)
  rw [h.1, Nat.mul_one] at hv
  exact ⟨ao, cap, hv⟩
/-- the first items are laid -/
def K1 (N0 B3 b0 o0 : Nat) (ws : List (BitVec 64)) (w0 w : World) (T : BitVec 64) (vh vd : Value) (k : Nat) : Prop :=
  ∃ vb va, RB N0 B3 b0 o0 ws w0 w T vh vd vb va (hsK ws k) (List.replicate k false) (List.replicate k T) (alK k)
/-- some columns are done -/
structure K2 (N0 B3 b0 o0 gh gd gb ga ch cd cb ca : Nat) (ws : List (BitVec 64)) (w0 w : World) (T : BitVec 64) (s : Sta) : Prop where
  rb : RB N0 B3 b0 o0 ws w0 w T (.slice (some ⟨gh, 0, none⟩) ws.length ch) (.slice (some ⟨gd, 0, none⟩) ws.length cd) (.slice (some ⟨gb, 0, none⟩) ws.length cb) (.slice (some ⟨ga, 0, none⟩) ws.length ca) s.has s.done s.bel s.ali
  inv : Inv T ws s
  run : runA T (cntS s) s = fin ws
theorem k2_start {N0 B3 b0 o0 : Nat} {ws : List (BitVec 64)} {w0 w : World} {T : BitVec 64} {vh vd : Value} (h : K1 N0 B3 b0 o0 ws w0 w T vh vd ws.length) (hok : OkW ws) (hT : tS ws ws.length = T) :
    ∃ gh gd gb ga ch cd cb ca, vh = .slice (some ⟨gh, 0, none⟩) ws.length ch ∧ vd = .slice (some ⟨gd, 0, none⟩) ws.length cd ∧ K2 N0 B3 b0 o0 gh gd gb ga ch cd cb ca ws w0 w T (st0 ws T) := by
  obtain ⟨vb, va, h⟩ := h
  have hn := hok.n1
  have oh := h.oh
  have od := h.od
  have ob := h.ob
  have oa := h.oa
  rw [hsK_len _ _ (Nat.le_refl _)] at oh
  rw [List.length_replicate] at od ob
  rw [alK_len] at oa
  obtain ⟨gh, ch, rfl, _⟩ := oh.form (by omega)
  obtain ⟨gd, cd, rfl, _⟩ := od.form (by omega)
  obtain ⟨gb, cb, rfl, _⟩ := ob.form (by omega)
  obtain ⟨ga, ca, rfl, _⟩ := oa.form (by omega)
  obtain ⟨i1, i2⟩ := l2_start hok hT
  have e : hsK ws ws.length = (st0 ws T).has := by unfold hsK st0; rw [List.take_length]
  rw [e] at h
  exact ⟨gh, gd, gb, ga, ch, cd, cb, ca, rfl, rfl, h, i1, i2⟩
theorem RB.end_ {N0 B3 b0 o0 : Nat} {ws : List (BitVec 64)} {w0 w : World} {T : BitVec 64} {vh vd vb va : Value} {hs bp : List (BitVec 64)} {ds : List Bool} {al : List Int} (h : RB N0 B3 b0 o0 ws w0 w T vh vd vb va hs ds bp al) (x y z : Value) :
    SlV (((w.setCell ⟨N0, 0, none⟩ x).setCell ⟨N0, 1, none⟩ y).setCell ⟨N0, 2, none⟩ z) vb (vals bp) ∧ SlV (((w.setCell ⟨N0, 0, none⟩ x).setCell ⟨N0, 1, none⟩ y).setCell ⟨N0, 2, none⟩ z) va (ints al) ∧ Below w0.heap.size w0 (((w.setCell ⟨N0, 0, none⟩ x).setCell ⟨N0, 1, none⟩ y).setCell ⟨N0, 2, none⟩ z) := by
  have r1 := h.rv.set_ 0 x
  have r2 := r1.set_ 1 y
  exact ⟨SlV.of_owns (own_setT (own_setT (own_setT h.ob h.rv (by decide) 0 x) r1 (by decide) 1 y) r2 (by decide) 2 z), SlV.of_owns (own_setT (own_setT (own_setT h.oa h.rv (by decide) 0 x) r1 (by decide) 1 y) r2 (by decide) 2 z), ((h.bel.setCell (p := ⟨N0, 0, none⟩) h.g0 _).setCell (p := ⟨N0, 1, none⟩) h.g0 _).setCell (p := ⟨N0, 2, none⟩) h.g0 _⟩
set_option maxRecDepth 100000 in
set_option maxHeartbeats 2000000 in
theorem rbuild_ok (ws : List (BitVec 64)) (b0 o0 cap : Nat) (w : World) (hc : SlC w b0 o0 (vals ws)) (hok : OkW ws) :
    Calls Try.prog 17 #[.slice (some ⟨b0, o0, none⟩) ws.length cap] w (RTab w (tS ws ws.length) (fin ws).bel (fin ws).ali) := by
  obtain ⟨i0, hi, hz0, hz1, hz2⟩ := info_parts sh_info_u64
  obtain ⟨i1, hj, hy0, hy1, hy2⟩ := info_parts info_bool
  obtain ⟨i2, hk, hx0, hx1, hx2⟩ := info_parts info_int
  have hn2 := hok.n2
  have hlt0 := hc.lt (by rw [vals_length]; exact hok.n1)
  have ht := total_any ws b0 o0 cap (w.alloc (.cells #[.int .u64 0, .slice none 0 0, .slice none 0 0] 27)) (hc.below (below_new _ _)) hn2
  obtain ⟨T, hT⟩ : ∃ T, tS ws ws.length = T := ⟨_, rfl⟩
  rw [hT] at ht ⊢
  have HT := Lib.hid hT
  have HC := Lib.hid hc
  have HO := Lib.hid hok
  clear hT hc hok
  go_enter Try.func17, Try.ntmps17
  go_wp2_with fail
  refine ht.mono ?_
  rintro e w' ⟨rfl, rfl⟩
  clear ht
  go_wp2_with fail
  go_loopw [4, 5, 15] (fun vh vd i wr => ∃ k : Nat, k ≤ ws.length ∧ i = .int .i64 k ∧ K1 w.heap.size (w.heap.size + 1) b0 o0 ws w wr T vh vd k) (fun _ _ i _ => ws.length - (intOf i).toNat)
  case atStart =>
    refine ⟨0, by omega, rfl, .slice none 0 0, .slice none 0 0, ?_⟩
    refine ⟨((below_new w _).alloc (by rw [size_alloc]; omega) _), (Blk.new w _ _).alloc _, blk_at (size_alloc _ _).symm, World.ownsRow_nil _ _ _ _, World.ownsRow_nil _ _ _ _, World.ownsRow_nil _ _ _ _, World.ownsRow_nil _ _ _ _, fun q hq => by simp [Value.ownBlock] at hq, (HC.out.below (below_new _ _)).below (below_new _ _), hlt0, Nat.le_refl _, by omega, by omega⟩
  case round =>
    obtain ⟨k, hkn, rfl, vb, va, hrb⟩ := hrel
    by_cases hlt : k < ws.length
    · have hlt' : (k : Int) < (ws.length : Int) := by omega
      have hk' : (0 : Int) ≤ (k : Int) := by omega
      have c1 := hrb.sc k _ (vals_get ws k hlt)
      have hl1 := hsK_len ws k hkn
      have hl4 := alK_len k
      have hl1' : (hsK ws k).length ≤ 256 := by omega
      have hl4' : (alK k).length ≤ 256 := by omega
      have hl2' : (List.replicate k false).length ≤ 256 := by rw [List.length_replicate]; omega
      have hl3' : (List.replicate k T).length ≤ 256 := by rw [List.length_replicate]; omega
      obtain ⟨d0, d1, d2⟩ := tab_cells hrb.tv
      have hS1 := hsK_succ ws k hlt
      generalize ws[k] = x at *
      have HS := Lib.hid hS1
      have HB := Lib.hid hrb
      clear hrb hl1 hl4 hS1
      go_wp2_with (at_builtin; refine wpList_append_own_at _ rfl _ _ 22 rfl w.heap.size 24 i0 (.int .u64 0) 1 8 Try.underlying22 hi hz0 hz1 hz2 rfl (by decide) _ _ _ rfl (HB.out.oh.alloc _) ⟨wr.heap.size, 0, none⟩ 1 1 [.int .u64 (ui (BitVec.ofNat 64 ws.length * x))] rfl rfl ?a1 ?a2 ?a3 ?a4 ?a5 ?_)
      case a1 => exact cell_one_new _ _ _
      case a2 => intro u hu; simp at hu; subst hu; rfl
      case a3 => unfold maxLen; omega
      case a4 => omega
      case a5 => have := HB.out.bel.size; simp; omega
      intro v1 w1 hown hgrow _ hat
      have HB1 := Lib.hid ((HB.out.alloc _).gH hgrow (hs' := hsK ws k ++ [BitVec.ofNat 64 ws.length * x]) (by rw [vals_app, List.length_append]; exact hown) (by rw [size_alloc]; exact hat))
      clear hown hgrow hat HB c1 d0 d1 d2
      obtain ⟨d0, d1, d2⟩ := tab_cells HB1.out.tv
      go_wp2_with (at_builtin; refine wpList_append_own_at _ rfl _ _ 85 rfl w.heap.size 4 i1 (.bool false) 1 1 Try.underlying85 hj hy0 hy1 hy2 rfl (by decide) _ _ _ rfl (HB1.out.od.alloc _) ⟨w1.heap.size, 0, none⟩ 1 1 [.bool false] rfl rfl ?b1 ?b2 ?b3 ?b4 ?b5 ?_)
      case b1 => exact cell_one_new _ _ _
      case b2 => intro u hu; simp at hu; subst hu; rfl
      case b3 => unfold maxLen; omega
      case b4 => omega
      case b5 => have := HB1.out.bel.size; simp; omega
      intro v2 w2 hown hgrow _ hat
      have HB2 := Lib.hid ((HB1.out.alloc _).gD hgrow (ds' := List.replicate k false ++ [false]) (by rw [bools_app, List.length_append, List.length_replicate]; exact hown))
      clear hown hgrow hat HB1 d0 d1 d2
      obtain ⟨d0, d1, d2⟩ := tab_cells HB2.out.tv
      go_wp2_with (at_builtin; refine wpList_append_own_at _ rfl _ _ 22 rfl w.heap.size 24 i0 (.int .u64 0) 1 8 Try.underlying22 hi hz0 hz1 hz2 rfl (by decide) _ _ _ rfl (HB2.out.ob.alloc _) ⟨w2.heap.size, 0, none⟩ 1 1 [.int .u64 (ui T)] rfl rfl ?c1 ?c2 ?c3 ?c4 ?c5 ?_)
      case c1 => exact cell_one_new _ _ _
      case c2 => intro u hu; simp at hu; subst hu; rfl
      case c3 => unfold maxLen; omega
      case c4 => omega
      case c5 => have := HB2.out.bel.size; simp; omega
      intro v3 w3 hown hgrow _ hat
      have HB3 := Lib.hid ((HB2.out.alloc _).gB hgrow (bp' := List.replicate k T ++ [T]) (by rw [vals_app, List.length_append, List.length_replicate]; exact hown) (by rw [size_alloc]; exact hat))
      have t3 := (HB2.out.alloc (.cells #[.int .u64 (ui T)] 24)).tv.grown hgrow (own_blk_ne (HB2.out.ob.alloc (.cells #[.int .u64 (ui T)] 24)) (HB2.out.tv.alloc (.cells #[.int .u64 (ui T)] 24)) (by decide)).symm
      obtain ⟨ao3, cap3, rfl⟩ := own_lit hown
      clear hown hgrow hat HB2 d0 d1 d2
      obtain ⟨d0, d1, d2⟩ := tab_cells t3
      have f1 := t3.frozen 1
      go_wp2_with (at_builtin; refine wpList_append_own_at _ rfl _ _ 25 rfl w.heap.size 3 i2 (.int .i64 0) 1 8 Try.underlying25 hk hx0 hx1 hx2 rfl (by decide) _ _ _ rfl (HB3.out.oa.alloc _) ⟨w3.heap.size, 0, none⟩ 1 1 [.int .i64 (k : Int)] rfl rfl ?e1 ?e2 ?e3 ?e4 ?e5 ?_)
      case e1 =>
        have h := cell_one_new (w3.setCell ⟨w.heap.size + 1, 1, none⟩ (.slice ao3 (k + 1) cap3)) (.int .i64 (k : Int)) 3
        rw [size_setCell] at h
        exact h
      case e2 => intro u hu; simp at hu; subst hu; rfl
      case e3 => unfold maxLen; omega
      case e4 => omega
      case e5 => have := HB3.out.bel.size; simp at this ⊢; omega
      intro v4 w4 hown hgrow _ hat
      have HB4 := Lib.hid ((HB3.out.alloc _).gA hgrow (al' := alK k ++ [(k : Int)]) (by rw [ints_app, List.length_append]; exact hown))
      have t4 := (HB3.out.alloc (.cells #[.int .i64 (k : Int)] 3)).tv.grown hgrow (own_blk_ne (HB3.out.oa.alloc (.cells #[.int .i64 (k : Int)] 3)) (HB3.out.tv.alloc (.cells #[.int .i64 (k : Int)] 3)) (by decide)).symm
      obtain ⟨ao4, cap4, rfl⟩ := own_lit hown
      clear hown hgrow hat HB3 d0 d1 d2 f1 t3
      obtain ⟨d0, d1, d2⟩ := tab_cells t4
      have f1 := t4.frozen 2
      clear t4
      go_wp2_with fail
      go_roundw
      case rel =>
        refine ⟨k + 1, by omega, by go_num, .slice ao3 (k + 1) cap3, .slice ao4 ((alK k).length + 1) cap4, ?_⟩
        rw [HS.out, alK_succ, List.replicate_succ', List.replicate_succ']
        exact HB4.out
      case measure => simp [intOf]; omega
    · have hk2 : k = ws.length := by omega
      subst hk2
      clear hlt
      obtain ⟨gh, gd, gb, ga, ch, cd, cb, ca, rfl, rfl, hk2⟩ := k2_start ⟨vb, va, hrb⟩ HO.out HT.out
      have HK := Lib.hid hk2
      clear hk2 hrb
      go_wp2_with fail
      go_loopg [8] (cntS (st0 ws T)) (fun gk a wr => ∃ s, gk = cntS s ∧ K2 w.heap.size (w.heap.size + 1) b0 o0 gh gd gb ga ch cd cb ca ws w wr T s)
      case atStart => exact ⟨st0 ws T, rfl, HK.out⟩
      case round =>
        obtain ⟨s, rfl, hk2⟩ := hrel
        clear HK
        have l1 := hk2.inv.lh
        have l2 := hk2.inv.ld
        have l3 := hk2.inv.lb
        have l4 := hk2.inv.la
        have HK := Lib.hid hk2
        obtain ⟨t0, t1, t2⟩ := tab_cells hk2.rb.tv
        clear hk2
        have hH := own_vals HK.out.rb.oh l1
        have hD := own_bools HK.out.rb.od l2
        rcases hfl : fidx (ltP T) s.has s.done with _ | j
        · have hc1 := find_lt T s.has s.done ws.length gh gd ch cd _ hH hD l1 hn2
          rw [hfl, show posI none = -1 from rfl] at hc1
          have hfin : s = fin ws := by rw [← HK.out.run, runA_done _ hfl]
          subst hfin
          clear hH hD hfl
          go_wp2_with fail
          refine hc1.mono ?_
          rintro e w' ⟨rfl, rfl⟩
          clear hc1
          have r0 := HK.out.rb.rv.cell 0
          have f0 := HK.out.rb.rv.frozen 0
          have f1 := HK.out.rb.rv.frozen 1
          have f2 := HK.out.rb.rv.frozen 2
          have r1 := HK.out.rb.rv.cell 1
          have r2 := HK.out.rb.rv.cell 2
          go_wp2_with fail
          refine bodyPost_ret (v := .agg #[.int .u64 (ui T), .slice (some ⟨gb, 0, none⟩) ws.length cb, .slice (some ⟨ga, 0, none⟩) ws.length ca]) (by simp [results, Try.results17, go_sem, r0, r1, r2]) rfl ?_
          obtain ⟨z1, z2, z3⟩ := HK.out.rb.end_ (.int .u64 (ui T)) (.slice (some ⟨gb, 0, none⟩) ws.length cb) (.slice (some ⟨ga, 0, none⟩) ws.length ca)
          exact ⟨_, _, rfl, z1, z2, z3⟩
        · have hc1 := find_lt T s.has s.done ws.length gh gd ch cd _ hH hD l1 hn2
          have hc2 := find_gt T s.has s.done ws.length gh gd ch cd _ hH hD l1 hn2
          obtain ⟨g, hfg⟩ := inv_gt HK.out.inv hfl
          rw [hfl, show posI (some j) = (j : Int) from rfl] at hc1
          rw [hfg, show posI (some g) = (g : Int) from rfl] at hc2
          obtain ⟨j1, g1, jg, hinv, hcnt⟩ := inv_step HK.out.inv hfl hfg
          have hrun : runA T (cntS (nxt T s j g)) (nxt T s j g) = fin ws := by rw [← HK.out.run, hcnt, runA_next _ _ _ hfl hfg]
          have HI := Lib.hid (And.intro hinv hrun)
          clear hH hD hfl hfg hinv hrun
          go_wp2_with fail
          refine hc1.mono ?_
          rintro e w' ⟨rfl, rfl⟩
          have hj0 : ¬ (j : Int) < 0 := by omega
          go_wp2_with fail
          refine hc2.mono ?_
          rintro e w' ⟨rfl, rfl⟩
          clear hc1 hc2
          have hjn : (j : Int) < (ws.length : Int) := by omega
          have hgn : (g : Int) < (ws.length : Int) := by omega
          have hj1 : (0 : Int) ≤ (j : Int) := by omega
          have hg1 : (0 : Int) ≤ (g : Int) := by omega
          have e1 := own_vals HK.out.rb.oh l1 j j1
          have e3 := own_vals HK.out.rb.ob l3 j j1
          have f3 := own_frozen HK.out.rb.ob l3 j
          obtain ⟨xj, hxj⟩ : ∃ x, s.has.getD j 0#64 = x := ⟨_, rfl⟩
          obtain ⟨xg, hxg⟩ : ∃ x, s.has.getD g 0#64 = x := ⟨_, rfl⟩
          have hnx : nxt T s j g = ⟨s.has.set g (xg - (T - xj)), s.done.set j true, s.bel.set j xj, s.ali.set j (g : Int)⟩ := by unfold nxt; rw [hxj, hxg]
          rw [hxj] at e1
          have HX := Lib.hid (And.intro hxj (And.intro hxg hnx))
          clear hxj hxg hnx
          have HM1 := Lib.hid ((HK.out.rb.sB l3 j xj).drew)
          go_wp2_with fail
          go_cut [] (fun wx => RB w.heap.size (w.heap.size + 1) b0 o0 ws w wx T (.slice (some ⟨gh, 0, none⟩) ws.length ch) (.slice (some ⟨gd, 0, none⟩) ws.length cd) (.slice (some ⟨gb, 0, none⟩) ws.length cb) (.slice (some ⟨ga, 0, none⟩) ws.length ca) s.has s.done (s.bel.set j xj) s.ali)
          case first =>
            go_region
            all_goals go_step
            all_goals (rename_i hJ hK; refine hK _ _ (Met.intro (hJ _ _ ?_)); (repeat apply Exists.intro); refine ⟨?_, rfl⟩)
            all_goals exact HM1.out
          case rest =>
            have HM2 := Lib.hid hcut
            clear hcut HM1 t0 t1 t2 e1 e3 f3
            have HM3 := Lib.hid ((HM2.out.sA l4 j (g : Int)).sD l2 j true)
            obtain ⟨t0, t1, t2⟩ := tab_cells HM2.out.tv
            have e4 := own_ints HM2.out.oa l4 j j1
            have e5 := own_bools HM2.out.od l2 j j1
            have f4 := own_frozen HM2.out.oa l4 j
            have f5 := own_frozen HM2.out.od l2 j
            have q1 : gd ≠ ga := by
              have := own_own_ne HM2.out.od HM2.out.oa (by decide)
              simpa [Value.ownBlock] using this
            have e1 := own_vals HM2.out.oh l1 j j1
            have e2 := own_vals HM2.out.oh l1 g g1
            rw [HX.out.1] at e1
            rw [HX.out.2.1] at e2
            have q2 : gh ≠ ga := by
              have := own_own_ne HM2.out.oh HM2.out.oa (by decide)
              simpa [Value.ownBlock] using this
            have q3 : gh ≠ gd := by
              have := own_own_ne HM2.out.oh HM2.out.od (by decide)
              simpa [Value.ownBlock] using this
            have q4 : w.heap.size + 1 ≠ ga := by
              have := own_blk_ne HM2.out.oa HM2.out.tv (by decide)
              exact fun e => this (by rw [e]; rfl)
            have q5 : w.heap.size + 1 ≠ gd := by
              have := own_blk_ne HM2.out.od HM2.out.tv (by decide)
              exact fun e => this (by rw [e]; rfl)
            have f6 := own_frozen HM2.out.oh l1 g
            have HM4 := Lib.hid ((HM3.out.sH l1 g (xg - (T - xj))).drew)
            clear HM3
            go_wp2_with fail
            go_region
            go_wp2_with fail
            go_roundg (cntS (nxt T s j g))
            case rel =>
              refine ⟨nxt T s j g, rfl, ?_, HI.out.1, HI.out.2⟩
              rw [HX.out.2.2]
              exact HM4.out
            case measure => omega
end Go.Proofs.Ytodflmngbkiemaa
