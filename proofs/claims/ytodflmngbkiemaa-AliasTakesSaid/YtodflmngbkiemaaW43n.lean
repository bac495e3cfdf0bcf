/- A tape's next word, and a draw from it, with all other blocks kept. No condition but on lengths. -/
import Derived.Test.YtodflmngbkiemaaL43c
import Derived.Maps.AppendAt
namespace Go.Proofs.Ytodflmngbkiemaa
open Go.RowKit
/-- all blocks are kept but the tape's -/
def KA (B : Nat) (w w' : World) (tv tv' : Value) : Prop := ∀ b t cs, Blk w b t cs → b ≠ B → tv.ownBlock ≠ some b → Blk w' b t cs ∧ tv'.ownBlock ≠ some b
theorem next_all (B : Nat) (xs : List (BitVec 64)) (k : Nat) (wv tv : Value) (w : World) (h : TapeAt w B xs k wv tv) (hk : k < xs.length) :
    Calls Try.prog 57 #[.pointer (some ⟨B, 0, none⟩)] w fun e w' => ∃ tv', e = .returned (.tuple #[.int .u64 (ui xs[k]), .int .i64 0]) ∧ TapeAt w' B xs (k + 1) wv tv' ∧ KA B w w' tv tv' ∧ Below B w w' := by
  have c6 := h.blk.cell 6
  have e6 : (tapeC wv tv (xs.length - k))[6]? = some (.int .i64 ((xs.length - k : Nat) : Int)) := rfl
  rw [e6] at c6
  have c8 := h.blk.cell 8
  have e8 : (tapeC wv tv (xs.length - k))[8]? = some nextV := rfl
  rw [e8] at c8
  have hl0 : (((xs.length - k : Nat) : Int) == 0) = false := by rw [beq_eq_false_iff_ne]; omega
  have f6 := h.blk.frozen 6
  have f7 := h.blk.frozen 7
  have hfew := h.few
  unfold nextV at c8
  clear e6 e8
  go_enter Try.func57, Try.ntmps57
  go_wp2_with fail
  refine (ok_any B xs _ _ _ w h).mono ?_
  rintro e w' ⟨rfl, rfl⟩
  go_wp2_with fail
  refine (tclos_any B xs k _ _ w h hk).mono ?_
  rintro e w' ⟨rfl, nq, rfl⟩
  have hS : ∀ b t cs, Blk w b t cs → Blk (w.drewN nq) b t cs := fun b t cs hb => hb
  have hB : Below B w (w.drewN nq) := below_drewN (Below.refl _ _) _
  have h2 : TapeAt (w.drewN nq) B xs k wv tv := ⟨h.blk, h.words, h.taken, h.le, h.few⟩
  have HS := Lib.hid hS
  clear h hS c6 c8 f6 f7
  generalize w.drewN nq = w2 at *
  have c6 := h2.blk.cell 6
  have e6 : (tapeC wv tv (xs.length - k))[6]? = some (.int .i64 ((xs.length - k : Nat) : Int)) := rfl
  rw [e6] at c6
  have c7 := h2.blk.cell 7
  have e7 : (tapeC wv tv (xs.length - k))[7]? = some tv := rfl
  rw [e7] at c7
  have f6 := h2.blk.frozen 6
  have f7 := h2.blk.frozen 7
  have hlt := h2.blk.lt
  have hown := ownsRow_setCell_below h2.taken (a := ⟨B, 6, none⟩) (by simp) (.int .i64 (((xs.length - k : Nat) : Int) - 1))
  have hb6 := h2.blk.set_ 6 (.int .i64 (((xs.length - k : Nat) : Int) - 1))
  obtain ⟨i0, hi, hz0, hz1, hz2⟩ := info_parts sh_info_u64
  have H2 := Lib.hid h2
  have HB6 := Lib.hid hb6
  have H0 := Lib.hid hl0
  clear e6 e7 h2 hb6 hl0
  go_wp2_with (at_builtin; refine wpList_append_own_at _ rfl _ _ 22 rfl (B + 1) 24 i0 (.int .u64 0) 1 8 Try.underlying22 hi hz0 hz1 hz2 rfl (by decide) _ _ _ rfl (hown.alloc _) ⟨w2.heap.size, 0, none⟩ 1 1 [.int .u64 (ui xs[k])] rfl rfl ?c1 ?c2 ?c3 ?c4 ?c5 ?_)
  case c2 => intro u hu; simp at hu; subst hu; rfl
  case c3 => unfold maxLen; omega
  case c4 => omega
  case c5 => simp; omega
  case c1 =>
    have h := cell_one_new (w2.setCell ⟨B, 6, none⟩ (.int .i64 (((xs.length - k : Nat) : Int) - 1))) (.int .u64 (ui xs[k])) 24
    rw [size_setCell] at h
    exact h
  intro tv' w4 hown' hgrow _ hat
  obtain ⟨ao, cap, htv⟩ := slV_len (SlV.of_owns hown')
  rw [hown'.1, Nat.mul_one] at htv
  subst htv
  have hne := own_blk_ne (hown.alloc (.cells #[.int .u64 (ui xs[k])] 24)) (HB6.out.alloc _) (by decide)
  have hb4 := (HB6.out.alloc (.cells #[.int .u64 (ui xs[k])] 24)).grown hgrow (fun e => hne e.symm)
  have hb5 := hb4.set_ 7 (.slice ao (k + 1) cap)
  have c7 := hb4.cell 7
  have e7 : ((tapeC wv tv (xs.length - k)).setIfInBounds 6 (.int .i64 (((xs.length - k : Nat) : Int) - 1)))[7]? = some tv := rfl
  rw [e7] at c7
  have f7 := hb4.frozen 7
  have hlt4 := hb4.lt
  have hB24 : Below B w2 w4 := (((Below.refl B w2).setCell (p := ⟨B, 6, none⟩) (Nat.le_refl _) _).alloc (by rw [size_setCell]; omega) _).grown hgrow (by simp; omega) (fun q hq => by have := (hown.lt q hq).1; omega)
  have hB4 := hB.trans hB24
  have hown5 := ownsRow_setCell_below hown' (a := ⟨B, 7, none⟩) (by simp) (.slice ao (k + 1) cap)
  have hK4 : ∀ b t cs, Blk w b t cs → b ≠ B → tv.ownBlock ≠ some b → Blk w4 b t cs ∧ (Value.slice ao (k + 1) cap).ownBlock ≠ some b := by
    intro b t cs hb hbB htb
    have hbl := (HS.out b t cs hb).lt
    have h1 := ((HS.out b t cs hb).far (p := ⟨B, 6, none⟩) hbB (.int .i64 (((xs.length - k : Nat) : Int) - 1))).alloc (.cells #[.int .u64 (ui xs[k])] 24)
    refine ⟨h1.grown hgrow (fun e => htb e.symm), ?_⟩
    rcases hat with e | e
    · rw [e]; exact htb
    · rw [e]
      intro e2
      injection e2 with e2
      omega
  have HOWN := Lib.hid hown5
  have HB5 := Lib.hid hb5
  have HK := Lib.hid hK4
  clear hown' hgrow hne hb4 hb5 e7 hown5 hK4 hown c6 f6 hat
  go_wp2_with fail
  go_ret2
  have hw := H2.out
  refine ⟨.slice ao (k + 1) cap, rfl, ⟨?_, hw.words.below (hB24.setCell (Nat.le_refl _) _), ?_, hk, hfew⟩, ?_, hB4.setCell (Nat.le_refl _) _⟩
  · have h := HB5.out
    have e : ((tapeC wv tv (xs.length - k)).setIfInBounds 6 (.int .i64 (((xs.length - k : Nat) : Int) - 1))).setIfInBounds 7 (.slice ao (k + 1) cap) = tapeC wv (.slice ao (k + 1) cap) (xs.length - (k + 1)) := by
      have e1 : (((xs.length - k : Nat) : Int) - 1) = ((xs.length - (k + 1) : Nat) : Int) := by omega
      rw [e1]; rfl
    rw [e] at h
    exact h
  · have h := HOWN.out
    rw [← vals_snoc] at h
    rw [List.take_succ_eq_append_getElem hk]
    exact h
  · intro b t cs hb hbB htb
    obtain ⟨k1, k2⟩ := HK.out b t cs hb hbB htb
    exact ⟨k1.far (p := ⟨B, 7, none⟩) hbB _, k2⟩
theorem KA.trans {B : Nat} {w w1 w2 : World} {tv tv1 tv2 : Value} (h : KA B w w1 tv tv1) (h2 : KA B w1 w2 tv1 tv2) : KA B w w2 tv tv2 := by
  intro b t cs hb hB ht
  obtain ⟨k1, k2⟩ := h b t cs hb hB ht
  exact h2 b t cs k1 hB k2
theorem ka_set {B : Nat} {w wr w1 : World} {tv tvi tv' : Value} (h : KA B w wr tv tvi) (h2 : KA B wr w1 tvi tv') (_hB : B < w.heap.size) (x : Value) (_hs : w.heap.size ≤ wr.heap.size) : KA B w (w1.setCell ⟨w.heap.size + 1, 2, none⟩ x) tv tv' := by
  intro b t cs hb hbB ht
  obtain ⟨k1, k2⟩ := h.trans h2 b t cs hb hbB ht
  have := hb.lt
  exact ⟨k1.far (p := ⟨w.heap.size + 1, 2, none⟩) (by show b ≠ w.heap.size + 1; omega) _, k2⟩
theorem ka_below {B : Nat} {w w1 w2 : World} {tv tv' : Value} (h : KA B w w1 tv tv') (hb : Below w1.heap.size w1 w2) : KA B w w2 tv tv' := by
  intro b t cs hk hbB ht
  obtain ⟨k1, k2⟩ := h b t cs hk hbB ht
  exact ⟨k1.belowS hb, k2⟩
theorem ka_five {B : Nat} {w w1 : World} {tv tv' : Value} (h : KA B w w1 tv tv') (x0 x1 x2 x3 x4 : Value) : KA B w (((((w1.setCell ⟨w.heap.size + 1, 0, none⟩ x0).setCell ⟨w.heap.size + 1, 1, none⟩ x1).setCell ⟨w.heap.size, 0, none⟩ x2).setCell ⟨w.heap.size, 1, none⟩ x3).setCell ⟨w.heap.size, 2, none⟩ x4) tv tv' := by
  intro b t cs hk hbB ht
  obtain ⟨k1, k2⟩ := h b t cs hk hbB ht
  have := hk.lt
  exact ⟨((((k1.far (p := ⟨w.heap.size + 1, 0, none⟩) (by show b ≠ w.heap.size + 1; omega) _).far (p := ⟨w.heap.size + 1, 1, none⟩) (by show b ≠ w.heap.size + 1; omega) _).far (p := ⟨w.heap.size, 0, none⟩) (by show b ≠ w.heap.size; omega) _).far (p := ⟨w.heap.size, 1, none⟩) (by show b ≠ w.heap.size; omega) _).far (p := ⟨w.heap.size, 2, none⟩) (by show b ≠ w.heap.size; omega) _, k2⟩
/-- what stands at a round's head: u words came -/
structure TakeRel2 (B : Nat) (xs : List (BitVec 64)) (i u : Nat) (wv tv : Value) (w wr : World) : Prop where
  tape : ∃ tvi, TapeAt wr B xs i wv tvi ∧ KA B w wr tv tvi
  res : Blk wr w.heap.size 57 #[.int .u64 0, .int .u64 0, .int .i64 0]
  used : Blk wr (w.heap.size + 1) 57 #[.int .u64 0, .int .u64 0, .int .i64 u]
  bel : Below B w wr
theorem take_start2 (B : Nat) (xs : List (BitVec 64)) (k : Nat) (wv tv : Value) (w : World) (h : TapeAt w B xs k wv tv) :
    TakeRel2 B xs k 0 wv tv w ((w.alloc (.cells #[.int .u64 0, .int .u64 0, .int .i64 0] 57)).alloc (.cells #[.int .u64 0, .int .u64 0, .int .i64 0] 57)) := by
  obtain ⟨_, h2, h3, h4⟩ := take_start B xs k wv tv w h
  exact ⟨⟨tv, (h.alloc _).alloc _, fun b t cs hb _ ht => ⟨(hb.alloc _).alloc _, ht⟩⟩, h2, h3, h4⟩
/-- a word came -/
theorem take_next2 {B : Nat} {xs : List (BitVec 64)} {i u : Nat} {wv tv tvi tv' : Value} {w wr w1 : World} (hr : TakeRel2 B xs i u wv tv w wr) (hti : TapeAt wr B xs i wv tvi) (hka : KA B w wr tv tvi) (hB : B < w.heap.size) (h : TapeAt w1 B xs (i + 1) wv tv') (hK : KA B wr w1 tvi tv') (hb : Below B wr w1) :
    TakeRel2 B xs (i + 1) (u + 1) wv tv w (w1.setCell ⟨w.heap.size + 1, 2, none⟩ (.int .i64 ((u : Int) + 1))) := by
  have h1 := (hK _ _ _ hr.res (by omega) (own_blk_ne hti.taken hr.res (by decide))).1
  have h2 := (hK _ _ _ hr.used (by omega) (own_blk_ne hti.taken hr.used (by decide))).1
  have hlt := hr.bel.size
  exact ⟨⟨_, h.set h2 (by decide) (by omega) _, ka_set hka hK hB _ hlt⟩, h1.far (p := ⟨w.heap.size + 1, 2, none⟩) (by simp) _, h2.set_ 2 _, (hr.bel.trans hb).setCell (by simp; omega) _⟩
theorem take_found2 (B : Nat) (xs : List (BitVec 64)) (k j : Nat) (wv tv : Value) (n : BitVec 64) (hn : (n == 0#64) = false) (w : World) (h : TapeAt w B xs k wv tv) (hkj : k ≤ j) (hj : j < xs.length) (ht : takesL xs[j] n = true) (hno : ∀ i, k ≤ i → (hi : i < j) → takesL (xs[i]'(by omega)) n = false) :
    Calls Try.prog 31 #[.pointer (some ⟨B, 0, none⟩), .int .u64 (ui n)] w fun e w' => ∃ tv', e = .returned (.tuple #[.agg #[.int .u64 (ui (mulHi xs[j] n)), .int .u64 (ui (rankL xs[j] n)), .int .i64 ((j - k + 1 : Nat) : Int)], .int .i64 0]) ∧ TapeAt w' B xs (j + 1) wv tv' ∧ KA B w w' tv tv' ∧ Below B w w' := by
  obtain ⟨c, hc⟩ : ∃ c : Nat, c = j - k + 1 := ⟨_, rfl⟩
  rw [← hc]
  have HC := Lib.hid hc
  clear hc
  have hfew := h.few
  have hBlt := h.blk.lt
  have HS := Lib.hid (take_start2 B xs k wv tv w h)
  have HNO := Lib.hid hno
  clear hno h
  go_enter Try.func31, Try.ntmps31
  go_wp2_with fail
  go_step3
  go_wp2_with fail
  go_step3
  go_wp2_with fail
  go_loopg [7] (j + 1 - k) (fun gk _ wr => ∃ i u : Nat, gk = j + 1 - i ∧ k ≤ i ∧ i ≤ j ∧ RowKit.Hid (u = i - k) ∧ u ≤ 1000 ∧ RowKit.Hid (TakeRel2 B xs i u wv tv w wr))
  case atStart => exact ⟨k, 0, rfl, by omega, hkj, (Nat.sub_self k).symm, by omega, HS.out⟩
  case round =>
    obtain ⟨i, u, rfl, hki, hij, hu, hu1, HR⟩ := hrel
    obtain ⟨tvi, hti, hka⟩ := HR.out.tape
    have hnext := next_all B xs i wv tvi wr hti (by omega)
    have HG := Lib.hid (And.intro hti hka)
    have hui : u = i - k := hu
    have hu9 : (u : Int) < 1000 := by omega
    clear hti hui hka
    by_cases hlt : i < j
    · have hf := HNO.out i hki hlt
      go_wp2_with fail
      refine hnext.mono ?_
      rintro e w1 ⟨tv', rfl, h1, h2, h3⟩
      have hN := take_next2 HR.out HG.out.1 HG.out.2 (by omega) h1 h2 h3
      have hd := (h2 _ _ _ HR.out.used (by omega) (own_blk_ne HG.out.1.taken HR.out.used (by decide))).1
      have d2 := hd.cell 2
      have f2 := hd.frozen 2
      rw [show (#[Value.int .u64 0, .int .u64 0, .int .i64 (u : Int)] : Array Value)[2]? = some (.int .i64 (u : Int)) from rfl] at d2
      have HN := Lib.hid hN
      clear hnext h1 h2 h3 hN hd HG
      go_wp2_with fail
      refine (takes_any _ _ _).mono ?_
      rintro e w' ⟨rfl, rfl⟩
      go_wp2_with fail
      go_roundg (j + 1 - (i + 1))
      case measure => omega
      case rel => exact ⟨i + 1, u + 1, rfl, by omega, by omega, (show u + 1 = i + 1 - k by have := (show u = i - k from hu); omega), by omega, HN.out⟩
    · obtain rfl : i = j := by omega
      go_wp2_with fail
      refine hnext.mono ?_
      rintro e w1 ⟨tv', rfl, h1, h2, h3⟩
      have hN := take_next2 HR.out HG.out.1 HG.out.2 (by omega) h1 h2 h3
      have hd := (h2 _ _ _ HR.out.used (by omega) (own_blk_ne HG.out.1.taken HR.out.used (by decide))).1
      have d2 := hd.cell 2
      have f2 := hd.frozen 2
      rw [show (#[Value.int .u64 0, .int .u64 0, .int .i64 (u : Int)] : Array Value)[2]? = some (.int .i64 (u : Int)) from rfl] at d2
      have HK0 := Lib.hid (ka_set HG.out.2 h2 (by omega) (.int .i64 ((u : Int) + 1)) HR.out.bel.size)
      have HT := Lib.hid (h1.set hd (o := 2) (by decide) (by omega) (.int .i64 ((u : Int) + 1)))
      have HN := Lib.hid hN
      clear hnext h1 h2 h3 hN hd HG
      go_wp2_with fail
      refine (takes_any _ _ _).mono ?_
      rintro e w' ⟨rfl, rfl⟩
      clear d2 f2
      generalize hw2 : w1.setCell ⟨w.heap.size + 1, 2, none⟩ (.int .i64 ((u : Int) + 1)) = w2 at *
      have HN2 := HN
      clear HN hw2
      go_wp2_with fail
      refine (rank_yes _ _ hn ht _).mono ?_
      rintro e w3 ⟨rfl, b3⟩
      have hT := Lib.hid (HT.out.belowS b3)
      have hr := HN2.out.res.belowS b3
      have hd := HN2.out.used.belowS b3
      have hB := HN2.out.bel.trans (b3.mono (by have := HN2.out.bel.size; omega))
      have HK1 := Lib.hid (ka_below HK0.out b3)
      have hu2 : (c : Int) = (u : Int) + 1 := by have := (show u = i - k from hu); have := HC.out; omega
      have HU := Lib.hid hu2
      clear HT HN2 b3 HR HS hu2 HK0
      have d0 := hd.cell 0
      have d1 := hd.cell 1
      have d2 := hd.cell 2
      have g0 := hd.frozen 0
      have g1 := hd.frozen 1
      have r0 := hr.cell 0
      have r1 := hr.cell 1
      have r2 := hr.cell 2
      have f0 := hr.frozen 0
      have f1 := hr.frozen 1
      have f2 := hr.frozen 2
      have T2 := (hT.out.set hd (o := 0) (by decide) (by omega) (.int .u64 (ui (mulHi xs[i] n)))).set (hd.set_ 0 (.int .u64 (ui (mulHi xs[i] n)))) (o := 1) (by decide) (by omega) (.int .u64 (ui (rankL xs[i] n)))
      have q0 := (hr.far (p := ⟨w.heap.size + 1, 0, none⟩) (by simp) (.int .u64 (ui (mulHi xs[i] n)))).far (p := ⟨w.heap.size + 1, 1, none⟩) (by simp) (.int .u64 (ui (rankL xs[i] n)))
      have q1 := q0.set_ 0 (.int .u64 (ui (mulHi xs[i] n)))
      have q2 := q1.set_ 1 (.int .u64 (ui (rankL xs[i] n)))
      have q3 := q2.set_ 2 (.int .i64 ((u : Int) + 1))
      have T5 := ((T2.set q0 (o := 0) (by decide) (by omega) (.int .u64 (ui (mulHi xs[i] n)))).set q1 (o := 1) (by decide) (by omega) (.int .u64 (ui (rankL xs[i] n)))).set q2 (o := 2) (by decide) (by omega) (.int .i64 ((u : Int) + 1))
      have B5 := ((((hB.setCell (p := ⟨w.heap.size + 1, 0, none⟩) (by simp; omega) (.int .u64 (ui (mulHi xs[i] n)))).setCell (p := ⟨w.heap.size + 1, 1, none⟩) (by simp; omega) (.int .u64 (ui (rankL xs[i] n)))).setCell (p := ⟨w.heap.size, 0, none⟩) (by simp; omega) (.int .u64 (ui (mulHi xs[i] n)))).setCell (p := ⟨w.heap.size, 1, none⟩) (by simp; omega) (.int .u64 (ui (rankL xs[i] n)))).setCell (p := ⟨w.heap.size, 2, none⟩) (by simp; omega) (.int .i64 ((u : Int) + 1))
      have Q3 := Lib.hid q3
      have HT5 := Lib.hid T5
      have HB5 := Lib.hid B5
      clear T2 q0 q1 q2 q3 T5 B5 hd hr hB
      go_wp2_with fail
      have e0 := Q3.out.cell 0
      have e1 := Q3.out.cell 1
      have e2 := Q3.out.cell 2
      have hs : (((#[Value.int .u64 0, .int .u64 0, .int .i64 0] : Array Value).setIfInBounds 0 (.int .u64 (ui (mulHi xs[i] n)))).setIfInBounds 1 (.int .u64 (ui (rankL xs[i] n)))).setIfInBounds 2 (.int .i64 ((u : Int) + 1)) = #[.int .u64 (ui (mulHi xs[i] n)), .int .u64 (ui (rankL xs[i] n)), .int .i64 ((u : Int) + 1)] := rfl
      rw [hs] at e0 e1 e2
      rw [show (#[Value.int .u64 (ui (mulHi xs[i] n)), .int .u64 (ui (rankL xs[i] n)), .int .i64 ((u : Int) + 1)] : Array Value)[0]? = some (.int .u64 (ui (mulHi xs[i] n))) from rfl] at e0
      rw [show (#[Value.int .u64 (ui (mulHi xs[i] n)), .int .u64 (ui (rankL xs[i] n)), .int .i64 ((u : Int) + 1)] : Array Value)[1]? = some (.int .u64 (ui (rankL xs[i] n))) from rfl] at e1
      rw [show (#[Value.int .u64 (ui (mulHi xs[i] n)), .int .u64 (ui (rankL xs[i] n)), .int .i64 ((u : Int) + 1)] : Array Value)[2]? = some (.int .i64 ((u : Int) + 1)) from rfl] at e2
      rw [Exit.noGoto_ret]
      refine bodyPost_ret (v := .tuple #[.agg #[.int .u64 (ui (mulHi xs[i] n)), .int .u64 (ui (rankL xs[i] n)), .int .i64 ((u : Int) + 1)], .int .i64 0]) (by simp [results, Try.results31, go_sem, e0, e1, e2]) rfl ⟨_, by rw [HU.out], HT5.out, ka_five HK1.out _ _ _ _ _, HB5.out⟩
end Go.Proofs.Ytodflmngbkiemaa
