/- The walks of chapter 20's rank and its inverse. No condition but the table of trailing zeros. -/
import Derived.Test.YtdfbabgadggdbaaDoorW20
import Derived.Deep.RegionHeld3
namespace Go.Proofs.YtdfbabgadggdbaaDoor
open Go.RowKit
theorem low_any (d m : BitVec 64) (s : Nat) (r : Int) (w : World) :
    Calls Tryd.prog 22 #[.agg #[.int .u64 (ui d), .int .i64 s, .int .i64 r], .int .u64 (ui m)] w fun e w' => e = .returned (.int .u64 (ui (lowS s m))) ∧ Below w.heap.size w w' := by
  have h0 : (0 : Int) ≤ s := by omega
  go_enter Tryd.func22, Tryd.ntmps22
  go_wp2_with fail
  go_region
  go_wp2_with fail
  go_ret
  exact ⟨rfl, ((Below.refl _ _).alloc (Nat.le_refl _) _).drew⟩
theorem near_any (d q : BitVec 64) (s : Int) (r : Nat) (w : World) :
    Calls Tryd.prog 21 #[.agg #[.int .u64 (ui d), .int .i64 s, .int .i64 r], .int .u64 (ui q)] w fun e w' => e = .returned (.tuple #[.int .u64 (ui q), .bool (q >>> r == 0#64)]) ∧ Below w.heap.size w w' := by
  have h0 : (0 : Int) ≤ r := by omega
  go_enter Tryd.func21, Tryd.ntmps21
  go_wp2_with fail
  go_region
  go_wp2_with fail
  go_ret2
  exact ⟨rfl, ((Below.refl _ _).alloc (Nat.le_refl _) _).drew⟩
theorem high_any (m : BitVec 64) (n : Int) (h : 0 ≤ n) (h2 : n ≤ 64) (w : World) :
    Calls Tryd.prog 23 #[.int .u64 (ui m), .int .i64 n] w fun e w' => e = .returned (.int .u64 (ui (m >>> (64 - n.toNat)))) ∧ w = w' := by
  have h0 : (0 : Int) ≤ 64 - n := by omega
  go_enter Tryd.func23, Tryd.ntmps23
  go_wp2_with fail
  go_ret
  exact ⟨ret_u64 (by congr 1; omega), rfl⟩
theorem top_any (m : BitVec 64) (n : Int) (h : 0 ≤ n) (h2 : n ≤ 64) (w : World) :
    Calls Tryd.prog 25 #[.int .u64 (ui m), .int .i64 n] w fun e w' => e = .returned (.int .u64 (ui (m <<< (64 - n.toNat)))) ∧ w = w' := by
  have h0 : (0 : Int) ≤ 64 - n := by omega
  go_enter Tryd.func25, Tryd.ntmps25
  go_wp2_with fail
  go_ret
  exact ⟨ret_u64 (by congr 1; omega), rfl⟩
theorem top_b (m : BitVec 64) (n : Int) (h : 0 ≤ n) (h2 : n ≤ 64) (w : World) :
    Calls Tryd.prog 25 #[.int .u64 (ui m), .int .i64 n] w fun e w' => e = .returned (.int .u64 (ui (m <<< (64 - n.toNat)))) ∧ Below w.heap.size w w' :=
  (top_any m n h h2 w).mono fun _ _ h => ⟨h.1, by rw [h.2]; exact Below.refl _ _⟩
/-- a pair in memory, and what lies below -/
def HP (w1 : World) (d : BitVec 64) (s r : Int) (w' : World) : Prop := w'.cell? ⟨w1.heap.size, 0, none⟩ = some (.int .u64 (ui d)) ∧ w'.cell? ⟨w1.heap.size, 1, none⟩ = some (.int .i64 s) ∧ w'.cell? ⟨w1.heap.size, 2, none⟩ = some (.int .i64 r) ∧ w1.heap.size < w'.heap.size ∧ Below w1.heap.size w1 w'
theorem hp_new (w1 : World) (d : BitVec 64) (s r : Int) (t : TypeId) : HP w1 d s r (w1.alloc (.cells #[.int .u64 (ui d), .int .i64 s, .int .i64 r] t)) :=
  ⟨by simp, by simp, by simp, by simp, (Below.refl _ _).alloc (Nat.le_refl _) _⟩
theorem hp_drew {w1 w2 : World} {d : BitVec 64} {s r : Int} (h : HP w1 d s r w2) : HP w1 d s r w2.drew := ⟨h.1, h.2.1, h.2.2.1, h.2.2.2.1, h.2.2.2.2.drew⟩
theorem hp_below {w1 w2 w3 : World} {d : BitVec 64} {s r : Int} (h : HP w1 d s r w2) (b : Below w2.heap.size w2 w3) : HP w1 d s r w3 := by
  obtain ⟨h0, h1, h2, h3, h4⟩ := h
  obtain ⟨g1, _⟩ := bcell b
  have hz := b.size
  exact ⟨by rw [g1 _ _ h3, h0], by rw [g1 _ _ h3, h1], by rw [g1 _ _ h3, h2], by omega, h4.trans (b.mono (by omega))⟩
theorem hp_belowb {w1 w2 w3 : World} {d : BitVec 64} {s r : Int} (b : Below w2.heap.size w2 w3) (h : w2.cell? ⟨w1.heap.size, 0, none⟩ = some (.int .u64 (ui d)) ∧ w2.cell? ⟨w1.heap.size, 1, none⟩ = some (.int .i64 s) ∧ w2.cell? ⟨w1.heap.size, 2, none⟩ = some (.int .i64 r) ∧ w1.heap.size < w2.heap.size ∧ Below w1.heap.size w1 w2) : HP w1 d s r w3 := hp_below h b
theorem hp_last {w1 w2 : World} {d : BitVec 64} {s r : Int} (h : w2.cell? ⟨w1.heap.size, 0, none⟩ = some (.int .u64 (ui d)) ∧ w2.cell? ⟨w1.heap.size, 1, none⟩ = some (.int .i64 s) ∧ w2.cell? ⟨w1.heap.size, 2, none⟩ = some (.int .i64 r) ∧ w1.heap.size < w2.heap.size ∧ Below w1.heap.size w1 w2) : Below w1.heap.size w1 w2 := h.2.2.2.2
theorem even_odd {a : BitVec 64} (h : (a % 2#64 == 0#64) = false) : a.toNat % 2 = 1 := by
  rw [even_nat, decide_eq_false_iff_not] at h; omega
set_option maxHeartbeats 1000000 in
theorem rank_yes (a : BitVec 64) (bits : Int) (x y : BitVec 64) (hs : someB bits (x - y) = true) (ha : (a % 2#64 == 0#64) = false) (w : World) (hT : Tab w) :
    Calls Tryd.prog 8 #[.int .u64 (ui a), .int .i64 bits, .int .u64 (ui x), .int .u64 (ui y)] w fun e w' => e = .returned (.tuple #[.int .u64 (ui (rkW a bits (x - y))), .bool (rkS a bits (x - y))]) ∧ Below w.heap.size w w' := by
  have hsz := someB_sizes hs
  obtain ⟨q1, q2, _, q3, q7, q5, q6, q8⟩ := id hsz
  clear q7 q8 hsz
  have q0 : (0 : Int) ≤ (tzB (x - y) : Int) := by omega
  have q4 : (tzB (x - y) : Int) ≤ 64 := by omega
  by_cases hn : (lowS (tzB (x - y)) (a * oddB (x - y)) >>> roomB bits (x - y) == 0#64) = true
  · have HR := Lib.hid (rank_case1 hs (even_odd ha) hn)
    go_enter Tryd.func8, Tryd.ntmps8
    go_wp2_with fail
    refine (of_yes _ _ _ hs _ hT).mono ?_
    rintro e w1 ⟨rfl, b1⟩
    obtain ⟨g1, g2⟩ := bcell b1
    go_wp2_with fail
    go_region
    go_wp2_with fail
    refine (low_any _ _ _ _ _).mono ?_
    rintro e w2 ⟨rfl, b2⟩
    obtain ⟨g3, g4⟩ := bcell b2
    go_wp2_with fail
    refine (near_any _ _ _ _ _).mono ?_
    rintro e w3 ⟨rfl, b3⟩
    have hP := hp_below (hp_below (hp_drew (hp_new _ _ _ _ _)) b2) b3
    obtain ⟨hc0, hc1, hc2, hlt, hb1⟩ := id hP
    go_wp2_with fail
    go_quiet ((go_at_call 23; exact Calls.quiet_of_same ((high_any _ _ q0 q4 _).mono fun _ _ h => ⟨h.1, h.2.symm⟩)))
    go_wp2_with fail
    go_ret2
    exact ⟨ret_t2 (v_u64 HR.out.2.symm) (v_bool HR.out.1.symm), below_drewN (b1.trans (hb1.mono b1.size)) _⟩
  · have hn' : (lowS (tzB (x - y)) (a * oddB (x - y)) >>> roomB bits (x - y) == 0#64) = false := by simpa using hn
    clear hn
    by_cases hm : (lowS (tzB (x - y)) (-(a * oddB (x - y))) >>> roomB bits (x - y) == 0#64) = true
    · have HR := Lib.hid (rank_case2 hs (even_odd ha) hn' hm)
      go_enter Tryd.func8, Tryd.ntmps8
      go_wp2_with fail
      refine (of_yes _ _ _ hs _ hT).mono ?_
      rintro e w1 ⟨rfl, b1⟩
      obtain ⟨g1, g2⟩ := bcell b1
      go_wp2_with fail
      go_region
      go_wp2_with fail
      refine (low_any _ _ _ _ _).mono ?_
      rintro e w2 ⟨rfl, b2⟩
      obtain ⟨g3, g4⟩ := bcell b2
      go_wp2_with fail
      refine (near_any _ _ _ _ _).mono ?_
      rintro e w3 ⟨rfl, b3⟩
      have hP := hp_below (hp_below (hp_drew (hp_new _ _ _ _ _)) b2) b3
      obtain ⟨hc0, hc1, hc2, hlt, hb1⟩ := id hP
      go_wp2_with fail
      refine (low_any _ _ _ _ _).mono ?_
      rintro e w4 ⟨rfl, b4⟩
      obtain ⟨g5, g6⟩ := bcell b4
      go_wp2_with fail
      refine (near_any _ _ _ _ _).mono ?_
      rintro e w5 ⟨rfl, b5⟩
      have hP := hp_below (hp_below hP b4) b5
      obtain ⟨hc0, hc1, hc2, hlt, hb1⟩ := id hP
      go_wp2_with fail
      go_quiet ((go_at_call 23; exact Calls.quiet_of_same ((high_any _ _ q0 q4 _).mono fun _ _ h => ⟨h.1, h.2.symm⟩)))
      go_wp2_with fail
      go_ret2
      exact ⟨ret_t2 (v_u64 HR.out.2.symm) (v_bool HR.out.1.symm), below_drewN (b1.trans (hb1.mono b1.size)) _⟩
    · have hm' : (lowS (tzB (x - y)) (-(a * oddB (x - y))) >>> roomB bits (x - y) == 0#64) = false := by simpa using hm
      have HR := Lib.hid (rank_case3 hs (even_odd ha) hn' hm')
      clear hm
      go_enter Tryd.func8, Tryd.ntmps8
      go_wp2_with fail
      refine (of_yes _ _ _ hs _ hT).mono ?_
      rintro e w1 ⟨rfl, b1⟩
      obtain ⟨g1, g2⟩ := bcell b1
      go_wp2_with fail
      go_region
      go_wp2_with fail
      refine (low_any _ _ _ _ _).mono ?_
      rintro e w2 ⟨rfl, b2⟩
      obtain ⟨g3, g4⟩ := bcell b2
      go_wp2_with fail
      refine (near_any _ _ _ _ _).mono ?_
      rintro e w3 ⟨rfl, b3⟩
      have hP := hp_below (hp_below (hp_drew (hp_new _ _ _ _ _)) b2) b3
      obtain ⟨hc0, hc1, hc2, hlt, hb1⟩ := id hP
      go_wp2_with fail
      refine (low_any _ _ _ _ _).mono ?_
      rintro e w4 ⟨rfl, b4⟩
      obtain ⟨g5, g6⟩ := bcell b4
      go_wp2_with fail
      refine (near_any _ _ _ _ _).mono ?_
      rintro e w5 ⟨rfl, b5⟩
      have hP := hp_below (hp_below hP b4) b5
      obtain ⟨hc0, hc1, hc2, hlt, hb1⟩ := id hP
      go_wp2_with fail
      go_ret2
      exact ⟨ret_t2 (v_u64 HR.out.2.symm) (v_bool HR.out.1.symm), b1.trans (hb1.mono b1.size)⟩
theorem rank_any (a : BitVec 64) (bits : Int) (x y : BitVec 64) (w : World) (hT : Tab w) :
    Calls Tryd.prog 8 #[.int .u64 (ui a), .int .i64 bits, .int .u64 (ui x), .int .u64 (ui y)] w fun e w' => e = .returned (.tuple #[.int .u64 (ui (rkW a bits (x - y))), .bool (rkS a bits (x - y))]) ∧ Below w.heap.size w w' := by
  by_cases hs : someB bits (x - y) = true
  · by_cases ha : (a % 2#64 == 0#64) = true
    · have h0 : ¬ (someB bits (x - y) = true ∧ a.toNat % 2 = 1) := by
        rw [even_nat, decide_eq_true_eq] at ha; omega
      have HR := Lib.hid (rank_case0 h0)
      clear h0
      go_enter Tryd.func8, Tryd.ntmps8
      go_wp2_with fail
      refine (of_yes _ _ _ hs _ hT).mono ?_
      rintro e w1 ⟨rfl, b1⟩
      obtain ⟨g1, g2⟩ := bcell b1
      go_wp2_with fail
      go_ret2
      exact ⟨ret_t2 (v_u64 HR.out.2.symm) (v_bool HR.out.1.symm), b1.trans (((Below.refl _ _).alloc (Nat.le_refl _) _).mono b1.size)⟩
    · exact rank_yes a bits x y hs (by simpa using ha) w hT
  · have hs' : someB bits (x - y) = false := by simpa using hs
    have HR := Lib.hid (rank_case0 (a := a) (fun h => hs h.1))
    clear hs
    go_enter Tryd.func8, Tryd.ntmps8
    go_wp2_with fail
    refine (of_no _ _ _ hs' _ hT).mono ?_
    rintro e w1 ⟨rfl, b1⟩
    obtain ⟨g1, g2⟩ := bcell b1
    go_wp2_with fail
    go_ret2
    exact ⟨ret_t2 (v_u64 HR.out.2.symm) (v_bool HR.out.1.symm), b1.trans (((Below.refl _ _).alloc (Nat.le_refl _) _).mono b1.size)⟩
@[go_sem] theorem ui_div_pow (x : BitVec 64) (n : Nat) : ui x / (2 : Int) ^ n = ui (x >>> n) := by
  unfold ui
  rw [BitVec.toNat_ushiftRight, Nat.shiftRight_eq_div_pow, show ((2 : Int) ^ n) = ((2 ^ n : Nat) : Int) by simp, ← Int.natCast_ediv]
theorem unrank_no (r : BitVec 64) (bits : Int) (x y : BitVec 64) (h : ¬ (someB bits (x - y) = true ∧ r.toNat < 2 ^ (64 - bits.toNat))) (w : World) (hT : Tab w) :
    Calls Tryd.prog 17 #[.int .u64 (ui r), .int .i64 bits, .int .u64 (ui x), .int .u64 (ui y)] w fun e w' => e = .returned (.tuple #[.int .u64 0, .bool false]) ∧ Below w.heap.size w w' := by
  by_cases hs : someB bits (x - y) = true
  · have hsz := someB_sizes hs
    obtain ⟨q1, q2, _, q3, q7, q5, q6, q8⟩ := id hsz
    clear q7 q8 hsz
    have hr : (r >>> (64 - bits).toNat == 0#64) = false := by
      rw [near_iff, decide_eq_false_iff_not, show (64 - bits).toNat = 64 - bits.toNat by omega]
      exact fun hh => h ⟨hs, hh⟩
    have hr' : (r >>> (64 - bits).toNat != 0#64) = true := by show (!(_ == _)) = true; rw [hr]; rfl
    have hb : 0 ≤ 64 - bits := by omega
    clear h
    go_enter Tryd.func17, Tryd.ntmps17
    go_wp2_with fail
    refine (of_yes _ _ _ hs _ hT).mono ?_
    rintro e w1 ⟨rfl, b1⟩
    obtain ⟨g1, g2⟩ := bcell b1
    go_wp2_with fail
    go_ret2
    exact ⟨rfl, b1.trans (((Below.refl _ _).alloc (Nat.le_refl _) _).mono b1.size)⟩
  · have hs' : someB bits (x - y) = false := by simpa using hs
    clear hs h
    go_enter Tryd.func17, Tryd.ntmps17
    go_wp2_with fail
    refine (of_no _ _ _ hs' _ hT).mono ?_
    rintro e w1 ⟨rfl, b1⟩
    obtain ⟨g1, g2⟩ := bcell b1
    go_wp2_with fail
    go_ret2
    exact ⟨rfl, b1.trans (((Below.refl _ _).alloc (Nat.le_refl _) _).mono b1.size)⟩
theorem unrank_yes (r : BitVec 64) (bits : Int) (x y : BitVec 64) (hs : someB bits (x - y) = true) (hr : r.toNat < 2 ^ (64 - bits.toNat)) (w : World) (hT : Tab w) :
    Calls Tryd.prog 17 #[.int .u64 (ui r), .int .i64 bits, .int .u64 (ui x), .int .u64 (ui y)] w fun e w' => e = .returned (.tuple #[.int .u64 (ui (unrankB (x - y) r * oddInv (oddB (x - y)))), .bool true]) ∧ Below w.heap.size w w' := by
  have hsz := someB_sizes hs
  obtain ⟨q1, q2, _, q3, q7, q5, q6, q8⟩ := id hsz
  clear q7 hsz
  have q0 : (0 : Int) ≤ (tzB (x - y) : Int) := by omega
  have q4 : (tzB (x - y) : Int) ≤ 64 := by omega
  have hr2 : (r >>> (64 - bits).toNat == 0#64) = true := by
    rw [near_iff, decide_eq_true_eq, show (64 - bits).toNat = 64 - bits.toNat by omega]
    exact hr
  have hr' : (r >>> (64 - bits).toNat != 0#64) = false := by show (!(_ == _)) = false; rw [hr2]; rfl
  have hb : 0 ≤ 64 - bits := by omega
  have ho : (oddB (x - y) % 2#64 == 0#64) = false := by rw [even_nat, decide_eq_false_iff_not]; omega
  have HR := Lib.hid hr
  clear q8 hr hr2
  by_cases he : ((r >>> tzB (x - y)) &&& 1#64 == 1#64) = true
  · have HV := Lib.hid (unrank_val1 hs HR.out he)
    go_enter Tryd.func17, Tryd.ntmps17
    go_wp2_with fail
    refine (of_yes _ _ _ hs _ hT).mono ?_
    rintro e w1 ⟨rfl, b1⟩
    obtain ⟨g1, g2⟩ := bcell b1
    have hP := hp_new w1 (oddB (x - y)) (tzB (x - y)) (roomB bits (x - y)) 41
    obtain ⟨hc0, hc1, hc2, hlt, hb1⟩ := id hP
    go_wp2_with fail
    go_region_held3 (fun w' => w'.cell? ⟨w1.heap.size, 0, none⟩ = some (.int .u64 (ui (oddB (x - y)))) ∧ w'.cell? ⟨w1.heap.size, 1, none⟩ = some (.int .i64 (tzB (x - y))) ∧ w'.cell? ⟨w1.heap.size, 2, none⟩ = some (.int .i64 (roomB bits (x - y))) ∧ w1.heap.size < w'.heap.size ∧ Below w1.heap.size w1 w') (first | (apply hp_belowb; assumption; assumption) | exact hp_drew hP)
      (first
        | (go_at_call 22; refine (low_any _ _ _ _ _).mono ?_; rintro e w' ⟨rfl, b⟩)
        | (go_at_call 25; refine (top_b _ _ q0 q4 _).mono ?_; rintro e w' ⟨rfl, b⟩))
    go_wp2_with fail
    refine (odd_any _ ho _).mono ?_
    rintro e w3 ⟨rfl, rfl⟩
    go_wp2_with fail
    go_ret2
    refine ⟨ret_t2 (v_u64 (by rw [HV.out])) rfl, b1.trans (Below.mono ?_ b1.size)⟩
    apply hp_last (d := oddB (x - y)) (s := tzB (x - y)) (r := roomB bits (x - y))
    assumption
  · have he' : ((r >>> tzB (x - y)) &&& 1#64 == 1#64) = false := by simpa using he
    have HV := Lib.hid (unrank_val2 hs HR.out he')
    clear he
    go_enter Tryd.func17, Tryd.ntmps17
    go_wp2_with fail
    refine (of_yes _ _ _ hs _ hT).mono ?_
    rintro e w1 ⟨rfl, b1⟩
    obtain ⟨g1, g2⟩ := bcell b1
    have hP := hp_new w1 (oddB (x - y)) (tzB (x - y)) (roomB bits (x - y)) 41
    obtain ⟨hc0, hc1, hc2, hlt, hb1⟩ := id hP
    go_wp2_with fail
    go_region_held3 (fun w' => w'.cell? ⟨w1.heap.size, 0, none⟩ = some (.int .u64 (ui (oddB (x - y)))) ∧ w'.cell? ⟨w1.heap.size, 1, none⟩ = some (.int .i64 (tzB (x - y))) ∧ w'.cell? ⟨w1.heap.size, 2, none⟩ = some (.int .i64 (roomB bits (x - y))) ∧ w1.heap.size < w'.heap.size ∧ Below w1.heap.size w1 w') (first | (apply hp_belowb; assumption; assumption) | exact hp_drew hP)
      (first
        | (go_at_call 22; refine (low_any _ _ _ _ _).mono ?_; rintro e w' ⟨rfl, b⟩)
        | (go_at_call 25; refine (top_b _ _ q0 q4 _).mono ?_; rintro e w' ⟨rfl, b⟩))
    go_wp2_with fail
    refine (odd_any _ ho _).mono ?_
    rintro e w3 ⟨rfl, rfl⟩
    go_wp2_with fail
    go_ret2
    refine ⟨ret_t2 (v_u64 (by rw [HV.out])) rfl, b1.trans (Below.mono ?_ b1.size)⟩
    apply hp_last (d := oddB (x - y)) (s := tzB (x - y)) (r := roomB bits (x - y))
    assumption
end Go.Proofs.YtdfbabgadggdbaaDoor
