/- The walks of chapter 43's functions that tell of a table that may be: what a pair tells, how many pairs tell an item. No condition but on lengths. -/
import Derived.Test.YtodflmngbkiemaaW43b
namespace Go.Proofs.Ytodflmngbkiemaa
open Go.RowKit
/-- a call's own copy of a table -/
structure BX (w0 w : World) (B : Nat) (T : BitVec 64) (bs : List (BitVec 64)) (ls : List Int) (b o cap b2 o2 cap2 : Nat) : Prop where
  bel : Below w0.heap.size w0 w
  box : Blk w B 27 #[.int .u64 (ui T), .slice (some ⟨b, o, none⟩) bs.length cap, .slice (some ⟨b2, o2, none⟩) bs.length cap2]
  cb : SlC w b o (vals bs)
  ca : SlC w b2 o2 (ints ls)
theorem BX.next {w0 w w' : World} {B b o cap b2 o2 cap2 : Nat} {T : BitVec 64} {bs : List (BitVec 64)} {ls : List Int} (h : BX w0 w B T bs ls b o cap b2 o2 cap2) (hb : Below w.heap.size w w') : BX w0 w' B T bs ls b o cap b2 o2 cap2 :=
  ⟨h.bel.trans (hb.mono h.bel.size), h.box.belowS hb, h.cb.below hb, h.ca.below hb⟩
theorem BX.drewN {w0 w : World} {B b o cap b2 o2 cap2 : Nat} {T : BitVec 64} {bs : List (BitVec 64)} {ls : List Int} (h : BX w0 w B T bs ls b o cap b2 o2 cap2) (q : Nat) : BX w0 (w.drewN q) B T bs ls b o cap b2 o2 cap2 :=
  ⟨below_drewN h.bel q, h.box.drewN q, h.cb.below (below_drewN (Below.refl _ _) q), h.ca.below (below_drewN (Below.refl _ _) q)⟩
theorem BX.new {w : World} {b o b2 o2 : Nat} {bs : List (BitVec 64)} {ls : List Int} (T : BitVec 64) (cap cap2 : Nat) (hc : SlC w b o (vals bs)) (hc2 : SlC w b2 o2 (ints ls)) : BX w (w.alloc (.cells #[.int .u64 (ui T), .slice (some ⟨b, o, none⟩) bs.length cap, .slice (some ⟨b2, o2, none⟩) bs.length cap2] 27)) w.heap.size T bs ls b o cap b2 o2 cap2 :=
  ⟨below_new _ _, Blk.new _ _ _, hc.below (below_new _ _), hc2.below (below_new _ _)⟩
theorem tab_cells {w : World} {g : Nat} {a c d : Value} (h : Blk w g 27 #[a, c, d]) : w.cell? ⟨g, 0, none⟩ = some a ∧ w.cell? ⟨g, 1, none⟩ = some c ∧ w.cell? ⟨g, 2, none⟩ = some d := ⟨h.cell 0, h.cell 1, h.cell 2⟩
theorem SlC.slB {w : World} {b o : Nat} {bs : List (BitVec 64)} (h : SlC w b o (vals bs)) (cap : Nat) : SlV w (.slice (some ⟨b, o, none⟩) bs.length cap) (vals bs) :=
  .inr ⟨b, o, cap, by rw [vals_length], h⟩
theorem SlC.slA {w : World} {b o n : Nat} {ls : List Int} (h : SlC w b o (ints ls)) (hn : ls.length = n) (cap : Nat) : SlV w (.slice (some ⟨b, o, none⟩) n cap) (ints ls) :=
  .inr ⟨b, o, cap, by rw [ints_length, hn], h⟩
/-- a column's part -/
def pU (bs : List (BitVec 64)) (ls : List Int) (j : Int) (c : Nat) (u : BitVec 64) : BitVec 64 := partB (bs.getD c 0#64) (ls.getD c 0) c j u
/-- the parts of the first columns -/
def wS (bs : List (BitVec 64)) (ls : List Int) (j : Int) (T : BitVec 64) : Nat → BitVec 64
  | 0 => 0#64
  | k + 1 => wS bs ls j T k + pU bs ls j k T
theorem ui_len (n : Nat) (h : n ≤ 256) : ui (BitVec.ofNat 64 n) = (n : Int) := by
  rw [ui_toNat, BitVec.toNat_ofNat, Nat.mod_eq_of_lt (by omega)]
theorem getD_at {α : Type} (xs : List α) (i : Nat) (d : α) (h : i < xs.length) : xs.getD i d = xs[i] := by simp [List.getD, h]
theorem part_at (T : BitVec 64) (bs : List (BitVec 64)) (ls : List Int) (b o cap b2 o2 cap2 : Nat) (w : World) (hc : SlC w b o (vals bs)) (hc2 : SlC w b2 o2 (ints ls)) (hok : OkT T bs ls) (c : Nat) (hcn : c < bs.length) (j : Int) (u : BitVec 64) :
    Calls Try.prog 53 #[.agg #[.int .u64 (ui T), .slice (some ⟨b, o, none⟩) bs.length cap, .slice (some ⟨b2, o2, none⟩) bs.length cap2], .int .i64 c, .int .i64 j, .int .u64 (ui u)] w fun e w' => e = .returned (.int .u64 (ui (pU bs ls j c u))) ∧ Below w.heap.size w w' := by
  have h := part_any T bs ls b o cap b2 o2 cap2 w hc hc2 hok.na c hcn j u
  unfold pU
  rw [getD_at bs c _ hcn, getD_at ls c _ (by rw [hok.na]; exact hcn)]
  exact h
theorem BX.chk {w0 w : World} {B b o cap b2 o2 cap2 : Nat} {T : BitVec 64} {bs : List (BitVec 64)} {ls : List Int} (h : BX w0 w B T bs ls b o cap b2 o2 cap2) (hok : OkT T bs ls) :
    Calls Try.prog 18 #[.agg #[.int .u64 (ui T), .slice (some ⟨b, o, none⟩) bs.length cap, .slice (some ⟨b2, o2, none⟩) bs.length cap2]] w fun e w' => e = .returned (.int .i64 0) ∧ Below w.heap.size w w' := by
  have := hok.n2
  have hh := chk_any T bs ls _ _ w (h.cb.slB cap) (h.ca.slA hok.na cap2) (by omega)
  rw [hok.err] at hh
  exact hh
theorem weight_yes (T : BitVec 64) (bs : List (BitVec 64)) (ls : List Int) (b o cap b2 o2 cap2 : Nat) (w : World) (hc : SlC w b o (vals bs)) (hc2 : SlC w b2 o2 (ints ls)) (hok : OkT T bs ls) (j : Int) (h0 : 0 ≤ j) (h1 : j < (bs.length : Int)) :
    Calls Try.prog 20 #[.agg #[.int .u64 (ui T), .slice (some ⟨b, o, none⟩) bs.length cap, .slice (some ⟨b2, o2, none⟩) bs.length cap2], .int .i64 j] w fun e w' => e = .returned (.tuple #[.int .u64 (ui (wS bs ls j T bs.length)), .int .i64 0]) ∧ Below w.heap.size w w' := by
  have HX := Lib.hid (BX.new T cap cap2 hc hc2)
  have HO := Lib.hid hok
  have hn2 := hok.n2
  have hng : ¬ j < 0 := by omega
  clear hc hc2 hok
  go_enter Try.func20, Try.ntmps20
  go_wp2_with fail
  refine (HX.out.chk HO.out).mono ?_
  rintro e w1 ⟨rfl, b1⟩
  have HX1 := Lib.hid (HX.out.next b1)
  obtain ⟨d0, d1, d2⟩ := tab_cells HX1.out.box
  clear b1 HX
  go_wp2_with fail
  go_loopw [7, 26] (fun nn i wr => ∃ k : Nat, k ≤ bs.length ∧ i = .int .i64 k ∧ nn = .int .u64 (ui (wS bs ls j T k)) ∧ BX w wr w.heap.size T bs ls b o cap b2 o2 cap2) (fun _ i _ => bs.length - (intOf i).toNat)
  case atStart => exact ⟨0, by omega, rfl, rfl, HX1.out⟩
  case round =>
    obtain ⟨k, hk, rfl, rfl, hbx⟩ := hrel
    have HB := Lib.hid hbx
    clear hbx d0 d1 d2
    obtain ⟨d0, d1, d2⟩ := tab_cells HB.out.box
    by_cases hlt : k < bs.length
    · have hlt' : (k : Int) < (bs.length : Int) := by omega
      go_wp2_with fail
      refine (part_at T bs ls b o cap b2 o2 cap2 _ HB.out.cb HB.out.ca HO.out k hlt j T).mono ?_
      rintro e w2 ⟨rfl, bb⟩
      have HB2 := Lib.hid (HB.out.next bb)
      clear bb HB d0 d1 d2 HX1
      go_wp2_with fail
      go_roundw
      case rel => exact ⟨k + 1, by omega, by go_num, rfl, HB2.out⟩
      case measure => simp [intOf]; omega
    · have hk2 : k = bs.length := by omega
      subst hk2
      clear hlt
      go_wp2_with fail
      go_ret2
      exact ⟨rfl, HB.out.bel⟩
theorem weight_bad (T : BitVec 64) (bs : List (BitVec 64)) (ls : List Int) (vb va : Value) (w : World) (hb : SlV w vb (vals bs)) (ha : SlV w va (ints ls)) (hl : bs.length ≤ 9223372036854775807) (hne : errT T bs ls ≠ 0) (j : Int) :
    Calls Try.prog 20 #[.agg #[.int .u64 (ui T), vb, va], .int .i64 j] w fun e w' => e = .returned (.tuple #[.int .u64 0, .int .i64 (errT T bs ls)]) ∧ Below w.heap.size w w' := by
  have b0 := below_new w (.cells #[.int .u64 (ui T), vb, va] 27)
  have hb1 := hb.below b0
  have ha1 := ha.below b0
  have hq : (errT T bs ls != 0) = true := by rw [bne_iff_ne]; exact hne
  have hk := chk_any T bs ls _ _ _ hb1 ha1 hl
  clear hb ha hb1 ha1
  generalize errT T bs ls = q at *
  go_enter Try.func20, Try.ntmps20
  go_wp2_with fail
  refine hk.mono ?_
  rintro e w1 ⟨rfl, b1⟩
  have bb := b0.trans (b1.mono b0.size)
  clear b0 b1 hk
  go_wp2_with fail
  go_ret2
  exact ⟨rfl, bb⟩
theorem tell_bad (T : BitVec 64) (bs : List (BitVec 64)) (ls : List Int) (vb va : Value) (w : World) (hb : SlV w vb (vals bs)) (ha : SlV w va (ints ls)) (hl : bs.length ≤ 9223372036854775807) (hne : errT T bs ls ≠ 0) (c u : BitVec 64) :
    Calls Try.prog 23 #[.agg #[.int .u64 (ui T), vb, va], .int .u64 (ui c), .int .u64 (ui u)] w fun e w' => e = .returned (.tuple #[.int .i64 0, .int .i64 (errT T bs ls)]) ∧ Below w.heap.size w w' := by
  have b0 := below_new w (.cells #[.int .u64 (ui T), vb, va] 27)
  have hb1 := hb.below b0
  have ha1 := ha.below b0
  have hq : (errT T bs ls != 0) = true := by rw [bne_iff_ne]; exact hne
  have hk := chk_any T bs ls _ _ _ hb1 ha1 hl
  clear hb ha hb1 ha1
  generalize errT T bs ls = q at *
  go_enter Try.func23, Try.ntmps23
  go_wp2_with fail
  refine hk.mono ?_
  rintro e w1 ⟨rfl, b1⟩
  have bb := b0.trans (b1.mono b0.size)
  clear b0 b1 hk
  go_wp2_with fail
  go_ret2
  exact ⟨rfl, bb⟩
theorem rank_bad (T : BitVec 64) (bs : List (BitVec 64)) (ls : List Int) (vb va : Value) (w : World) (hb : SlV w vb (vals bs)) (ha : SlV w va (ints ls)) (hl : bs.length ≤ 9223372036854775807) (hne : errT T bs ls ≠ 0) (c u : BitVec 64) :
    Calls Try.prog 24 #[.agg #[.int .u64 (ui T), vb, va], .int .u64 (ui c), .int .u64 (ui u)] w fun e w' => e = .returned (.tuple #[.int .i64 0, .int .u64 0, .int .i64 (errT T bs ls)]) ∧ Below w.heap.size w w' := by
  have b0 := below_new w (.cells #[.int .u64 (ui T), vb, va] 27)
  have hb1 := hb.below b0
  have ha1 := ha.below b0
  have hq : (errT T bs ls != 0) = true := by rw [bne_iff_ne]; exact hne
  have hk := tell_bad T bs ls _ _ _ hb1 ha1 hl hne c u
  clear hb ha hb1 ha1
  generalize errT T bs ls = q at *
  go_enter Try.func24, Try.ntmps24
  go_wp2_with fail
  refine hk.mono ?_
  rintro e w1 ⟨rfl, b1⟩
  have bb := b0.trans (b1.mono b0.size)
  clear b0 b1 hk
  go_wp2_with fail
  go_ret3
  exact ⟨rfl, bb⟩
theorem pair_bad (T : BitVec 64) (bs : List (BitVec 64)) (ls : List Int) (vb va : Value) (w : World) (hb : SlV w vb (vals bs)) (ha : SlV w va (ints ls)) (hl : bs.length ≤ 9223372036854775807) (hne : errT T bs ls ≠ 0) (j : Int) (r : BitVec 64) :
    Calls Try.prog 27 #[.agg #[.int .u64 (ui T), vb, va], .int .i64 j, .int .u64 (ui r)] w fun e w' => e = .returned (.tuple #[.int .u64 0, .int .u64 0, .int .i64 (errT T bs ls)]) ∧ Below w.heap.size w w' := by
  have b0 := below_new w (.cells #[.int .u64 (ui T), vb, va] 27)
  have hb1 := hb.below b0
  have ha1 := ha.below b0
  have hq : (errT T bs ls != 0) = true := by rw [bne_iff_ne]; exact hne
  have hk := weight_bad T bs ls _ _ _ hb1 ha1 hl hne j
  clear hb ha hb1 ha1
  generalize errT T bs ls = q at *
  go_enter Try.func27, Try.ntmps27
  go_wp2_with fail
  refine hk.mono ?_
  rintro e w1 ⟨rfl, b1⟩
  have bb := b0.trans (b1.mono b0.size)
  clear b0 b1 hk
  go_wp2_with fail
  go_ret3
  exact ⟨rfl, bb⟩
theorem weights_bad (T : BitVec 64) (bs : List (BitVec 64)) (ls : List Int) (vb va : Value) (w : World) (hb : SlV w vb (vals bs)) (ha : SlV w va (ints ls)) (hl : bs.length ≤ 9223372036854775807) (hne : errT T bs ls ≠ 0)  :
    Calls Try.prog 22 #[.agg #[.int .u64 (ui T), vb, va]] w fun e w' => e = .returned (.tuple #[.slice none 0 0, .bool false]) ∧ Below w.heap.size w w' := by
  have b0 := below_new w (.cells #[.int .u64 (ui T), vb, va] 27)
  have hb1 := hb.below b0
  have ha1 := ha.below b0
  have hq : (errT T bs ls != 0) = true := by rw [bne_iff_ne]; exact hne
  have hk := chk_any T bs ls _ _ _ hb1 ha1 hl
  clear hb ha hb1 ha1
  generalize errT T bs ls = q at *
  go_enter Try.func22, Try.ntmps22
  go_wp2_with fail
  refine hk.mono ?_
  rintro e w1 ⟨rfl, b1⟩
  have bb := b0.trans (b1.mono b0.size)
  clear b0 b1 hk
  go_wp2_with fail
  go_ret2
  exact ⟨rfl, bb⟩
theorem weight_dom (T : BitVec 64) (bs : List (BitVec 64)) (ls : List Int) (b o cap b2 o2 cap2 : Nat) (w : World) (hc : SlC w b o (vals bs)) (hc2 : SlC w b2 o2 (ints ls)) (hok : OkT T bs ls) (j : Int) (hj : j < 0 ∨ (bs.length : Int) ≤ j) :
    Calls Try.prog 20 #[.agg #[.int .u64 (ui T), .slice (some ⟨b, o, none⟩) bs.length cap, .slice (some ⟨b2, o2, none⟩) bs.length cap2], .int .i64 j] w fun e w' => e = .returned (.tuple #[.int .u64 0, .int .i64 2]) ∧ Below w.heap.size w w' := by
  have HX := Lib.hid (BX.new T cap cap2 hc hc2)
  have HO := Lib.hid hok
  have hn2 := hok.n2
  clear hc hc2 hok
  by_cases h0 : j < 0
  · clear hj
    go_enter Try.func20, Try.ntmps20
    go_wp2_with fail
    refine (HX.out.chk HO.out).mono ?_
    rintro e w1 ⟨rfl, b1⟩
    have HX1 := Lib.hid (HX.out.next b1)
    obtain ⟨d0, d1, d2⟩ := tab_cells HX1.out.box
    clear b1 HX
    go_wp2_with fail
    go_ret2
    exact ⟨rfl, HX1.out.bel⟩
  · have h1 : (bs.length : Int) ≤ j := by omega
    clear hj
    go_enter Try.func20, Try.ntmps20
    go_wp2_with fail
    refine (HX.out.chk HO.out).mono ?_
    rintro e w1 ⟨rfl, b1⟩
    have HX1 := Lib.hid (HX.out.next b1)
    obtain ⟨d0, d1, d2⟩ := tab_cells HX1.out.box
    clear b1 HX
    go_wp2_with fail
    go_ret2
    exact ⟨rfl, HX1.out.bel⟩
theorem tell_dom (T : BitVec 64) (bs : List (BitVec 64)) (ls : List Int) (b o cap b2 o2 cap2 : Nat) (w : World) (hc : SlC w b o (vals bs)) (hc2 : SlC w b2 o2 (ints ls)) (hok : OkT T bs ls) (c u : BitVec 64) (h : ¬ (ui c < (bs.length : Int) ∧ ui u < ui T)) :
    Calls Try.prog 23 #[.agg #[.int .u64 (ui T), .slice (some ⟨b, o, none⟩) bs.length cap, .slice (some ⟨b2, o2, none⟩) bs.length cap2], .int .u64 (ui c), .int .u64 (ui u)] w fun e w' => e = .returned (.tuple #[.int .i64 0, .int .i64 2]) ∧ Below w.heap.size w w' := by
  have HX := Lib.hid (BX.new T cap cap2 hc hc2)
  have HO := Lib.hid hok
  have hn2 := hok.n2
  clear hc hc2 hok
  by_cases h0 : (bs.length : Int) ≤ ui c
  · clear h
    rw [← ui_len _ hn2] at h0
    go_enter Try.func23, Try.ntmps23
    go_wp2_with fail
    refine (HX.out.chk HO.out).mono ?_
    rintro e w1 ⟨rfl, b1⟩
    have HX1 := Lib.hid (HX.out.next b1)
    obtain ⟨d0, d1, d2⟩ := tab_cells HX1.out.box
    clear b1 HX
    go_wp2_with fail
    go_ret2
    exact ⟨rfl, HX1.out.bel⟩
  · have h0' : ¬ ui (BitVec.ofNat 64 bs.length) ≤ ui c := by rw [ui_len _ hn2]; exact h0
    have h1 : ¬ ui u < ui T := fun hu => h ⟨by omega, hu⟩
    clear h h0
    go_enter Try.func23, Try.ntmps23
    go_wp2_with fail
    refine (HX.out.chk HO.out).mono ?_
    rintro e w1 ⟨rfl, b1⟩
    have HX1 := Lib.hid (HX.out.next b1)
    obtain ⟨d0, d1, d2⟩ := tab_cells HX1.out.box
    clear b1 HX
    go_wp2_with fail
    go_ret2
    exact ⟨rfl, HX1.out.bel⟩
/-- what a pair tells -/
def tellT (bs : List (BitVec 64)) (ls : List Int) (c : Nat) (u : BitVec 64) : Int := if ui u < ui (bs.getD c 0#64) then (c : Int) else ls.getD c 0
theorem tell_yes (T : BitVec 64) (bs : List (BitVec 64)) (ls : List Int) (b o cap b2 o2 cap2 : Nat) (w : World) (hc : SlC w b o (vals bs)) (hc2 : SlC w b2 o2 (ints ls)) (hok : OkT T bs ls) (c : Nat) (u : BitVec 64) (hcn : c < bs.length) (hu : ui u < ui T) :
    Calls Try.prog 23 #[.agg #[.int .u64 (ui T), .slice (some ⟨b, o, none⟩) bs.length cap, .slice (some ⟨b2, o2, none⟩) bs.length cap2], .int .u64 (c : Int), .int .u64 (ui u)] w fun e w' => e = .returned (.tuple #[.int .i64 (tellT bs ls c u), .int .i64 0]) ∧ Below w.heap.size w w' := by
  have HX := Lib.hid (BX.new T cap cap2 hc hc2)
  have HO := Lib.hid hok
  have hn2 := hok.n2
  have c1 := hc c _ (vals_get bs c hcn)
  have c2 := hc2 c _ (ints_get ls c (by rw [hok.na]; exact hcn))
  have hlt : b < w.heap.size := World.block_lt_of_cell? w _ c1
  have hlt2 : b2 < w.heap.size := World.block_lt_of_cell? w _ c2
  have hcn1 : (c : Int) < (bs.length : Int) := by omega
  have hcn2 : (0 : Int) ≤ (c : Int) := by omega
  have hcn3 : ¬ ui (BitVec.ofNat 64 bs.length) ≤ (c : Int) := by rw [ui_len _ hn2]; omega
  have hu' : ¬ ui T ≤ ui u := by omega
  unfold tellT
  rw [← getD_at bs c 0#64 hcn] at c1
  rw [← getD_at ls c 0 (by rw [hok.na]; exact hcn)] at c2
  clear hc hc2 hok hcn
  generalize bs.getD c 0#64 = x at *
  generalize ls.getD c 0 = a at *
  by_cases hx : ui u < ui x
  · rw [if_pos hx]
    go_enter Try.func23, Try.ntmps23
    go_wp2_with fail
    refine (HX.out.chk HO.out).mono ?_
    rintro e w1 ⟨rfl, b1⟩
    have HX1 := Lib.hid (HX.out.next b1)
    obtain ⟨d0, d1, d2⟩ := tab_cells HX1.out.box
    have e1 := (((below_new _ _).trans (b1.mono (below_new _ _).size)).cell (p := ⟨b, o + c, none⟩) hlt).trans c1
    have e2 := (((below_new _ _).trans (b1.mono (below_new _ _).size)).cell (p := ⟨b2, o2 + c, none⟩) hlt2).trans c2
    clear b1 HX c1 c2
    go_wp2_with fail
    go_ret2
    exact ⟨rfl, HX1.out.bel⟩
  · rw [if_neg hx]
    go_enter Try.func23, Try.ntmps23
    go_wp2_with fail
    refine (HX.out.chk HO.out).mono ?_
    rintro e w1 ⟨rfl, b1⟩
    have HX1 := Lib.hid (HX.out.next b1)
    obtain ⟨d0, d1, d2⟩ := tab_cells HX1.out.box
    have e1 := (((below_new _ _).trans (b1.mono (below_new _ _).size)).cell (p := ⟨b, o + c, none⟩) hlt).trans c1
    have e2 := (((below_new _ _).trans (b1.mono (below_new _ _).size)).cell (p := ⟨b2, o2 + c, none⟩) hlt2).trans c2
    clear b1 HX c1 c2
    go_wp2_with fail
    go_ret2
    exact ⟨rfl, HX1.out.bel⟩
theorem rtell_any (T : BitVec 64) (bs : List (BitVec 64)) (ls : List Int) (b o cap b2 o2 cap2 : Nat) (w : World) (hc : SlC w b o (vals bs)) (hc2 : SlC w b2 o2 (ints ls)) (hok : OkT T bs ls) (c : Nat) (u : BitVec 64) (hcn : c < bs.length) :
    Calls Try.prog 25 #[.agg #[.int .u64 (ui T), .slice (some ⟨b, o, none⟩) bs.length cap, .slice (some ⟨b2, o2, none⟩) bs.length cap2], .int .u64 (c : Int), .int .u64 (ui u)] w fun e w' => e = .returned (.int .i64 (tellT bs ls c u)) ∧ Below w.heap.size w w' := by
  have HX := Lib.hid (BX.new T cap cap2 hc hc2)
  have HO := Lib.hid hok
  have hn2 := hok.n2
  have c1 := hc c _ (vals_get bs c hcn)
  have c2 := hc2 c _ (ints_get ls c (by rw [hok.na]; exact hcn))
  have hlt : b < w.heap.size := World.block_lt_of_cell? w _ c1
  have hlt2 : b2 < w.heap.size := World.block_lt_of_cell? w _ c2
  have hcn1 : (c : Int) < (bs.length : Int) := by omega
  have hcn2 : (0 : Int) ≤ (c : Int) := by omega
  unfold tellT
  rw [← getD_at bs c 0#64 hcn] at c1
  rw [← getD_at ls c 0 (by rw [hok.na]; exact hcn)] at c2
  clear hc hc2 hok hcn
  generalize bs.getD c 0#64 = x at *
  generalize ls.getD c 0 = a at *
  by_cases hx : ui u < ui x
  · rw [if_pos hx]
    go_enter Try.func25, Try.ntmps25
    go_wp2_with fail
    go_ret
    exact ⟨rfl, below_new _ _⟩
  · rw [if_neg hx]
    go_enter Try.func25, Try.ntmps25
    go_wp2_with fail
    go_ret
    exact ⟨rfl, below_new _ _⟩
end Go.Proofs.Ytodflmngbkiemaa
