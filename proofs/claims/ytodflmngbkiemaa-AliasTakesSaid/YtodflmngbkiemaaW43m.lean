/- Chapter 43: the reference's comparison of tables that are alike; the weights told of a table that was built. No condition but on lengths. -/
import Derived.Test.YtodflmngbkiemaaW43l
namespace Go.Proofs.Ytodflmngbkiemaa
open Go.RowKit
theorem same_zero (w : World) : Calls Try.prog 16 #[.agg #[.int .u64 0, .slice none 0 0, .slice none 0 0], .agg #[.int .u64 0, .slice none 0 0, .slice none 0 0]] w fun e w' => e = .returned (.bool true) ∧ Below w.heap.size w w' := by
  have hb := (below_new w (.cells #[.int .u64 0, .slice none 0 0, .slice none 0 0] 27)).alloc (by rw [size_alloc]; omega) (.cells #[.int .u64 0, .slice none 0 0, .slice none 0 0] 27)
  go_enter Try.func16, Try.ntmps16
  go_wp2_with fail
  go_loop [33] (fun i => i = .int .i64 0) (fun _ => 0)
  case atStart => rfl
  case round =>
    obtain rfl := hrel
    go_wp2_with fail
    go_loop [51] (fun i => i = .int .i64 0) (fun _ => 0)
    case atStart => rfl
    case round =>
      obtain rfl := hrel
      go_wp2_with fail
      go_ret
      exact ⟨rfl, hb⟩
theorem BX.drewS {w0 w : World} {B b o cap b2 o2 cap2 : Nat} {T : BitVec 64} {bs : List (BitVec 64)} {ls : List Int} (h : BX w0 w B T bs ls b o cap b2 o2 cap2) : BX w0 w.drew B T bs ls b o cap b2 o2 cap2 :=
  ⟨h.bel.drew, h.box.drew, h.cb.below (Below.refl _ _).drew, h.ca.below (Below.refl _ _).drew⟩
theorem same_ok (T : BitVec 64) (bs : List (BitVec 64)) (ls : List Int) (b o cap b2 o2 cap2 b3 o3 cap3 b4 o4 cap4 : Nat) (w : World) (hc : SlC w b o (vals bs)) (hc2 : SlC w b2 o2 (ints ls)) (hc3 : SlC w b3 o3 (vals bs)) (hc4 : SlC w b4 o4 (ints ls)) (hok : OkT T bs ls) :
    Calls Try.prog 16 #[.agg #[.int .u64 (ui T), .slice (some ⟨b, o, none⟩) bs.length cap, .slice (some ⟨b2, o2, none⟩) bs.length cap2], .agg #[.int .u64 (ui T), .slice (some ⟨b3, o3, none⟩) bs.length cap3, .slice (some ⟨b4, o4, none⟩) bs.length cap4]] w fun e w' => e = .returned (.bool true) ∧ Below w.heap.size w w' := by
  have HX := Lib.hid ((BX.new T cap cap2 hc hc2).next (below_new _ (.cells #[.int .u64 (ui T), .slice (some ⟨b3, o3, none⟩) bs.length cap3, .slice (some ⟨b4, o4, none⟩) bs.length cap4] 27)))
  have HY := Lib.hid (show BX w ((w.alloc (.cells #[.int .u64 (ui T), .slice (some ⟨b, o, none⟩) bs.length cap, .slice (some ⟨b2, o2, none⟩) bs.length cap2] 27)).alloc (.cells #[.int .u64 (ui T), .slice (some ⟨b3, o3, none⟩) bs.length cap3, .slice (some ⟨b4, o4, none⟩) bs.length cap4] 27)) (w.heap.size + 1) T bs ls b3 o3 cap3 b4 o4 cap4 from
    ⟨HX.out.bel, blk_at (size_alloc _ _).symm, (hc3.below (below_new _ _)).below (below_new _ _), (hc4.below (below_new _ _)).below (below_new _ _)⟩)
  have HO := Lib.hid hok
  have hn2 := hok.n2
  clear hc hc2 hc3 hc4 hok
  go_enter Try.func16, Try.ntmps16
  go_wp2_with fail
  go_loopw [33] (fun i wr => ∃ k : Nat, k ≤ bs.length ∧ i = .int .i64 k ∧ BX w wr w.heap.size T bs ls b o cap b2 o2 cap2 ∧ BX w wr (w.heap.size + 1) T bs ls b3 o3 cap3 b4 o4 cap4) (fun i _ => bs.length - (intOf i).toNat)
  case atStart => exact ⟨0, by omega, rfl, HX.out, HY.out⟩
  case round =>
    obtain ⟨k, hk, rfl, hx, hy⟩ := hrel
    clear HX HY
    have HX := Lib.hid hx
    have HY := Lib.hid hy
    obtain ⟨d0, d1, d2⟩ := tab_cells hx.box
    obtain ⟨d3, d4, d5⟩ := tab_cells hy.box
    clear hx hy
    by_cases hlt : k < bs.length
    · have hlt' : (k : Int) < (bs.length : Int) := by omega
      have hk' : (0 : Int) ≤ (k : Int) := by omega
      obtain ⟨e1, _⟩ := HX.out.at HO.out k hlt
      obtain ⟨e3, _⟩ := HY.out.at HO.out k hlt
      generalize bs.getD k 0#64 = x at *
      go_wp2_with fail
      go_quiet (fail)
      go_wp2_with fail
      go_roundw
      case rel => exact ⟨k + 1, by omega, by go_num, HX.out.drewN _, HY.out.drewN _⟩
      case measure => simp [intOf]; omega
    · have hk2 : k = bs.length := by omega
      subst hk2
      clear hlt
      go_wp2_with fail
      go_loopw [51] (fun i wr => ∃ k : Nat, k ≤ bs.length ∧ i = .int .i64 k ∧ BX w wr w.heap.size T bs ls b o cap b2 o2 cap2 ∧ BX w wr (w.heap.size + 1) T bs ls b3 o3 cap3 b4 o4 cap4) (fun i _ => bs.length - (intOf i).toNat)
      case atStart => exact ⟨0, by omega, rfl, HX.out, HY.out⟩
      case round =>
        obtain ⟨k, hk, rfl, hx, hy⟩ := hrel
        clear HX HY d0 d1 d2 d3 d4 d5
        have HX := Lib.hid hx
        have HY := Lib.hid hy
        obtain ⟨d0, d1, d2⟩ := tab_cells hx.box
        obtain ⟨d3, d4, d5⟩ := tab_cells hy.box
        clear hx hy
        by_cases hlt : k < bs.length
        · have hlt' : (k : Int) < (bs.length : Int) := by omega
          have hk' : (0 : Int) ≤ (k : Int) := by omega
          obtain ⟨_, e1⟩ := HX.out.at HO.out k hlt
          obtain ⟨_, e3⟩ := HY.out.at HO.out k hlt
          generalize ls.getD k 0 = x at *
          go_wp2_with fail
          go_quiet (fail)
          go_wp2_with fail
          go_roundw
          case rel => exact ⟨k + 1, by omega, by go_num, HX.out.drewN _, HY.out.drewN _⟩
          case measure => simp [intOf]; omega
        · have hk2 : k = bs.length := by omega
          subst hk2
          clear hlt
          go_wp2_with fail
          go_ret
          exact ⟨rfl, HX.out.bel⟩
theorem nw_div {n : Nat} {x : BitVec 64} (h1 : 1 ≤ n) (h2 : (BitVec.ofNat 64 n * x).toNat = n * x.toNat) (hn : n ≤ 256) : (BitVec.ofNat 64 n * x) % BitVec.ofNat 64 n = 0#64 ∧ (BitVec.ofNat 64 n * x) / BitVec.ofNat 64 n = x := by
  have e : (BitVec.ofNat 64 n).toNat = n := by rw [BitVec.toNat_ofNat, Nat.mod_eq_of_lt (by omega)]
  constructor
  · apply BitVec.eq_of_toNat_eq
    rw [BitVec.toNat_umod, h2, e, Nat.mul_mod_right]
    rfl
  · apply BitVec.eq_of_toNat_eq
    rw [BitVec.toNat_udiv, h2, e, Nat.mul_div_cancel_left _ (by omega)]
theorem BX.grownR {w0 w w' : World} {B b o cap b2 o2 cap2 : Nat} {T : BitVec 64} {bs : List (BitVec 64)} {ls : List Int} {v : Value} {x : Obj} (h : BX w0 w B T bs ls b o cap b2 o2 cap2) (hg : (w.alloc x).grownBy w' v.ownBlock) (hl : ∀ k, v.ownBlock = some k → w0.heap.size ≤ k ∧ k < w.heap.size) (hB : v.ownBlock ≠ some B) (h1 : b < w0.heap.size) (h2 : b2 < w0.heap.size) : BX w0 w' B T bs ls b o cap b2 o2 cap2 := by
  have hb := (h.bel.alloc h.bel.size x).grown hg (by have := h.bel.size; rw [size_alloc]; omega) (fun k hk => (hl k hk).1)
  have hs := h.bel.size
  have hb2 := ((Below.refl w0.heap.size w).alloc hs x).grown hg (by rw [size_alloc]; omega) (fun k hk => (hl k hk).1)
  exact ⟨hb, (h.box.alloc x).grown hg hB.symm, h.cb.belowN hb2 h1, h.ca.belowN hb2 h2⟩
/-- weights that are told -/
def RWs (w0 : World) (ws : List (BitVec 64)) (e : Ending) (w' : World) : Prop := ∃ v, e = .returned (.tuple #[v, .bool true]) ∧ SlV w' v (vals ws) ∧ Below w0.heap.size w0 w'
theorem weights_ok (T : BitVec 64) (bs : List (BitVec 64)) (ls : List Int) (ws : List (BitVec 64)) (b o cap b2 o2 cap2 : Nat) (w : World) (hc : SlC w b o (vals bs)) (hc2 : SlC w b2 o2 (ints ls)) (hok : OkT T bs ls) (hw : OkW ws) (hl : ws.length = bs.length) (hs : ∀ i, i < bs.length → wS bs ls (i : Int) T bs.length = BitVec.ofNat 64 bs.length * ws.getD i 0#64) :
    Calls Try.prog 22 #[.agg #[.int .u64 (ui T), .slice (some ⟨b, o, none⟩) bs.length cap, .slice (some ⟨b2, o2, none⟩) bs.length cap2]] w (RWs w ws) := by
  obtain ⟨i0, hi, hz0, hz1, hz2⟩ := info_parts sh_info_u64
  have hb1 := hc.lt (by rw [vals_length]; exact hok.n1)
  have hb2 := hc2.lt (by rw [ints_length, hok.na]; exact hok.n1)
  have HX := Lib.hid (BX.new T cap cap2 hc hc2)
  have HO := Lib.hid hok
  have HW := Lib.hid hw
  have HS := Lib.hid hs
  have hn1 := hok.n1
  have hn2 := hok.n2
  have hnz : ¬ ui (BitVec.ofNat 64 bs.length) = 0 := by rw [ui_len _ hn2]; omega
  have HL := Lib.hid hl
  clear hc hc2 hok hw hs hl
  go_enter Try.func22, Try.ntmps22
  go_wp2_with fail
  refine (HX.out.chk HO.out).mono ?_
  rintro e w1 ⟨rfl, b1⟩
  have HX1 := Lib.hid (HX.out.next b1)
  obtain ⟨d0, d1, d2⟩ := tab_cells HX1.out.box
  clear b1 HX
  go_wp2_with fail
  go_loopw [5, 19] (fun v i wr => ∃ k : Nat, k ≤ bs.length ∧ i = .int .i64 k ∧ BX w wr w.heap.size T bs ls b o cap b2 o2 cap2 ∧ wr.ownsRow w.heap.size 24 1 v k (vals (ws.take k))) (fun _ i _ => bs.length - (intOf i).toNat)
  case atStart => exact ⟨0, by omega, rfl, HX1.out, World.ownsRow_nil _ _ _ _⟩
  case round =>
    obtain ⟨k, hk, rfl, hx, hown⟩ := hrel
    clear HX1 d0 d1 d2
    have HX := Lib.hid hx
    have HW0 := Lib.hid hown
    obtain ⟨d0, d1, d2⟩ := tab_cells hx.box
    clear hx hown
    by_cases hlt : k < bs.length
    · have hlt' : (k : Int) < (bs.length : Int) := by omega
      have hk' : (0 : Int) ≤ (k : Int) := by omega
      have hcall := weight_yes T bs ls b o cap b2 o2 cap2 _ HX.out.cb HX.out.ca HO.out k (by omega) (by omega)
      rw [HS.out k hlt] at hcall
      have hkl : k < ws.length := by rw [HL.out]; exact hlt
      have hnw := (nw_nat HW.out k hkl).1
      rw [HL.out] at hnw
      obtain ⟨m1, m2⟩ := nw_div hn1 hnw hn2
      have htk : ws.take (k + 1) = ws.take k ++ [ws.getD k 0#64] := by rw [getD_at ws k _ hkl, List.take_succ_eq_append_getElem hkl]
      have HT := Lib.hid htk
      clear hnw htk
      generalize ws.getD k 0#64 = x at *
      go_wp2_with fail
      refine hcall.mono ?_
      rintro e w2 ⟨rfl, bb⟩
      have HX2 := Lib.hid (HX.out.next bb)
      have HW2 := Lib.hid (owns_below HW0.out bb)
      clear bb HX HW0 hcall d0 d1 d2
      obtain ⟨d0, d1, d2⟩ := tab_cells HX2.out.box
      go_wp2_with (at_builtin; refine wpList_append_own _ rfl _ _ 22 rfl w.heap.size 24 i0 (.int .u64 0) 1 8 Try.underlying22 hi hz0 hz1 hz2 rfl (by decide) _ _ _ rfl (HW2.out.alloc _) ⟨w2.heap.size, 0, none⟩ 1 1 [.int .u64 (ui x)] rfl rfl ?a1 ?a2 ?a3 ?a4 ?a5 ?_)
      case a1 => exact cell_one_new _ _ _
      case a2 => intro u hu; simp at hu; subst hu; rfl
      case a3 => unfold maxLen; omega
      case a4 => omega
      case a5 => have := HX2.out.bel.size; simp; omega
      intro v3 w3 hown hgrow _
      have hbB := own_blk_ne (HW2.out.alloc (.cells #[.int .u64 (ui x)] 24)) (HX2.out.box.alloc (.cells #[.int .u64 (ui x)] 24)) (by decide)
      have HX3 := Lib.hid (HX2.out.grownR hgrow (fun q hq => (HW2.out.lt q hq)) hbB hb1 hb2)
      rw [← vals_app, ← HT.out] at hown
      have HW3 := Lib.hid hown
      clear hown hgrow HW2 HX2 hbB d0 d1 d2
      go_wp2_with fail
      go_roundw
      case rel => exact ⟨k + 1, by omega, by go_num, HX3.out, HW3.out⟩
      case measure => simp [intOf]; omega
    · have hk2 : k = bs.length := by omega
      subst hk2
      clear hlt
      go_wp2_with fail
      go_ret2
      have hv := SlV.of_owns HW0.out
      rw [← HL.out, List.take_length] at hv
      exact ⟨_, rfl, hv, HX.out.bel⟩
end Go.Proofs.Ytodflmngbkiemaa
