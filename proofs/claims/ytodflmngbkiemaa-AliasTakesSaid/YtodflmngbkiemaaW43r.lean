/- The walks of the reference's Take of chapter 43 and of its comparison of draws. No condition but on lengths. -/
import Derived.Test.YtodflmngbkiemaaW43q
namespace Go.Proofs.Ytodflmngbkiemaa
open Go.RowKit
def RTn (w : World) (n : Int) (e : Ending) (w' : World) : Prop := e = .returned (.tuple #[.int .i64 0, .slice none 0 0, .int .i64 n, .bool false]) ∧ Below w.heap.size w w'
def RTy (w : World) (i n : Int) (dr : List Value) (e : Ending) (w' : World) : Prop := ∃ v, e = .returned (.tuple #[.int .i64 i, v, .int .i64 n, .bool true]) ∧ RA w w' v 2 dr
theorem lit_slc (w : World) (n1 T : BitVec 64) : SlC (w.alloc (.cells #[.int .u64 (ui n1), .int .u64 (ui T)] 24)) w.heap.size 0 (vals [n1, T]) := by
  intro i u hu
  have h := (Blk.new w 24 #[.int .u64 (ui n1), .int .u64 (ui T)]).cell i
  rw [Nat.zero_add, h]
  rw [← hu]
  unfold vals
  rcases i with _ | _ | i <;> rfl
theorem rtake_none (T n1 : BitVec 64) (bs : List (BitVec 64)) (ls : List Int) (b o cap b2 o2 cap2 : Nat) (w : World) (hc : SlC w b o (vals bs)) (hc2 : SlC w b2 o2 (ints ls)) (va : Value) (xs : List (BitVec 64)) (hv : SlV w va (vals xs)) (hn1 : BitVec.ofNat 64 bs.length = n1)
    (hrow : ∀ w1 bl cl, SlC w1 bl 0 (vals [n1, T]) → SlV w1 va (vals xs) → Calls Try.prog 71 #[va, .slice (some ⟨bl, 0, none⟩) 2 cl] w1 (RRn w1 xs.length)) :
    Calls Try.prog 46 #[va, .agg #[.int .u64 (ui T), .slice (some ⟨b, o, none⟩) bs.length cap, .slice (some ⟨b2, o2, none⟩) bs.length cap2]] w (RTn w xs.length) := by
  have HX := Lib.hid (BX.new T cap cap2 hc hc2)
  have HV := Lib.hid (hv.below HX.out.bel)
  have HR := Lib.hid hrow
  clear hc hc2 hv hrow
  go_enter Try.func46, Try.ntmps46
  go_wp2_with fail
  have hk := HR.out _ _ 2 (lit_slc (w.alloc (.cells #[.int .u64 (ui T), .slice (some ⟨b, o, none⟩) bs.length cap, .slice (some ⟨b2, o2, none⟩) bs.length cap2] 27)) n1 T) (HV.out.below (below_new _ _))
  rw [size_alloc] at hk
  refine hk.mono ?_
  rintro e w2 ⟨rfl, bb⟩
  have hb := (HX.out.bel.alloc HX.out.bel.size (.cells #[.int .u64 (ui n1), .int .u64 (ui T)] 24))
  have hb2 := hb.trans (bb.mono hb.size)
  clear hk bb hb
  go_wp2_with fail
  refine bodyPost_ret (v := .tuple #[.int .i64 0, .slice none 0 0, .int .i64 (xs.length : Int), .bool false]) (by simp [results, Try.results46, go_sem]) rfl ?_
  exact ⟨rfl, hb2⟩
theorem BX.alloc {w0 w : World} {B b o cap b2 o2 cap2 : Nat} {T : BitVec 64} {bs : List (BitVec 64)} {ls : List Int} (h : BX w0 w B T bs ls b o cap b2 o2 cap2) (x : Obj) : BX w0 (w.alloc x) B T bs ls b o cap b2 o2 cap2 := h.next (below_new _ _)
theorem RA.mono0 {w w1 w2 : World} {v : Value} {m : Nat} {dr : List Value} (h : RA w1 w2 v m dr) (hb : Below w.heap.size w w1) : RA w w2 v m dr :=
  ⟨hb.trans (h.bel.mono hb.size), owns_mono h.own hb.size⟩
set_option maxHeartbeats 1000000 in
theorem rtake_both (T n1 : BitVec 64) (bs : List (BitVec 64)) (ls : List Int) (b o cap b2 o2 cap2 : Nat) (w : World) (hc : SlC w b o (vals bs)) (hc2 : SlC w b2 o2 (ints ls)) (hok : OkT T bs ls) (va : Value) (xs : List (BitVec 64)) (hv : SlV w va (vals xs)) (hn1 : BitVec.ofNat 64 bs.length = n1)
    (a1 r1 : BitVec 64) (u1 : Int) (a2 r2 : BitVec 64) (u2 : Int) (c : Nat) (hcn : c < bs.length) (hca : ui a1 = (c : Int))
    (hrow : ∀ w1 bl cl, SlC w1 bl 0 (vals [n1, T]) → SlV w1 va (vals xs) → Calls Try.prog 71 #[va, .slice (some ⟨bl, 0, none⟩) 2 cl] w1 (RRy w1 (u1 + u2) (drC a1 r1 u1 ++ drC a2 r2 u2))) :
    Calls Try.prog 46 #[va, .agg #[.int .u64 (ui T), .slice (some ⟨b, o, none⟩) bs.length cap, .slice (some ⟨b2, o2, none⟩) bs.length cap2]] w (RTy w (tellT bs ls c a2) (u1 + u2) (drC a1 r1 u1 ++ drC a2 r2 u2)) := by
  have HX := Lib.hid (BX.new T cap cap2 hc hc2)
  have HV := Lib.hid (hv.below HX.out.bel)
  have HR := Lib.hid hrow
  have HO := Lib.hid hok
  have HCA := Lib.hid hca
  clear hc hc2 hv hrow hok hca
  generalize hu : u1 + u2 = uu at *
  have HU := Lib.hid hu
  clear hu
  go_enter Try.func46, Try.ntmps46
  go_wp2_with fail
  have hk := HR.out _ _ 2 (lit_slc (w.alloc (.cells #[.int .u64 (ui T), .slice (some ⟨b, o, none⟩) bs.length cap, .slice (some ⟨b2, o2, none⟩) bs.length cap2] 27)) n1 T) (HV.out.below (below_new _ _))
  rw [size_alloc] at hk
  refine hk.mono ?_
  rintro e w2 ⟨v, rfl, ra⟩
  have hb := (HX.out.bel.alloc HX.out.bel.size (.cells #[.int .u64 (ui n1), .int .u64 (ui T)] 24))
  have HX2 := Lib.hid ((HX.out.alloc (.cells #[.int .u64 (ui n1), .int .u64 (ui T)] 24)).next ra.bel)
  have HA := Lib.hid (ra.mono0 hb)
  obtain ⟨g, cg, rfl, hg, hgl⟩ := ra.own.form (by omega)
  have e1 := ra.own.cellAt 0 (by omega)
  have e2 := ra.own.cellAt 3 (by omega)
  rw [show (drC a1 r1 u1 ++ drC a2 r2 u2)[0]? = some (.int .u64 (ui a1)) from rfl, HCA.out] at e1
  rw [show (drC a1 r1 u1 ++ drC a2 r2 u2)[3]? = some (.int .u64 (ui a2)) from rfl] at e2
  obtain ⟨d0, d1, d2⟩ := tab_cells HX2.out.box
  clear hk hb ra HX HV HR hg
  go_wp2_with fail
  go_region_with (first
    | (go_at_call 25; (first | refine (rtell_any T bs ls b o cap b2 o2 cap2 _ HX2.out.cb HX2.out.ca HO.out c a2 hcn).mono ?_ | refine (rtell_any T bs ls b o cap b2 o2 cap2 _ HX2.out.cb.drewS HX2.out.ca.drewS HO.out c a2 hcn).mono ?_); rintro e w9 ⟨rfl, bb⟩; (first | have HA9 := Lib.hid (HA.out.next bb) | have HA9 := Lib.hid ((HA.out.next (Below.refl _ _).drew).next bb)); clear bb))
  all_goals go_wp2_with fail
  all_goals refine bodyPost_ret (v := .tuple #[.int .i64 (tellT bs ls c a2), .slice (some ⟨g, 0, none⟩) 2 cg, .int .i64 uu, .bool true]) (by simp [results, Try.results46, go_sem]) rfl ?_
  all_goals exact ⟨_, rfl, HA9.out⟩
theorem dsame_ok (a1 r1 : BitVec 64) (u1 : Int) (a2 r2 : BitVec 64) (u2 : Int) (n0 n0' : Nat) (v v' : Value) (w : World) (h : w.ownsRow n0 57 3 v 2 (drC a1 r1 u1 ++ drC a2 r2 u2)) (h' : w.ownsRow n0' 57 3 v' 2 (drC a1 r1 u1 ++ drC a2 r2 u2)) :
    Calls Try.prog 47 #[v, v'] w fun e w' => e = .returned (.bool true) ∧ Below w.heap.size w w' := by
  obtain ⟨g, cg, rfl, _, hgl⟩ := h.form (by omega)
  obtain ⟨g', cg', rfl, _, hgl'⟩ := h'.form (by omega)
  have e0 : w.cell? ⟨g, 0, none⟩ = some (.int .u64 (ui a1)) := h.cellAt 0 (by omega)
  have e1 : w.cell? ⟨g, 1, none⟩ = some (.int .u64 (ui r1)) := h.cellAt 1 (by omega)
  have e2 : w.cell? ⟨g, 2, none⟩ = some (.int .i64 u1) := h.cellAt 2 (by omega)
  have e3 : w.cell? ⟨g, 3, none⟩ = some (.int .u64 (ui a2)) := h.cellAt 3 (by omega)
  have e4 : w.cell? ⟨g, 4, none⟩ = some (.int .u64 (ui r2)) := h.cellAt 4 (by omega)
  have e5 : w.cell? ⟨g, 5, none⟩ = some (.int .i64 u2) := h.cellAt 5 (by omega)
  have d0 : w.cell? ⟨g', 0, none⟩ = some (.int .u64 (ui a1)) := h'.cellAt 0 (by omega)
  have d1 : w.cell? ⟨g', 1, none⟩ = some (.int .u64 (ui r1)) := h'.cellAt 1 (by omega)
  have d2 : w.cell? ⟨g', 2, none⟩ = some (.int .i64 u1) := h'.cellAt 2 (by omega)
  have d3 : w.cell? ⟨g', 3, none⟩ = some (.int .u64 (ui a2)) := h'.cellAt 3 (by omega)
  have d4 : w.cell? ⟨g', 4, none⟩ = some (.int .u64 (ui r2)) := h'.cellAt 4 (by omega)
  have d5 : w.cell? ⟨g', 5, none⟩ = some (.int .i64 u2) := h'.cellAt 5 (by omega)
  clear h h'
  go_enter Try.func47, Try.ntmps47
  go_wp2_with fail
  go_loopw [13] (fun i wr => ∃ k : Nat, k ≤ 2 ∧ i = .int .i64 k ∧ ∃ q, wr = w.drewN q) (fun i _ => 2 - (intOf i).toNat)
  case atStart => exact ⟨0, by omega, rfl, 0, rfl⟩
  case round =>
    obtain ⟨k, hk, rfl, q, rfl⟩ := hrel
    rcases k with _ | _ | k
    · go_wp2_with fail
      go_quiet (fail)
      go_wp2_with fail
      go_roundw
      case rel => exact ⟨1, by omega, by go_num, _, rfl⟩
      case measure => simp [intOf]
    · go_wp2_with fail
      go_quiet (fail)
      go_wp2_with fail
      go_roundw
      case rel => exact ⟨2, by omega, by go_num, _, rfl⟩
      case measure => simp [intOf]
    · obtain rfl : k = 0 := by omega
      go_wp2_with fail
      go_ret
      exact ⟨rfl, below_drewN (Below.refl _ _) _⟩
end Go.Proofs.Ytodflmngbkiemaa
