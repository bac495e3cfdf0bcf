/- The walk of the sum of two numbers of 256 bits. For every input. No condition. -/
import Derived.Test.YthiahpkodnfdcaaDoorL06f
import Derived.Laws.Externs
import Derived.Deep.RegionWith
namespace Go.Proofs.YthiahpkodnfdcaaDoor
open Go.RowKit
def aw (x y : BitVec 64) (c : Int) : BitVec 64 := BitVec.ofInt 64 (ui x + ui y + c)
def ac (x y : BitVec 64) (c : Int) : Int := (ui x + ui y + c) / 18446744073709551616
theorem ui_aw (x y : BitVec 64) (c : Int) : ui (aw x y c) = (ui x + ui y + c) % 18446744073709551616 := by
  unfold aw
  rw [ui_toNat, BitVec.toNat_ofInt]
  omega
theorem ac_0 (x y : BitVec 64) (c : Int) (h : 0 ≤ c) : 0 ≤ ac x y c := by
  have := x.isLt
  have := y.isLt
  unfold ac
  rw [ui_toNat, ui_toNat]
  omega
theorem ac_1 (x y : BitVec 64) (c : Int) (h : c ≤ 1) : ac x y c ≤ 1 := by
  have := x.isLt
  have := y.isLt
  unfold ac
  rw [ui_toNat, ui_toNat]
  omega
theorem add64_w (x y : BitVec 64) (c : Int) (h0 : 0 ≤ c) (h1 : c ≤ 1) (w : World) :
    (callFunc 40 #[.int .u64 (ui x), .int .u64 (ui y), .int .u64 c]).run Tryd.prog w = .ok (.value (.tuple #[.int .u64 (ui (aw x y c)), .int .u64 (ac x y c)])) w := by
  rw [run_callFunc_extern Tryd.func40 (by kernel_rfl) (by kernel_rfl) (by kernel_rfl) (e := add64Entry) (by kernel_rfl), run_add64 (ui x) (ui y) c (by rw [ui_toNat]; omega) (by rw [ui_toNat]; omega) h0 h1, ui_aw]
  rfl
/-- the sums from the lowest word on -/
inductive AD (s t : S4) : Nat → Int → S4 → Prop
  | z : AD s t 0 0 s
  | a (c : Int) (q : S4) : AD s t 0 c q → AD s t 1 (ac q.a t.a c) ⟨aw q.a t.a c, q.b, q.c, q.d⟩
  | b (c : Int) (q : S4) : AD s t 1 c q → AD s t 2 (ac q.b t.b c) ⟨q.a, aw q.b t.b c, q.c, q.d⟩
  | c (c : Int) (q : S4) : AD s t 2 c q → AD s t 3 (ac q.c t.c c) ⟨q.a, q.b, aw q.c t.c c, q.d⟩
  | d (c : Int) (q : S4) : AD s t 3 c q → AD s t 4 (ac q.d t.d c) ⟨q.a, q.b, q.c, aw q.d t.d c⟩
theorem AD.bound {s t : S4} {k : Nat} {c : Int} {q : S4} (h : AD s t k c q) : 0 ≤ c ∧ c ≤ 1 := by
  induction h with
  | z => decide
  | a c q _ ih => exact ⟨ac_0 _ _ _ ih.1, ac_1 _ _ _ ih.2⟩
  | b c q _ ih => exact ⟨ac_0 _ _ _ ih.1, ac_1 _ _ _ ih.2⟩
  | c c q _ ih => exact ⟨ac_0 _ _ _ ih.1, ac_1 _ _ _ ih.2⟩
  | d c q _ ih => exact ⟨ac_0 _ _ _ ih.1, ac_1 _ _ _ ih.2⟩
theorem aw_ac (x y : BitVec 64) (c : Int) : ui (aw x y c) + 18446744073709551616 * ac x y c = ui x + ui y + c := by
  rw [ui_aw]; unfold ac; omega
theorem nv_ls (s : S4) : (nv (ls s) : Int) = ui s.a + 18446744073709551616 * (ui s.b + 18446744073709551616 * (ui s.c + 18446744073709551616 * ui s.d)) := by
  unfold ls nv nv nv nv nv
  rw [ui_toNat, ui_toNat, ui_toNat, ui_toNat]
  omega
theorem AD.sum {s t : S4} {c : Int} {q : S4} (h : AD s t 4 c q) : (nv (ls q) : Int) + 2 ^ 256 * c = nv (ls s) + nv (ls t) := by
  cases h with
  | d c3 q3 h3 =>
    cases h3 with
    | c c2 q2 h2 =>
      cases h2 with
      | b c1 q1 h1 =>
        cases h1 with
        | a c0 q0 h0 =>
          cases h0 with
          | z =>
            rw [nv_ls, nv_ls, nv_ls]
            have e0 := aw_ac s.a t.a 0
            have e1 := aw_ac s.b t.b (ac s.a t.a 0)
            have e2 := aw_ac s.c t.c (ac s.b t.b (ac s.a t.a 0))
            have e3 := aw_ac s.d t.d (ac s.c t.c (ac s.b t.b (ac s.a t.a 0)))
            simp only at *
            omega
/-- what stands in Add4 -/
structure AX (w0 w : World) (q t : S4) : Prop where
  bel : Below w0.heap.size w0 w
  b1 : Blk w w0.heap.size 45 #[.int .u64 (ui q.a), .int .u64 (ui q.b), .int .u64 (ui q.c), .int .u64 (ui q.d)]
  b2 : Blk w (w0.heap.size + 1) 45 #[.int .u64 (ui t.a), .int .u64 (ui t.b), .int .u64 (ui t.c), .int .u64 (ui t.d)]
  b3 : Blk w (w0.heap.size + 1 + 1) 45 #[.int .u64 0, .int .u64 0, .int .u64 0, .int .u64 0]
theorem AX.set0 {w0 w : World} {q t : S4} (h : AX w0 w q t) (x : BitVec 64) : AX w0 (w.setCell ⟨w0.heap.size, 0, none⟩ (.int .u64 (ui x))) ⟨x, q.b, q.c, q.d⟩ t :=
  ⟨h.bel.setCell (p := ⟨w0.heap.size, 0, none⟩) (Nat.le_refl _) _, h.b1.set_ 0 _, h.b2.far (p := ⟨w0.heap.size, 0, none⟩) (by simp) _, h.b3.far (p := ⟨w0.heap.size, 0, none⟩) (by simp; omega) _⟩
theorem AX.set1 {w0 w : World} {q t : S4} (h : AX w0 w q t) (x : BitVec 64) : AX w0 (w.setCell ⟨w0.heap.size, 1, none⟩ (.int .u64 (ui x))) ⟨q.a, x, q.c, q.d⟩ t :=
  ⟨h.bel.setCell (p := ⟨w0.heap.size, 1, none⟩) (Nat.le_refl _) _, h.b1.set_ 1 _, h.b2.far (p := ⟨w0.heap.size, 1, none⟩) (by simp) _, h.b3.far (p := ⟨w0.heap.size, 1, none⟩) (by simp; omega) _⟩
theorem AX.set2 {w0 w : World} {q t : S4} (h : AX w0 w q t) (x : BitVec 64) : AX w0 (w.setCell ⟨w0.heap.size, 2, none⟩ (.int .u64 (ui x))) ⟨q.a, q.b, x, q.d⟩ t :=
  ⟨h.bel.setCell (p := ⟨w0.heap.size, 2, none⟩) (Nat.le_refl _) _, h.b1.set_ 2 _, h.b2.far (p := ⟨w0.heap.size, 2, none⟩) (by simp) _, h.b3.far (p := ⟨w0.heap.size, 2, none⟩) (by simp; omega) _⟩
theorem AX.set3 {w0 w : World} {q t : S4} (h : AX w0 w q t) (x : BitVec 64) : AX w0 (w.setCell ⟨w0.heap.size, 3, none⟩ (.int .u64 (ui x))) ⟨q.a, q.b, q.c, x⟩ t :=
  ⟨h.bel.setCell (p := ⟨w0.heap.size, 3, none⟩) (Nat.le_refl _) _, h.b1.set_ 3 _, h.b2.far (p := ⟨w0.heap.size, 3, none⟩) (by simp) _, h.b3.far (p := ⟨w0.heap.size, 3, none⟩) (by simp; omega) _⟩
theorem AX.drw {w0 w : World} {q t : S4} (h : AX w0 w q t) : AX w0 w.drew q t := ⟨h.bel.drew, h.b1.drew, h.b2.drew, h.b3.drew⟩
theorem AX.start (w : World) (s t : S4) : AX w (((w.alloc (c4 s)).alloc (c4 t)).alloc (.cells #[.int .u64 0, .int .u64 0, .int .u64 0, .int .u64 0] 45)) s t :=
  ⟨((Below.refl _ _).alloc (Nat.le_refl _) _ |>.alloc (by rw [size_alloc]; omega) _).alloc (by rw [size_alloc, size_alloc]; omega) _, ((Blk.new w _ _).alloc _).alloc _, (blk_at (size_alloc _ _).symm).alloc _, blk_at (by rw [size_alloc, size_alloc])⟩
set_option maxHeartbeats 2000000 in
theorem add4_any (s t : S4) (w : World) :
    Calls Tryd.prog 27 #[u4 s, u4 t] w fun e w' => (∃ c q, AD s t 4 c q ∧ e = .returned (.tuple #[u4 q, .bool (c == 1)])) ∧ Below w.heap.size w w' := by
  have HX := Lib.hid (AX.start w s t)
  go_enter Tryd.func27, Tryd.ntmps27
  go_wp2_with fail
  go_loopw [6, 8] (fun vc i wr => ∃ (k : Nat) (c : Int) (q : S4), i = .int .i64 (k : Int) ∧ vc = .int .u64 c ∧ AD s t k c q ∧ AX w wr q t) (fun _ i _ => (4 - intOf i).toNat)
  case atStart => exact ⟨0, 0, s, rfl, rfl, AD.z, HX.out⟩
  case round =>
    obtain ⟨k, c, q, rfl, rfl, had, hax⟩ := hrel
    clear HX
    obtain ⟨hc0, hc1⟩ := had.bound
    have HA := Lib.hid had
    have HX := Lib.hid hax
    obtain ⟨d0, d1, d2, d3⟩ := u4_cells hax.b1
    obtain ⟨e0, e1, e2, e3⟩ := u4_cells hax.b2
    have hk : k = 0 ∨ k = 1 ∨ k = 2 ∨ k = 3 ∨ k = 4 := by cases had <;> simp
    clear had hax
    rcases hk with rfl | rfl | rfl | rfl | rfl
    · have hA := add64_w q.a t.a c hc0 hc1
      have HX1 := Lib.hid ((HX.out.set0 (aw q.a t.a c)).drw)
      have HA1 := Lib.hid (AD.a c q HA.out)
      have f0 := HX.out.b1.frozen 0
      clear HX HA hc0 hc1
      generalize aw q.a t.a c = x at *
      generalize ac q.a t.a c = c1 at *
      go_wp2_with fail
      go_region_with (simp only [hA])
      all_goals go_wp2_with fail
      all_goals go_roundw
      all_goals first | exact ⟨1, c1, _, rfl, rfl, HA1.out, HX1.out⟩ | simp [intOf]
    · have hA := add64_w q.b t.b c hc0 hc1
      have HX1 := Lib.hid ((HX.out.set1 (aw q.b t.b c)).drw)
      have HA1 := Lib.hid (AD.b c q HA.out)
      have f0 := HX.out.b1.frozen 1
      clear HX HA hc0 hc1
      generalize aw q.b t.b c = x at *
      generalize ac q.b t.b c = c1 at *
      go_wp2_with fail
      go_region_with (simp only [hA])
      all_goals go_wp2_with fail
      all_goals go_roundw
      all_goals first | exact ⟨2, c1, _, rfl, rfl, HA1.out, HX1.out⟩ | simp [intOf]
    · have hA := add64_w q.c t.c c hc0 hc1
      have HX1 := Lib.hid ((HX.out.set2 (aw q.c t.c c)).drw)
      have HA1 := Lib.hid (AD.c c q HA.out)
      have f0 := HX.out.b1.frozen 2
      clear HX HA hc0 hc1
      generalize aw q.c t.c c = x at *
      generalize ac q.c t.c c = c1 at *
      go_wp2_with fail
      go_region_with (simp only [hA])
      all_goals go_wp2_with fail
      all_goals go_roundw
      all_goals first | exact ⟨3, c1, _, rfl, rfl, HA1.out, HX1.out⟩ | simp [intOf]
    · have hA := add64_w q.d t.d c hc0 hc1
      have HX1 := Lib.hid ((HX.out.set3 (aw q.d t.d c)).drw)
      have HA1 := Lib.hid (AD.d c q HA.out)
      have f0 := HX.out.b1.frozen 3
      clear HX HA hc0 hc1
      generalize aw q.d t.d c = x at *
      generalize ac q.d t.d c = c1 at *
      go_wp2_with fail
      go_region_with (simp only [hA])
      all_goals go_wp2_with fail
      all_goals go_roundw
      all_goals first | exact ⟨4, c1, _, rfl, rfl, HA1.out, HX1.out⟩ | simp [intOf]
    · have f0 := HX.out.b3.frozen 0
      have f1 := HX.out.b3.frozen 1
      have f2 := HX.out.b3.frozen 2
      have f3 := HX.out.b3.frozen 3
      obtain ⟨g0, g1, g2, g3⟩ := u4_cells HX.out.b3
      have hP := (((HX.out.b3.set_ 0 (.int .u64 (ui q.a))).set_ 1 (.int .u64 (ui q.b))).set_ 2 (.int .u64 (ui q.c))).set_ 3 (.int .u64 (ui q.d))
      have hbel := (((HX.out.bel.setCell (p := ⟨w.heap.size + 1 + 1, 0, none⟩) (Nat.le_succ_of_le (Nat.le_succ _)) (.int .u64 (ui q.a))).setCell (p := ⟨w.heap.size + 1 + 1, 1, none⟩) (Nat.le_succ_of_le (Nat.le_succ _)) (.int .u64 (ui q.b))).setCell (p := ⟨w.heap.size + 1 + 1, 2, none⟩) (Nat.le_succ_of_le (Nat.le_succ _)) (.int .u64 (ui q.c))).setCell (p := ⟨w.heap.size + 1 + 1, 3, none⟩) (Nat.le_succ_of_le (Nat.le_succ _)) (.int .u64 (ui q.d))
      have HP := Lib.hid hP
      have HB := Lib.hid hbel
      clear hP hbel
      go_wp2_with fail
      obtain ⟨z0, z1, z2, z3⟩ := u4_cells HP.out
      exact bodyPost_ret (v := .tuple #[u4 q, .bool (c == 1)]) (by simp [results, Tryd.results27, go_sem, z0, z1, z2, z3]) rfl ⟨⟨c, q, HA.out, rfl⟩, HB.out⟩
end Go.Proofs.YthiahpkodnfdcaaDoor
