/- The memory of chapter 43's Build: its rows and its variables, carried over what a walk stores. No condition. -/
import Derived.Test.YtodflmngbkiemaaW43f
import Derived.Deep.OwnRows
namespace Go.Proofs.Ytodflmngbkiemaa
open Go.RowKit
theorem mk_u64 (n : Nat) (hn : n ≤ 256) (w : World) : (Instr.makeSlice 22 (.int .u64 (ui (BitVec.ofNat 64 n))) (.int .u64 (ui (BitVec.ofNat 64 n)))).run Try.prog w = .ok (.slice (some ⟨w.heap.size, 0, none⟩) n n) (w.alloc (.cells (madeCells #[.int .u64 0] n) 24)) := by
  have h := run_make_row' (P := Try.prog) 22 24 (.int .u64 0) 8 Try.underlying22 (by kernel_rfl) rfl .u64 .u64 n (by omega) (by omega) w
  rw [← ui_len n hn] at h
  exact h
theorem mk_int (n : Nat) (hn : n ≤ 256) (w : World) : (Instr.makeSlice 25 (.int .u64 (ui (BitVec.ofNat 64 n))) (.int .u64 (ui (BitVec.ofNat 64 n)))).run Try.prog w = .ok (.slice (some ⟨w.heap.size, 0, none⟩) n n) (w.alloc (.cells (madeCells #[.int .i64 0] n) 3)) := by
  have h := run_make_row' (P := Try.prog) 25 3 (.int .i64 0) 8 Try.underlying25 (by kernel_rfl) rfl .u64 .u64 n (by omega) (by omega) w
  rw [← ui_len n hn] at h
  exact h
theorem mk_bool (n : Nat) (hn : n ≤ 256) (w : World) : (Instr.makeSlice 85 (.int .u64 (ui (BitVec.ofNat 64 n))) (.int .u64 (ui (BitVec.ofNat 64 n)))).run Try.prog w = .ok (.slice (some ⟨w.heap.size, 0, none⟩) n n) (w.alloc (.cells (madeCells #[.bool false] n) 4)) := by
  have h := run_make_row' (P := Try.prog) 85 4 (.bool false) 1 Try.underlying85 (by kernel_rfl) rfl .u64 .u64 n (by omega) (by omega) w
  rw [← ui_len n hn] at h
  exact h
theorem made_u64 (n : Nat) : madeCells #[.int .u64 0] n = (vals (List.replicate n 0#64)).toArray := by
  apply Array.toList_inj.1
  rw [toList_madeCells_one]
  unfold vals
  rw [List.map_replicate]
  rfl
theorem made_int (n : Nat) : madeCells #[.int .i64 0] n = (ints (List.replicate n 0)).toArray := by
  apply Array.toList_inj.1
  rw [toList_madeCells_one]
  unfold ints
  rw [List.map_replicate]
theorem made_bool (n : Nat) : madeCells #[.bool false] n = (bools (List.replicate n false)).toArray := by
  apply Array.toList_inj.1
  rw [toList_madeCells_one]
  unfold bools
  rw [List.map_replicate]
theorem vals_set (xs : List (BitVec 64)) (k : Nat) (x : BitVec 64) : (vals xs).toArray.setIfInBounds k (.int .u64 (ui x)) = (vals (xs.set k x)).toArray := by
  simp [vals, List.map_set]
theorem ints_set (xs : List Int) (k : Nat) (x : Int) : (ints xs).toArray.setIfInBounds k (.int .i64 x) = (ints (xs.set k x)).toArray := by
  simp [ints, List.map_set]
theorem bools_set (xs : List Bool) (k : Nat) (x : Bool) : (bools xs).toArray.setIfInBounds k (.bool x) = (bools (xs.set k x)).toArray := by
  simp [bools, List.map_set]
theorem SlC.far {w : World} {b o : Nat} {us : List Value} (h : SlC w b o us) {p : Addr} (hp : b ≠ p.block) (u : Value) : SlC (w.setCell p u) b o us := by
  intro i x hx
  rw [World.cell?_setCell_other _ _ _ _ (fun e => hp (by rw [e]))]
  exact h i x hx
/-- the rows and variables of Build -/
structure BM (N0 B5 B6 bb ba bh b0 o0 : Nat) (ws : List (BitVec 64)) (n : Nat) (w0 w : World) (t : BitVec 64) (bp : List (BitVec 64)) (al : List Int) (hs : List (BitVec 64)) : Prop where
  bel : Below w0.heap.size w0 w
  rv : Blk w N0 27 #[.int .u64 0, .slice none 0 0, .slice none 0 0]
  tv : Blk w B5 27 #[.int .u64 (ui t), .slice (some ⟨bb, 0, none⟩) n n, .slice (some ⟨ba, 0, none⟩) n n]
  rb : Blk w bb 24 (vals bp).toArray
  ra : Blk w ba 3 (ints al).toArray
  hv : Blk w B6 22 #[.slice (some ⟨bh, 0, none⟩) n n]
  hr : Blk w bh 24 (vals hs).toArray
  sc : SlC w b0 o0 (vals ws)
/-- how its blocks lie -/
structure BD (N N0 B5 B6 bb ba bh b0 : Nat) : Prop where
  h0 : N ≤ N0
  h5 : N ≤ B5
  h6 : N ≤ B6
  hb : N ≤ bb
  ha : N ≤ ba
  hh : N ≤ bh
  hw : b0 < N
  n1 : N0 ≠ B5
  n2 : bb ≠ bh
section
variable {N0 B5 B6 bb ba bh b0 o0 n : Nat} {ws : List (BitVec 64)} {w0 w : World} {t : BitVec 64} {bp hs : List (BitVec 64)} {al : List Int}
theorem BM.ne (h : BM N0 B5 B6 bb ba bh b0 o0 ws n w0 w t bp al hs) : B5 ≠ bb ∧ B5 ≠ ba ∧ B5 ≠ B6 ∧ B5 ≠ bh ∧ bb ≠ ba ∧ bb ≠ B6 ∧ ba ≠ B6 ∧ ba ≠ bh ∧ B6 ≠ bh ∧ N0 ≠ bb ∧ N0 ≠ ba ∧ N0 ≠ B6 ∧ N0 ≠ bh :=
  ⟨h.tv.ne_ h.rb (by decide), h.tv.ne_ h.ra (by decide), h.tv.ne_ h.hv (by decide), h.tv.ne_ h.hr (by decide), h.rb.ne_ h.ra (by decide), h.rb.ne_ h.hv (by decide), h.ra.ne_ h.hv (by decide), h.ra.ne_ h.hr (by decide), h.hv.ne_ h.hr (by decide), h.rv.ne_ h.rb (by decide), h.rv.ne_ h.ra (by decide), h.rv.ne_ h.hv (by decide), h.rv.ne_ h.hr (by decide)⟩
theorem BM.setT (h : BM N0 B5 B6 bb ba bh b0 o0 ws n w0 w t bp al hs) (d : BD w0.heap.size N0 B5 B6 bb ba bh b0) (t' : BitVec 64) : BM N0 B5 B6 bb ba bh b0 o0 ws n w0 (w.setCell ⟨B5, 0, none⟩ (.int .u64 (ui t'))) t' bp al hs := by
  obtain ⟨e1, e2, e3, e4, e5, e6, e7, e8, e9, e10, e11, e12, e13⟩ := h.ne
  have := d.h5
  have := d.hw
  exact ⟨h.bel.setCell (p := ⟨B5, 0, none⟩) d.h5 _, h.rv.far (p := ⟨B5, 0, none⟩) d.n1 _, h.tv.set_ 0 _, h.rb.far (p := ⟨B5, 0, none⟩) e1.symm _, h.ra.far (p := ⟨B5, 0, none⟩) e2.symm _, h.hv.far (p := ⟨B5, 0, none⟩) e3.symm _, h.hr.far (p := ⟨B5, 0, none⟩) e4.symm _, h.sc.far (p := ⟨B5, 0, none⟩) (by show b0 ≠ B5; omega) _⟩
theorem BM.setH (h : BM N0 B5 B6 bb ba bh b0 o0 ws n w0 w t bp al hs) (d : BD w0.heap.size N0 B5 B6 bb ba bh b0) (k : Nat) (x : BitVec 64) : BM N0 B5 B6 bb ba bh b0 o0 ws n w0 (w.setCell ⟨bh, k, none⟩ (.int .u64 (ui x))) t bp al (hs.set k x) := by
  obtain ⟨e1, e2, e3, e4, e5, e6, e7, e8, e9, e10, e11, e12, e13⟩ := h.ne
  have := d.hh
  have := d.hw
  exact ⟨h.bel.setCell (p := ⟨bh, k, none⟩) d.hh _, h.rv.far (p := ⟨bh, k, none⟩) e13 _, h.tv.far (p := ⟨bh, k, none⟩) e4 _, h.rb.far (p := ⟨bh, k, none⟩) d.n2 _, h.ra.far (p := ⟨bh, k, none⟩) e8 _, h.hv.far (p := ⟨bh, k, none⟩) e9 _, vals_set hs k x ▸ h.hr.set_ k _, h.sc.far (p := ⟨bh, k, none⟩) (by show b0 ≠ bh; omega) _⟩
theorem BM.setA (h : BM N0 B5 B6 bb ba bh b0 o0 ws n w0 w t bp al hs) (d : BD w0.heap.size N0 B5 B6 bb ba bh b0) (k : Nat) (x : Int) : BM N0 B5 B6 bb ba bh b0 o0 ws n w0 (w.setCell ⟨ba, k, none⟩ (.int .i64 x)) t bp (al.set k x) hs := by
  obtain ⟨e1, e2, e3, e4, e5, e6, e7, e8, e9, e10, e11, e12, e13⟩ := h.ne
  have := d.ha
  have := d.hw
  exact ⟨h.bel.setCell (p := ⟨ba, k, none⟩) d.ha _, h.rv.far (p := ⟨ba, k, none⟩) e11 _, h.tv.far (p := ⟨ba, k, none⟩) e2 _, h.rb.far (p := ⟨ba, k, none⟩) e5 _, ints_set al k x ▸ h.ra.set_ k _, h.hv.far (p := ⟨ba, k, none⟩) e7.symm _, h.hr.far (p := ⟨ba, k, none⟩) e8.symm _, h.sc.far (p := ⟨ba, k, none⟩) (by show b0 ≠ ba; omega) _⟩
theorem BM.setB (h : BM N0 B5 B6 bb ba bh b0 o0 ws n w0 w t bp al hs) (d : BD w0.heap.size N0 B5 B6 bb ba bh b0) (k : Nat) (x : BitVec 64) : BM N0 B5 B6 bb ba bh b0 o0 ws n w0 (w.setCell ⟨bb, k, none⟩ (.int .u64 (ui x))) t (bp.set k x) al hs := by
  obtain ⟨e1, e2, e3, e4, e5, e6, e7, e8, e9, e10, e11, e12, e13⟩ := h.ne
  have := d.hb
  have := d.hw
  exact ⟨h.bel.setCell (p := ⟨bb, k, none⟩) d.hb _, h.rv.far (p := ⟨bb, k, none⟩) e10 _, h.tv.far (p := ⟨bb, k, none⟩) e1 _, vals_set bp k x ▸ h.rb.set_ k _, h.ra.far (p := ⟨bb, k, none⟩) e5.symm _, h.hv.far (p := ⟨bb, k, none⟩) e6.symm _, h.hr.far (p := ⟨bb, k, none⟩) d.n2.symm _, h.sc.far (p := ⟨bb, k, none⟩) (by show b0 ≠ bb; omega) _⟩
theorem BM.far (h : BM N0 B5 B6 bb ba bh b0 o0 ws n w0 w t bp al hs) (d : BD w0.heap.size N0 B5 B6 bb ba bh b0) (p : Addr) (u : Value) (hp : w0.heap.size ≤ p.block) (q0 : N0 ≠ p.block) (q1 : B5 ≠ p.block) (q2 : bb ≠ p.block) (q3 : ba ≠ p.block) (q4 : B6 ≠ p.block) (q5 : bh ≠ p.block) : BM N0 B5 B6 bb ba bh b0 o0 ws n w0 (w.setCell p u) t bp al hs := by
  have := d.hw
  exact ⟨h.bel.setCell hp _, h.rv.far q0 _, h.tv.far q1 _, h.rb.far q2 _, h.ra.far q3 _, h.hv.far q4 _, h.hr.far q5 _, h.sc.far (by omega) _⟩
theorem BM.alloc (h : BM N0 B5 B6 bb ba bh b0 o0 ws n w0 w t bp al hs) (x : Obj) : BM N0 B5 B6 bb ba bh b0 o0 ws n w0 (w.alloc x) t bp al hs :=
  ⟨h.bel.alloc h.bel.size _, h.rv.alloc _, h.tv.alloc _, h.rb.alloc _, h.ra.alloc _, h.hv.alloc _, h.hr.alloc _, h.sc.below (below_new _ _)⟩
theorem BM.drew (h : BM N0 B5 B6 bb ba bh b0 o0 ws n w0 w t bp al hs) : BM N0 B5 B6 bb ba bh b0 o0 ws n w0 w.drew t bp al hs :=
  ⟨h.bel.drew, h.rv.drew, h.tv.drew, h.rb.drew, h.ra.drew, h.hv.drew, h.hr.drew, h.sc.below (Below.refl _ _).drew⟩
end
end Go.Proofs.Ytodflmngbkiemaa
