/- The walk of chapter 43's Build: what it makes of weights. No condition but on lengths. -/
import Derived.Test.YtodflmngbkiemaaW43g
import Derived.WalkMore
import Derived.RegionTactic
import Derived.BigRegion
import Derived.Deep.LoopGhost
import Derived.Deep.CutBlock
import Derived.Deep.DeepCutAuto
import Derived.Laws.NewBlocks
namespace Go.Proofs.Ytodflmngbkiemaa
open Go.RowKit
/-- the memory when the table is made -/
structure M4 (w0 w : World) (N0 B5 bb ba b0 o0 : Nat) (ws : List (BitVec 64)) (n : Nat) : Prop where
  bel : Below w0.heap.size w0 w
  rv : Blk w N0 27 #[.int .u64 0, .slice none 0 0, .slice none 0 0]
  tv : Blk w B5 27 #[.int .u64 0, .slice (some ⟨bb, 0, none⟩) n n, .slice (some ⟨ba, 0, none⟩) n n]
  rb : Blk w bb 24 (madeCells #[.int .u64 0] n)
  ra : Blk w ba 3 (madeCells #[.int .i64 0] n)
  h0 : w0.heap.size ≤ N0
  h5 : w0.heap.size ≤ B5
  hb : w0.heap.size ≤ bb
  ha : w0.heap.size ≤ ba
  n1 : N0 ≠ B5
  sc : SlC w b0 o0 (vals ws)
  hw : b0 < w0.heap.size
theorem size_alloc (w : World) (x : Obj) : (w.alloc x).heap.size = w.heap.size + 1 := by simp
theorem blk_at {w : World} {g : Nat} {t : TypeId} {cs : Array Value} (h : g = w.heap.size) : Blk (w.alloc (.cells cs t)) g t cs := by
  subst h; exact Blk.new _ _ _
theorem M4.toBM {w0 w : World} {N0 B5 bb ba b0 o0 n : Nat} {ws : List (BitVec 64)} (m : M4 w0 w N0 B5 bb ba b0 o0 ws n) :
    BM N0 B5 (w.heap.size + 1) bb ba w.heap.size b0 o0 ws n w0 ((w.alloc (.cells (madeCells #[.int .u64 0] n) 24)).alloc (.cells #[.slice (some ⟨w.heap.size, 0, none⟩) n n] 22)) 0#64 (List.replicate n 0#64) (List.replicate n 0) (List.replicate n 0#64) ∧
    BD w0.heap.size N0 B5 (w.heap.size + 1) bb ba w.heap.size b0 := by
  have hs := m.bel.size
  have rb := m.rb
  have ra := m.ra
  have hr : Blk (w.alloc (.cells (madeCells #[.int .u64 0] n) 24)) w.heap.size 24 (madeCells #[.int .u64 0] n) := Blk.new _ _ _
  rw [made_u64] at rb hr
  rw [made_int] at ra
  refine ⟨⟨(m.bel.alloc m.bel.size _).alloc (by rw [size_alloc]; omega) _, (m.rv.alloc _).alloc _, (m.tv.alloc _).alloc _, (rb.alloc _).alloc _, (ra.alloc _).alloc _, blk_at (size_alloc _ _).symm, ?_, (m.sc.below (below_new _ _)).below (below_new _ _)⟩, ⟨m.h0, m.h5, by omega, m.hb, m.ha, hs, m.hw, m.n1, Nat.ne_of_lt m.rb.lt⟩⟩
  rw [made_u64]
  exact hr.alloc _
/-- the first weights are laid -/
def L1 (N0 B5 B6 bb ba bh b0 o0 : Nat) (ws : List (BitVec 64)) (n : Nat) (w0 w : World) (k : Nat) : Prop :=
  ∃ al hs, al.length = n ∧ hs.length = n ∧ (∀ i, i < k → al.getD i 0 = (i : Int)) ∧ (∀ i, i < k → hs.getD i 0#64 = BitVec.ofNat 64 n * ws.getD i 0#64) ∧ BM N0 B5 B6 bb ba bh b0 o0 ws n w0 w (tS ws k) (List.replicate n 0#64) al hs
theorem L1.step {N0 B5 B6 bb ba bh b0 o0 n k : Nat} {ws : List (BitVec 64)} {w0 w : World} {al : List Int} {hs : List (BitVec 64)} {x : BitVec 64} (d : BD w0.heap.size N0 B5 B6 bb ba bh b0) (hk : k < n) (hx : ws.getD k 0#64 = x) (la : al.length = n) (lh : hs.length = n) (pa : ∀ i, i < k → al.getD i 0 = (i : Int)) (ph : ∀ i, i < k → hs.getD i 0#64 = BitVec.ofNat 64 n * ws.getD i 0#64) (h : BM N0 B5 B6 bb ba bh b0 o0 ws n w0 w (tS ws k) (List.replicate n 0#64) al hs) :
    L1 N0 B5 B6 bb ba bh b0 o0 ws n w0 (((w.setCell ⟨B5, 0, none⟩ (.int .u64 (ui (tS ws k + x)))).setCell ⟨bh, k, none⟩ (.int .u64 (ui (BitVec.ofNat 64 n * x)))).setCell ⟨ba, k, none⟩ (.int .i64 k)) (k + 1) := by
  refine ⟨al.set k k, hs.set k (BitVec.ofNat 64 n * x), by rw [List.length_set, la], by rw [List.length_set, lh], fun i hi => ?_, fun i hi => ?_, ?_⟩
  · rw [getD_set _ _ _ _ _ (by omega)]
    by_cases hik : i = k
    · rw [if_pos hik, hik]
    · rw [if_neg hik]; exact pa i (by omega)
  · rw [getD_set _ _ _ _ _ (by omega)]
    by_cases hik : i = k
    · rw [if_pos hik, hik, hx]
    · rw [if_neg hik]; exact ph i (by omega)
  · have h1 := ((h.setT d (tS ws k + x)).setH d k (BitVec.ofNat 64 n * x)).setA d k k
    rw [tS, hx]
    exact h1
theorem al_end {al : List Int} {n : Nat} (la : al.length = n) (pa : ∀ i, i < n → al.getD i 0 = (i : Int)) : al = (List.range n).map (fun (i : Nat) => (i : Int)) := by
  apply list_ext (0 : Int) (by rw [la, List.length_map, List.length_range])
  intro i hi
  rw [pa i (by omega), getD_range _ _ _ (by omega)]
theorem hs_end {hs ws : List (BitVec 64)} (lh : hs.length = ws.length) (ph : ∀ i, i < ws.length → hs.getD i 0#64 = BitVec.ofNat 64 ws.length * ws.getD i 0#64) : hs = ws.map (fun x => BitVec.ofNat 64 ws.length * x) := by
  apply list_ext 0#64 (by rw [lh, List.length_map])
  intro i hi
  rw [ph i (by omega), getD_map' _ _ _ 0#64 _ (by omega)]
/-- some columns are done -/
structure L2 (N0 B5 B6 bb ba bh b0 o0 B9 bd : Nat) (ws : List (BitVec 64)) (n : Nat) (w0 w : World) (T : BitVec 64) (s : Sta) : Prop where
  ex : ∃ bp, bp.length = n ∧ (∀ i, i < n → s.done.getD i true = true → bp.getD i 0#64 = s.bel.getD i 0#64) ∧ BM N0 B5 B6 bb ba bh b0 o0 ws n w0 w T bp s.ali s.has
  dv : Blk w B9 85 #[.slice (some ⟨bd, 0, none⟩) n n]
  dr : Blk w bd 4 (bools s.done).toArray
  inv : Inv T ws s
  run : runA T (cntS s) s = fin ws
  g9 : w0.heap.size ≤ B9
  gd : w0.heap.size ≤ bd
theorem BM.next_done {N0 B5 B6 bb ba bh b0 o0 n : Nat} {ws : List (BitVec 64)} {w0 w : World} {t : BitVec 64} {bp hs : List (BitVec 64)} {al : List Int} (h : BM N0 B5 B6 bb ba bh b0 o0 ws n w0 w t bp al hs) :
    BM N0 B5 B6 bb ba bh b0 o0 ws n w0 ((w.alloc (.cells (madeCells #[.bool false] n) 4)).alloc (.cells #[.slice (some ⟨w.heap.size, 0, none⟩) n n] 85)) t bp al hs ∧
    Blk ((w.alloc (.cells (madeCells #[.bool false] n) 4)).alloc (.cells #[.slice (some ⟨w.heap.size, 0, none⟩) n n] 85)) (w.heap.size + 1) 85 #[.slice (some ⟨w.heap.size, 0, none⟩) n n] ∧
    Blk ((w.alloc (.cells (madeCells #[.bool false] n) 4)).alloc (.cells #[.slice (some ⟨w.heap.size, 0, none⟩) n n] 85)) w.heap.size 4 (bools (List.replicate n false)).toArray ∧ w0.heap.size ≤ w.heap.size := by
  refine ⟨(h.alloc _).alloc _, blk_at (size_alloc _ _).symm, ?_, h.bel.size⟩
  have hr : Blk (w.alloc (.cells (madeCells #[.bool false] n) 4)) w.heap.size 4 (madeCells #[.bool false] n) := Blk.new _ _ _
  rw [made_bool] at hr
  rw [made_bool]
  exact hr.alloc _
theorem cnt0 (ws : List (BitVec 64)) (T : BitVec 64) : cntS (st0 ws T) = ws.length := by
  unfold cntS
  have l : (st0 ws T).done.length = ws.length := by simp [st0]
  rw [l, sumN_congr (g := fun _ => 1) (fun i hi => by rw [show (st0 ws T).done.getD i true = false from getD_rep _ _ _ _ hi, if_neg (by decide)]), sumN_one]
theorem l2_start {ws : List (BitVec 64)} {T : BitVec 64} (hok : OkW ws) (hT : tS ws ws.length = T) : Inv T ws (st0 ws T) ∧ runA T (cntS (st0 ws T)) (st0 ws T) = fin ws := by
  subst hT
  exact ⟨inv0 hok, by rw [cnt0]; rfl⟩
/-- the first columns that are not done are filled too -/
def L3 (N0 B5 B6 bb ba bh b0 o0 B9 bd : Nat) (ws : List (BitVec 64)) (n : Nat) (w0 w : World) (T : BitVec 64) (s : Sta) (k : Nat) : Prop :=
  ∃ bp, bp.length = n ∧ (∀ i, i < n → (i < k ∨ s.done.getD i true = true) → bp.getD i 0#64 = s.bel.getD i 0#64) ∧ BM N0 B5 B6 bb ba bh b0 o0 ws n w0 w T bp s.ali s.has ∧ Blk w B9 85 #[.slice (some ⟨bd, 0, none⟩) n n] ∧ Blk w bd 4 (bools s.done).toArray
theorem L3.skip {N0 B5 B6 bb ba bh b0 o0 B9 bd n k : Nat} {ws : List (BitVec 64)} {w0 w : World} {T : BitVec 64} {s : Sta} {bp : List (BitVec 64)} (lb : bp.length = n) (pb : ∀ i, i < n → (i < k ∨ s.done.getD i true = true) → bp.getD i 0#64 = s.bel.getD i 0#64) (hd : s.done.getD k true = true) (h : BM N0 B5 B6 bb ba bh b0 o0 ws n w0 w T bp s.ali s.has) (h2 : Blk w B9 85 #[.slice (some ⟨bd, 0, none⟩) n n]) (h3 : Blk w bd 4 (bools s.done).toArray) :
    L3 N0 B5 B6 bb ba bh b0 o0 B9 bd ws n w0 w T s (k + 1) := by
  refine ⟨bp, lb, fun i hi hik => pb i hi ?_, h, h2, h3⟩
  rcases hik with hik | hik
  · by_cases hk : i = k
    · rw [hk]; exact .inr hd
    · exact .inl (by omega)
  · exact .inr hik
theorem L3.fix {N0 B5 B6 bb ba bh b0 o0 B9 bd n k : Nat} {ws : List (BitVec 64)} {w0 w : World} {T : BitVec 64} {s : Sta} {bp : List (BitVec 64)} (d : BD w0.heap.size N0 B5 B6 bb ba bh b0) (lb : bp.length = n) (pb : ∀ i, i < n → (i < k ∨ s.done.getD i true = true) → bp.getD i 0#64 = s.bel.getD i 0#64) (hk : k < n) (hT : s.bel.getD k 0#64 = T) (h : BM N0 B5 B6 bb ba bh b0 o0 ws n w0 w T bp s.ali s.has) (h2 : Blk w B9 85 #[.slice (some ⟨bd, 0, none⟩) n n]) (h3 : Blk w bd 4 (bools s.done).toArray) :
    L3 N0 B5 B6 bb ba bh b0 o0 B9 bd ws n w0 (w.setCell ⟨bb, k, none⟩ (.int .u64 (ui T))) T s (k + 1) := by
  refine ⟨bp.set k T, by rw [List.length_set, lb], fun i hi hik => ?_, h.setB d k T, h2.far (p := ⟨bb, k, none⟩) (h2.ne_ h.rb (by decide)) _, h3.far (p := ⟨bb, k, none⟩) (h3.ne_ h.rb (by decide)) _⟩
  rw [getD_set _ _ _ _ _ (by omega)]
  by_cases hki : i = k
  · rw [if_pos hki, hki, hT]
  · rw [if_neg hki]
    exact pb i hi (by rcases hik with h | h; exact .inl (by omega); exact .inr h)
theorem BM.fin_mem {N0 B5 B6 bb ba bh b0 o0 n : Nat} {ws : List (BitVec 64)} {w0 w : World} {t : BitVec 64} {bp hs : List (BitVec 64)} {al : List Int} (h : BM N0 B5 B6 bb ba bh b0 o0 ws n w0 w t bp al hs) (d : BD w0.heap.size N0 B5 B6 bb ba bh b0) {x y z : Value} :
    Blk (((w.setCell ⟨N0, 0, none⟩ x).setCell ⟨N0, 1, none⟩ y).setCell ⟨N0, 2, none⟩ z) bb 24 (vals bp).toArray ∧ Blk (((w.setCell ⟨N0, 0, none⟩ x).setCell ⟨N0, 1, none⟩ y).setCell ⟨N0, 2, none⟩ z) ba 3 (ints al).toArray ∧ Below w0.heap.size w0 (((w.setCell ⟨N0, 0, none⟩ x).setCell ⟨N0, 1, none⟩ y).setCell ⟨N0, 2, none⟩ z) := by
  obtain ⟨e1, e2, e3, e4, e5, e6, e7, e8, e9, e10, e11, e12, e13⟩ := h.ne
  exact ⟨((h.rb.far (p := ⟨N0, 0, none⟩) e10.symm _).far (p := ⟨N0, 1, none⟩) e10.symm _).far (p := ⟨N0, 2, none⟩) e10.symm _, ((h.ra.far (p := ⟨N0, 0, none⟩) e11.symm _).far (p := ⟨N0, 1, none⟩) e11.symm _).far (p := ⟨N0, 2, none⟩) e11.symm _, ((h.bel.setCell (p := ⟨N0, 0, none⟩) d.h0 _).setCell (p := ⟨N0, 1, none⟩) d.h0 _).setCell (p := ⟨N0, 2, none⟩) d.h0 _⟩
theorem bel4 (w : World) (a b c d : Obj) : Below w.heap.size w ((((w.alloc a).alloc b).alloc c).alloc d).drew :=
  (((((Below.refl _ _).alloc (Nat.le_refl _) _).alloc (by rw [size_alloc]; omega) _).alloc (by rw [size_alloc, size_alloc]; omega) _).alloc (by rw [size_alloc, size_alloc, size_alloc]; omega) _).drew
theorem blk4_0 (w : World) (cs : Array Value) (t : TypeId) (b c d : Obj) : Blk ((((w.alloc (.cells cs t)).alloc b).alloc c).alloc d).drew w.heap.size t cs :=
  (((Blk.new w t cs).alloc b).alloc c).alloc d
theorem blk4_1 (w : World) (cs : Array Value) (t : TypeId) (a c d : Obj) : Blk ((((w.alloc a).alloc (.cells cs t)).alloc c).alloc d).drew (w.heap.size + 1) t cs :=
  ((blk_at (size_alloc w a).symm).alloc c).alloc d
theorem blk4_2 (w : World) (cs : Array Value) (t : TypeId) (a b d : Obj) : Blk ((((w.alloc a).alloc b).alloc (.cells cs t)).alloc d).drew (w.heap.size + 1 + 1) t cs :=
  (blk_at (by rw [size_alloc, size_alloc])).alloc d
theorem blk4_3 (w : World) (cs : Array Value) (t : TypeId) (a b c : Obj) : Blk ((((w.alloc a).alloc b).alloc c).alloc (.cells cs t)).drew (w.heap.size + 1 + 1 + 1) t cs :=
  blk_at (by rw [size_alloc, size_alloc, size_alloc])
/-- the rows, the variables and what is done -/
structure MD (N0 B5 B6 bb ba bh b0 o0 B9 bd : Nat) (ws : List (BitVec 64)) (n : Nat) (w0 w : World) (t : BitVec 64) (bp : List (BitVec 64)) (al : List Int) (hs : List (BitVec 64)) (ds : List Bool) : Prop where
  bm : BM N0 B5 B6 bb ba bh b0 o0 ws n w0 w t bp al hs
  dv : Blk w B9 85 #[.slice (some ⟨bd, 0, none⟩) n n]
  dr : Blk w bd 4 (bools ds).toArray
  gd : w0.heap.size ≤ bd
section
variable {N0 B5 B6 bb ba bh b0 o0 B9 bd n : Nat} {ws : List (BitVec 64)} {w0 w : World} {t : BitVec 64} {bp hs : List (BitVec 64)} {al : List Int} {ds : List Bool}
theorem MD.setB (h : MD N0 B5 B6 bb ba bh b0 o0 B9 bd ws n w0 w t bp al hs ds) (d : BD w0.heap.size N0 B5 B6 bb ba bh b0) (k : Nat) (x : BitVec 64) : MD N0 B5 B6 bb ba bh b0 o0 B9 bd ws n w0 (w.setCell ⟨bb, k, none⟩ (.int .u64 (ui x))) t (bp.set k x) al hs ds :=
  ⟨h.bm.setB d k x, h.dv.far (p := ⟨bb, k, none⟩) (h.dv.ne_ h.bm.rb (by decide)) _, h.dr.far (p := ⟨bb, k, none⟩) (h.dr.ne_ h.bm.rb (by decide)) _, h.gd⟩
theorem MD.setA (h : MD N0 B5 B6 bb ba bh b0 o0 B9 bd ws n w0 w t bp al hs ds) (d : BD w0.heap.size N0 B5 B6 bb ba bh b0) (k : Nat) (x : Int) : MD N0 B5 B6 bb ba bh b0 o0 B9 bd ws n w0 (w.setCell ⟨ba, k, none⟩ (.int .i64 x)) t bp (al.set k x) hs ds :=
  ⟨h.bm.setA d k x, h.dv.far (p := ⟨ba, k, none⟩) (h.dv.ne_ h.bm.ra (by decide)) _, h.dr.far (p := ⟨ba, k, none⟩) (h.dr.ne_ h.bm.ra (by decide)) _, h.gd⟩
theorem MD.setH (h : MD N0 B5 B6 bb ba bh b0 o0 B9 bd ws n w0 w t bp al hs ds) (d : BD w0.heap.size N0 B5 B6 bb ba bh b0) (k : Nat) (x : BitVec 64) : MD N0 B5 B6 bb ba bh b0 o0 B9 bd ws n w0 (w.setCell ⟨bh, k, none⟩ (.int .u64 (ui x))) t bp al (hs.set k x) ds :=
  ⟨h.bm.setH d k x, h.dv.far (p := ⟨bh, k, none⟩) (h.dv.ne_ h.bm.hr (by decide)) _, h.dr.far (p := ⟨bh, k, none⟩) (h.dr.ne_ h.bm.hr (by decide)) _, h.gd⟩
theorem MD.setD (h : MD N0 B5 B6 bb ba bh b0 o0 B9 bd ws n w0 w t bp al hs ds) (d : BD w0.heap.size N0 B5 B6 bb ba bh b0) (k : Nat) (x : Bool) : MD N0 B5 B6 bb ba bh b0 o0 B9 bd ws n w0 (w.setCell ⟨bd, k, none⟩ (.bool x)) t bp al hs (ds.set k x) :=
  ⟨h.bm.far d ⟨bd, k, none⟩ _ h.gd (h.bm.rv.ne_ h.dr (by decide)) (h.bm.tv.ne_ h.dr (by decide)) (h.bm.rb.ne_ h.dr (by decide)) (h.bm.ra.ne_ h.dr (by decide)) (h.bm.hv.ne_ h.dr (by decide)) (h.bm.hr.ne_ h.dr (by decide)), h.dv.far (p := ⟨bd, k, none⟩) (h.dv.ne_ h.dr (by decide)) _, bools_set ds k x ▸ h.dr.set_ k _, h.gd⟩
theorem MD.drew (h : MD N0 B5 B6 bb ba bh b0 o0 B9 bd ws n w0 w t bp al hs ds) : MD N0 B5 B6 bb ba bh b0 o0 B9 bd ws n w0 w.drew t bp al hs ds :=
  ⟨h.bm.drew, h.dv.drew, h.dr.drew, h.gd⟩
/-- the three stores, in any order -/
theorem MD.three (h : MD N0 B5 B6 bb ba bh b0 o0 B9 bd ws n w0 w t bp al hs ds) (d : BD w0.heap.size N0 B5 B6 bb ba bh b0) (k : Nat) (x : BitVec 64) (g : Int) :
    MD N0 B5 B6 bb ba bh b0 o0 B9 bd ws n w0 (((w.setCell ⟨bb, k, none⟩ (.int .u64 (ui x))).setCell ⟨ba, k, none⟩ (.int .i64 g)).setCell ⟨bd, k, none⟩ (.bool true)).drew t (bp.set k x) (al.set k g) hs (ds.set k true) :=
  (((h.setB d k x).setA d k g).setD d k true).drew
end
theorem L2.next {N0 B5 B6 bb ba bh b0 o0 B9 bd n j g : Nat} {ws : List (BitVec 64)} {w0 w w' : World} {T : BitVec 64} {s : Sta} {bp : List (BitVec 64)} {xj xg : BitVec 64} (hxj : s.has.getD j 0#64 = xj) (hxg : s.has.getD g 0#64 = xg) (hl : L2 N0 B5 B6 bb ba bh b0 o0 B9 bd ws n w0 w T s) (hn : n = ws.length) (hj : fidx (ltP T) s.has s.done = some j) (hg : fidx (gtP T) s.has s.done = some g) (lb : bp.length = n) (pb : ∀ i, i < n → s.done.getD i true = true → bp.getD i 0#64 = s.bel.getD i 0#64)
    (M : MD N0 B5 B6 bb ba bh b0 o0 B9 bd ws n w0 w' T (bp.set j xj) (s.ali.set j (g : Int)) (s.has.set g (xg - (T - xj))) (s.done.set j true)) : L2 N0 B5 B6 bb ba bh b0 o0 B9 bd ws n w0 w' T (nxt T s j g) := by
  subst hxj hxg
  obtain ⟨j1, g1, jg, hI, hcnt⟩ := inv_step hl.inv hj hg
  refine ⟨⟨_, by rw [List.length_set, lb], fun i hi hd => ?_, M.bm⟩, M.dv, M.dr, hI, ?_, hl.g9, hl.gd⟩
  · have e1 : (nxt T s j g).done.getD i true = if i = j then true else s.done.getD i true := getD_set _ _ _ _ _ (by rw [hl.inv.ld]; exact j1)
    have e2 : (nxt T s j g).bel.getD i 0#64 = if i = j then s.has.getD j 0#64 else s.bel.getD i 0#64 := getD_set _ _ _ _ _ (by rw [hl.inv.lb]; exact j1)
    rw [e1] at hd
    rw [e2, getD_set _ _ _ _ _ (by omega)]
    by_cases hij : i = j
    · rw [if_pos hij, if_pos hij]
    · rw [if_neg hij] at hd
      rw [if_neg hij, if_neg hij]
      exact pb i hi hd
  · rw [← hl.run, hcnt, runA_next _ _ _ hj hg]
set_option maxHeartbeats 2000000 in
theorem build_ok (ws : List (BitVec 64)) (b0 o0 cap : Nat) (w : World) (hc : SlC w b0 o0 (vals ws)) (hok : OkW ws) (h0 : tS ws ws.length ≠ 0#64) :
    Calls Try.prog 14 #[.slice (some ⟨b0, o0, none⟩) ws.length cap] w fun e w' => ∃ b1 b2, e = .returned (.tuple #[.agg #[.int .u64 (ui (tS ws ws.length)), .slice (some ⟨b1, 0, none⟩) ws.length ws.length, .slice (some ⟨b2, 0, none⟩) ws.length ws.length], .int .i64 0]) ∧ Blk w' b1 24 (vals (fin ws).bel).toArray ∧ Blk w' b2 3 (ints (fin ws).ali).toArray ∧ Below w.heap.size w w' := by
  have hn1 : ¬ ui (BitVec.ofNat 64 ws.length) < 1 := by rw [ui_len _ hok.n2]; have := hok.n1; omega
  have hn2 : ¬ 256 < ui (BitVec.ofNat 64 ws.length) := by rw [ui_len _ hok.n2]; have := hok.n2; omega
  have m1 := mk_u64 ws.length hok.n2
  have m2 := mk_int ws.length hok.n2
  have m3 := mk_bool ws.length hok.n2
  have hlt0 := hc.lt (by rw [vals_length]; exact hok.n1)
  go_enter Try.func14, Try.ntmps14
  go_wp2_with fail
  go_step3
  go_wp2_with fail
  go_cut [5] (fun s5 wx => ∃ B5 bb ba, s5 = .pointer (some ⟨B5, 0, none⟩) ∧ M4 w wx w.heap.size B5 bb ba b0 o0 ws ws.length)
  case first =>
    go_region
    all_goals clear m1 m2
    all_goals go_step
    all_goals (rename_i hJ hK; refine hK _ _ (Met.intro (hJ _ _ ?_)); (repeat apply Exists.intro); refine ⟨?_, rfl⟩)
    all_goals refine ⟨_, _, _, rfl, M4.mk (bel4 _ _ _ _ _) (blk4_0 _ _ _ _ _ _) (by first | exact blk4_1 _ _ _ _ _ _ | exact blk4_2 _ _ _ _ _ _ | exact blk4_3 _ _ _ _ _ _) (by first | exact blk4_1 _ _ _ _ _ _ | exact blk4_2 _ _ _ _ _ _ | exact blk4_3 _ _ _ _ _ _) (by first | exact blk4_1 _ _ _ _ _ _ | exact blk4_2 _ _ _ _ _ _ | exact blk4_3 _ _ _ _ _ _) (Nat.le_refl _) (by omega) (by omega) (by omega) (by omega) (hc.below (bel4 _ _ _ _ _)) hlt0⟩
  case rest =>
    obtain ⟨B5, bb, ba, rfl, m4⟩ := hcut
    obtain ⟨hbm, hbd⟩ := m4.toBM
    have HM := Lib.hid hbm
    have HD := Lib.hid hbd
    clear m4 hbm hbd
    go_wp2_with fail
    go_loopw [33] (fun i wr => ∃ k : Nat, k ≤ ws.length ∧ i = .int .i64 k ∧ L1 w.heap.size B5 (wc.heap.size + 1) bb ba wc.heap.size b0 o0 ws ws.length w wr k) (fun i _ => ws.length - (intOf i).toNat)
    case atStart => exact ⟨0, by omega, rfl, List.replicate ws.length 0, List.replicate ws.length 0#64, List.length_replicate, List.length_replicate, (fun i hi => absurd hi (by omega)), (fun i hi => absurd hi (by omega)), HM.out⟩
    case round =>
      obtain ⟨k, hk, rfl, al, hs, la, lh, pa, ph, hbm⟩ := hrel
      clear HM m1 m2
      have HB := Lib.hid hbm
      have HA := Lib.hid pa
      have HP := Lib.hid ph
      clear hbm pa ph
      obtain ⟨q1, q2, q3, q4, q5, q6, q7, q8, q9, q10, q11, q12, q13⟩ := HB.out.ne
      obtain ⟨d0, d1, d2⟩ := tab_cells HB.out.tv
      have v0 := HB.out.hv.cell 0
      by_cases hlt : k < ws.length
      · have hlt' : (k : Int) < (ws.length : Int) := by omega
        have hk' : (0 : Int) ≤ (k : Int) := by omega
        have c1 := HB.out.sc k _ (vals_get ws k hlt)
        rw [← getD_at ws k 0#64 hlt] at c1
        have hx : ¬ 4294967296 < ui (ws.getD k 0#64) := by have := hok.hw k hlt; rw [ui_toNat]; omega
        obtain ⟨x, hx0⟩ : ∃ x, ws.getD k 0#64 = x := ⟨_, rfl⟩
        rw [hx0] at c1 hx
        have HX := Lib.hid hx0
        clear hx0
        have e1 := blk_vals HB.out.hr k (by omega)
        have e2 := blk_ints HB.out.ra k (by omega)
        have f0 := HB.out.tv.frozen 0
        have f1 := HB.out.hr.frozen k
        have f2 := HB.out.ra.frozen k
        have hb5 : ¬ b0 = B5 := by have := HD.out.h5; omega
        have hbh : ¬ b0 = wc.heap.size := by have := HD.out.hh; omega
        have hba : ¬ b0 = ba := by have := HD.out.ha; omega
        generalize wc.heap.size = bh at *
        have hn3 := hok.n2
        go_wp2_with fail
        go_roundw
        case rel => exact ⟨k + 1, by omega, by go_num, L1.step HD.out hlt HX.out la lh HA.out HP.out HB.out⟩
        case measure => simp [intOf]; omega
      · have hk2 : k = ws.length := by omega
        subst hk2
        clear hlt d0 d1 d2 v0
        obtain rfl := al_end la HA.out
        obtain rfl := hs_end lh HP.out
        obtain ⟨T, hT⟩ : ∃ T, tS ws ws.length = T := ⟨_, rfl⟩
        have HT := Lib.hid hT
        rw [hT] at h0
        have hz : (T == 0#64) = false := by simpa using h0
        have HB2 := HB.out
        rw [hT] at HB2
        have HB := Lib.hid HB2
        obtain ⟨d0, d1, d2⟩ := tab_cells HB2.tv
        have v0 := HB2.hv.cell 0
        clear hT HB2
        generalize wc.heap.size = bh at *
        have hmf : ∀ (fn : Fn) (first cap : Array Value) (w : World), (Instr.makeFunc fn first cap).run Try.prog w = .ok (.func fn first cap) w := fun _ _ _ _ => rfl
        go_wp2_with fail
        go_step3
        go_wp2_with fail
        have HB3 := Lib.hid (HB.out.next_done)
        clear HB d0 d1 d2 v0
        generalize wr.heap.size = bd at *
        go_loopg [11] (cntS (st0 ws T)) (fun gk a wr => ∃ s, gk = cntS s ∧ L2 w.heap.size B5 (bh + 1) bb ba bh b0 o0 (bd + 1) bd ws ws.length w wr T s)
        case atStart =>
          obtain ⟨g1, g2, g3, g4⟩ := HB3.out
          obtain ⟨g5, g6⟩ := l2_start hok HT.out
          exact ⟨st0 ws T, rfl, ⟨List.replicate ws.length 0#64, List.length_replicate, (fun i hi hd => by rw [show (st0 ws T).done.getD i true = false from getD_rep _ _ _ _ hi] at hd; cases hd), g1⟩, g2, g3, g5, g6, by omega, g4⟩
        case round =>
          obtain ⟨s, rfl, hl2⟩ := hrel
          clear HB3 m3
          have hn3 := hok.n2
          obtain ⟨bp, lb, pb, hbm⟩ := hl2.ex
          have i1 := hl2.inv.lh
          have i2 := hl2.inv.ld
          have HB := Lib.hid hbm
          have HP := Lib.hid pb
          have H2 := Lib.hid hl2
          obtain ⟨t0, t1, t2⟩ := tab_cells hbm.tv
          have hv0 := hbm.hv.cell 0
          have dv0 := hl2.dv.cell 0
          clear hbm pb hl2
          rcases hfl : fidx (ltP T) s.has s.done with _ | j
          · have hc1 := first_lt T s.has s.done ws.length B5 (bh + 1) (bd + 1) bh bd ws.length ws.length wr t0 hv0 dv0 HB.out.hr H2.out.dr i1 i2 hn3
            rw [hfl, show posI none = -1 from rfl] at hc1
            have hfin : s = fin ws := by rw [← H2.out.run, runA_done _ hfl]
            have HF := Lib.hid hfin
            clear hfl hfin
            go_wp2_with fail
            refine hc1.mono ?_
            rintro e w' ⟨rfl, rfl⟩
            clear hc1
            go_wp2_with fail
            go_loopw [105] (fun i wq => ∃ k : Nat, k ≤ ws.length ∧ i = .int .i64 k ∧ L3 w.heap.size B5 (bh + 1) bb ba bh b0 o0 (bd + 1) bd ws ws.length w wq T s k) (fun i _ => ws.length - (intOf i).toNat)
            case atStart => exact ⟨0, by omega, rfl, bp, lb, (fun i hi hd => HP.out i hi (by rcases hd with h | h; exact absurd h (by omega); exact h)), HB.out, H2.out.dv, H2.out.dr⟩
            case round =>
              obtain ⟨k, hk, rfl, bq, lq, pq, hbm, hdv, hdr⟩ := hrel
              clear t0 t1 t2 hv0 dv0
              have HB' := Lib.hid hbm
              have HP' := Lib.hid pq
              have HD' := Lib.hid (And.intro hdv hdr)
              obtain ⟨t0, t1, t2⟩ := tab_cells hbm.tv
              have dv0 := hdv.cell 0
              clear hbm pq hdv hdr HB HP
              obtain ⟨q1, q2, q3, q4, q5, q6, q7, q8, q9, q10, q11, q12, q13⟩ := HB'.out.ne
              by_cases hlt : k < ws.length
              · have hlt' : (k : Int) < (ws.length : Int) := by omega
                have hk' : (0 : Int) ≤ (k : Int) := by omega
                have e1 := blk_vals HB'.out.rb k (by omega)
                have e2 := blk_bools HD'.out.2 k (by omega)
                have f1 := HB'.out.rb.frozen k
                cases hdk : s.done.getD k true with
                | true =>
                  rw [hdk] at e2
                  go_wp2_with fail
                  go_roundw
                  case rel => exact ⟨k + 1, by omega, by go_num, L3.skip lq HP'.out hdk HB'.out HD'.out.1 HD'.out.2⟩
                  case measure => simp [intOf]; omega
                | false =>
                  rw [hdk] at e2
                  have hbel := (H2.out.inv.nd k hlt hdk).1
                  go_wp2_with fail
                  go_roundw
                  case rel => exact ⟨k + 1, by omega, by go_num, L3.fix HD.out lq HP'.out hlt hbel HB'.out HD'.out.1 HD'.out.2⟩
                  case measure => simp [intOf]; omega
              · have hk2 : k = ws.length := by omega
                subst hk2
                clear hlt
                have hbq : bq = s.bel := by
                  apply list_ext 0#64 (by rw [lq, H2.out.inv.lb])
                  intro i hi
                  exact HP'.out i (by omega) (.inl (by omega))
                have HQ := Lib.hid hbq
                clear hbq
                obtain ⟨r0, r1, r2⟩ := tab_cells HB'.out.rv
                have f0 := HB'.out.rv.frozen 0
                have f1 := HB'.out.rv.frozen 1
                have f2 := HB'.out.rv.frozen 2
                have hn0 := HD.out.n1
                go_wp2_with fail
                rw [Exit.noGoto_ret]
                refine bodyPost_ret (v := .tuple #[.agg #[.int .u64 (ui T), .slice (some ⟨bb, 0, none⟩) ws.length ws.length, .slice (some ⟨ba, 0, none⟩) ws.length ws.length], .int .i64 0]) (by simp [results, Try.results14, go_sem, r0, r1, r2]) rfl ?_
                obtain ⟨z1, z2, z3⟩ := HB'.out.fin_mem HD.out
                rw [HQ.out, HF.out] at z1
                rw [HF.out] at z2
                exact ⟨bb, ba, by rw [HT.out], z1, z2, z3⟩
          · have hc1 := first_lt T s.has s.done ws.length B5 (bh + 1) (bd + 1) bh bd ws.length ws.length wr t0 hv0 dv0 HB.out.hr H2.out.dr i1 i2 hn3
            obtain ⟨g, hfg⟩ := inv_gt H2.out.inv hfl
            have hc2 := first_gt T s.has s.done ws.length B5 (bh + 1) (bd + 1) bh bd ws.length ws.length wr t0 hv0 dv0 HB.out.hr H2.out.dr i1 i2 hn3
            rw [hfl, show posI (some j) = (j : Int) from rfl] at hc1
            rw [hfg, show posI (some g) = (g : Int) from rfl] at hc2
            obtain ⟨j1, g1, jg, _, hcnt⟩ := inv_step H2.out.inv hfl hfg
            have HF := Lib.hid (And.intro hfl hfg)
            clear hfl hfg
            go_wp2_with fail
            refine hc1.mono ?_
            rintro e w' ⟨rfl, rfl⟩
            have hj0 : ¬ (j : Int) < 0 := by omega
            go_wp2_with fail
            refine hc2.mono ?_
            rintro e w' ⟨rfl, rfl⟩
            clear hc1 hc2
            have hjn : (j : Int) < (ws.length : Int) := by omega
            have hgn : (g : Int) < (ws.length : Int) := by omega
            have hj1 : (0 : Int) ≤ (j : Int) := by omega
            have hg1 : (0 : Int) ≤ (g : Int) := by omega
            obtain ⟨q1, q2, q3, q4, q5, q6, q7, q8, q9, q10, q11, q12, q13⟩ := HB.out.ne
            have q14 := HD.out.n2
            have e1 := blk_vals HB.out.hr j (by omega)
            have e2 := blk_vals HB.out.hr g (by omega)
            have e3 := blk_vals HB.out.rb j (by omega)
            have e4 := blk_ints HB.out.ra j (by rw [H2.out.inv.la]; exact j1)
            have e5 := blk_bools H2.out.dr j (by omega)
            have f3 := HB.out.rb.frozen j
            have f4 := HB.out.ra.frozen j
            have f5 := H2.out.dr.frozen j
            have f6 := HB.out.hr.frozen g
            have q15 : bd ≠ bb := H2.out.dr.ne_ HB.out.rb (by decide)
            have q16 : bd ≠ ba := H2.out.dr.ne_ HB.out.ra (by decide)
            have q17 : bd ≠ bh := H2.out.dr.ne_ HB.out.hr (by decide)
            have q18 : bd ≠ B5 := H2.out.dr.ne_ HB.out.tv (by decide)
            have q19 : bd ≠ bh + 1 := H2.out.dr.ne_ HB.out.hv (by decide)
            have q20 : bd + 1 ≠ bb := H2.out.dv.ne_ HB.out.rb (by decide)
            have q21 : bd + 1 ≠ ba := H2.out.dv.ne_ HB.out.ra (by decide)
            obtain ⟨xj, hxj⟩ : ∃ x, s.has.getD j 0#64 = x := ⟨_, rfl⟩
            obtain ⟨xg, hxg⟩ : ∃ x, s.has.getD g 0#64 = x := ⟨_, rfl⟩
            rw [hxj] at e1
            rw [hxg] at e2
            have HXX := Lib.hid (And.intro hxj hxg)
            clear hxj hxg
            have HM1 := Lib.hid (MD.mk HB.out H2.out.dv H2.out.dr H2.out.gd)
            go_wp2_with fail
            go_cut [] (fun wx => MD w.heap.size B5 (bh + 1) bb ba bh b0 o0 (bd + 1) bd ws ws.length w wx T (bp.set j xj) (s.ali.set j (g : Int)) s.has (s.done.set j true))
            case first =>
              go_region
              all_goals go_step
              all_goals (rename_i hJ hK; refine hK _ _ (Met.intro (hJ _ _ ?_)); (repeat apply Exists.intro); refine ⟨?_, rfl⟩)
              all_goals exact HM1.out.three HD.out j xj g
            case rest =>
              have HM2 := Lib.hid hcut
              clear hcut HM1 t0 t1 t2 hv0 dv0 e1 e2 e3 e4 e5 f3 f4 f5 f6 q1 q2 q3 q4 q5 q6 q7 q8 q9 q10 q11 q12 q13 q14 q15 q16 q17 q18 q19 q20 q21
              obtain ⟨t0, t1, t2⟩ := tab_cells HM2.out.bm.tv
              have hv0 := HM2.out.bm.hv.cell 0
              have e1 := blk_vals HM2.out.bm.hr j (by omega)
              have e2 := blk_vals HM2.out.bm.hr g (by omega)
              rw [HXX.out.1] at e1
              rw [HXX.out.2] at e2
              have f6 := HM2.out.bm.hr.frozen g
              have HM3 := Lib.hid ((HM2.out.setH HD.out g (xg - (T - xj))).drew)
              go_wp2_with fail
              go_region
              go_wp2_with fail
              go_roundg (cntS (nxt T s j g))
              case rel =>
                exact ⟨nxt T s j g, rfl, L2.next HXX.out.1 HXX.out.2 H2.out rfl HF.out.1 HF.out.2 lb HP.out HM3.out⟩
              case measure => omega
end Go.Proofs.Ytodflmngbkiemaa
