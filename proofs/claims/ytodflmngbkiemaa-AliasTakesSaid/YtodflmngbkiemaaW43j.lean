/- The memory of the reference's Build of chapter 43: four rows that grow, its table. No condition. -/
import Derived.Test.YtodflmngbkiemaaW43h
import Derived.Maps.AppendAt
import Derived.Laws.OwnMore
import Derived.Deep.AppendLies
import Derived.OneCell
namespace Go.Proofs.Ytodflmngbkiemaa
open Go.RowKit
theorem info_bool : (Try.prog.info? 4).map (fun i => (i.zero, i.size, i.bytes)) = some (some (.bool false), 1, 1) := by kernel_rfl
theorem own_own_ne {w : World} {b1 b2 : Nat} {e1 e2 : TypeId} {s1 s2 n1 n2 : Nat} {v1 v2 : Value} {x1 x2 : List Value} (h1 : w.ownsRow b1 e1 s1 v1 n1 x1) (h2 : w.ownsRow b2 e2 s2 v2 n2 x2) (hne : e1 ≠ e2) : v1.ownBlock = none ∨ v1.ownBlock ≠ v2.ownBlock := by
  rcases h1.2 with ⟨rfl, _⟩ | ⟨g1, c1, cur1, rfl, _, hg1, _⟩
  · exact .inl rfl
  · rcases h2.2 with ⟨rfl, _⟩ | ⟨g2, c2, cur2, rfl, _, hg2, _⟩
    · exact .inr (by simp [Value.ownBlock])
    · refine .inr fun e => hne ?_
      have e' : g1 = g2 := by simpa [Value.ownBlock] using e
      subst e'
      rw [hg1] at hg2
      simpa using (congrArg (fun o => match o with | some (Obj.cells _ t _) => t | _ => e1) hg2)
/-- the rows and the table of the reference's Build -/
structure RB (N0 B3 b0 o0 : Nat) (ws : List (BitVec 64)) (w0 w : World) (T : BitVec 64) (vh vd vb va : Value) (hs : List (BitVec 64)) (ds : List Bool) (bp : List (BitVec 64)) (al : List Int) : Prop where
  bel : Below w0.heap.size w0 w
  rv : Blk w N0 27 #[.int .u64 0, .slice none 0 0, .slice none 0 0]
  tv : Blk w B3 27 #[.int .u64 (ui T), vb, va]
  oh : w.ownsRow w0.heap.size 24 1 vh hs.length (vals hs)
  od : w.ownsRow w0.heap.size 4 1 vd ds.length (bools ds)
  ob : w.ownsRow w0.heap.size 24 1 vb bp.length (vals bp)
  oa : w.ownsRow w0.heap.size 3 1 va al.length (ints al)
  nb : ∀ q, vh.ownBlock = some q → vb.ownBlock ≠ some q
  sc : SlC w b0 o0 (vals ws)
  hw : b0 < w0.heap.size
  g0 : w0.heap.size ≤ N0
  g3 : w0.heap.size ≤ B3
  n0 : N0 ≠ B3
theorem SlC.belowN {w w' : World} {b o N : Nat} {us : List Value} (h : SlC w b o us) (hb : Below N w w') (hN : b < N) : SlC w' b o us := by
  intro i u hu
  rw [hb.cell (p := ⟨b, o + i, none⟩) hN]
  exact h i u hu
theorem SlC.grown {w w' : World} {b o N : Nat} {us : List Value} {row : Option Nat} (h : SlC w b o us) (hg : w.grownBy w' row) (hN : N ≤ w.heap.size) (hb : b < N) (hr : ∀ k, row = some k → N ≤ k) : SlC w' b o us :=
  h.belowN ((Below.refl N w).grown hg hN hr) hb
section
variable {N0 B3 b0 o0 : Nat} {ws : List (BitVec 64)} {w0 w w' : World} {T : BitVec 64} {vh vd vb va v' : Value} {hs bp : List (BitVec 64)} {ds : List Bool} {al : List Int}
theorem RB.alloc (h : RB N0 B3 b0 o0 ws w0 w T vh vd vb va hs ds bp al) (x : Obj) : RB N0 B3 b0 o0 ws w0 (w.alloc x) T vh vd vb va hs ds bp al :=
  ⟨h.bel.alloc h.bel.size _, h.rv.alloc _, h.tv.alloc _, h.oh.alloc _, h.od.alloc _, h.ob.alloc _, h.oa.alloc _, h.nb, h.sc.below (below_new _ _), h.hw, h.g0, h.g3, h.n0⟩
theorem RB.drew (h : RB N0 B3 b0 o0 ws w0 w T vh vd vb va hs ds bp al) : RB N0 B3 b0 o0 ws w0 w.drew T vh vd vb va hs ds bp al :=
  ⟨h.bel.drew, h.rv.drew, h.tv.drew, h.oh.drew, h.od.drew, h.ob.drew, h.oa.drew, h.nb, h.sc.below (Below.refl _ _).drew, h.hw, h.g0, h.g3, h.n0⟩
theorem RB.bh (h : RB N0 B3 b0 o0 ws w0 w T vh vd vb va hs ds bp al) : vb.ownBlock = none ∨ vb.ownBlock ≠ vh.ownBlock := by
  rcases hv : vh.ownBlock with _ | q
  · rcases hb : vb.ownBlock with _ | p
    · exact .inl rfl
    · exact .inr (by simp)
  · exact .inr (h.nb q hv)
theorem RB.hb (h : RB N0 B3 b0 o0 ws w0 w T vh vd vb va hs ds bp al) : vh.ownBlock = none ∨ vh.ownBlock ≠ vb.ownBlock := by
  rcases hv : vh.ownBlock with _ | q
  · exact .inl rfl
  · exact .inr (fun e => h.nb q hv e.symm)
theorem RB.gH (h : RB N0 B3 b0 o0 ws w0 w T vh vd vb va hs ds bp al) {hs' : List (BitVec 64)} (hg : w.grownBy w' vh.ownBlock) (ho : w'.ownsRow w0.heap.size 24 1 v' hs'.length (vals hs')) (hat : v'.ownBlock = vh.ownBlock ∨ v'.ownBlock = some w.heap.size) : RB N0 B3 b0 o0 ws w0 w' T v' vd vb va hs' ds bp al := by
  refine ⟨h.bel.grown hg h.bel.size (fun k hk => (h.oh.lt k hk).1), h.rv.grown hg (own_blk_ne h.oh h.rv (by decide)).symm, h.tv.grown hg (own_blk_ne h.oh h.tv (by decide)).symm, ho, h.od.kept hg (own_own_ne h.od h.oh (by decide)), h.ob.kept hg h.bh, h.oa.kept hg (own_own_ne h.oa h.oh (by decide)), fun q hq => ?_, h.sc.grown hg h.bel.size h.hw (fun k hk => (h.oh.lt k hk).1), h.hw, h.g0, h.g3, h.n0⟩
  rcases hat with e | e
  · exact h.nb q (e ▸ hq)
  · intro hb
    have := (h.ob.lt q hb).2
    rw [e] at hq
    injection hq with hq
    omega
theorem RB.gD (h : RB N0 B3 b0 o0 ws w0 w T vh vd vb va hs ds bp al) {ds' : List Bool} (hg : w.grownBy w' vd.ownBlock) (ho : w'.ownsRow w0.heap.size 4 1 v' ds'.length (bools ds')) : RB N0 B3 b0 o0 ws w0 w' T vh v' vb va hs ds' bp al :=
  ⟨h.bel.grown hg h.bel.size (fun k hk => (h.od.lt k hk).1), h.rv.grown hg (own_blk_ne h.od h.rv (by decide)).symm, h.tv.grown hg (own_blk_ne h.od h.tv (by decide)).symm, h.oh.kept hg (own_own_ne h.oh h.od (by decide)), ho, h.ob.kept hg (own_own_ne h.ob h.od (by decide)), h.oa.kept hg (own_own_ne h.oa h.od (by decide)), h.nb, h.sc.grown hg h.bel.size h.hw (fun k hk => (h.od.lt k hk).1), h.hw, h.g0, h.g3, h.n0⟩
theorem own_setT {base g : Nat} {e : TypeId} {s n : Nat} {v : Value} {xs : List Value} {cs : Array Value} {t : TypeId} (h : w.ownsRow base e s v n xs) (hb : Blk w g t cs) (hne : e ≠ t) (i : Nat) (u : Value) : (w.setCell ⟨g, i, none⟩ u).ownsRow base e s v n xs :=
  ownsRow_setCell_other h (a := ⟨g, i, none⟩) (own_blk_ne h hb hne) u
theorem RB.gB (h : RB N0 B3 b0 o0 ws w0 w T vh vd vb va hs ds bp al) {bp' : List (BitVec 64)} (hg : w.grownBy w' vb.ownBlock) (ho : w'.ownsRow w0.heap.size 24 1 v' bp'.length (vals bp')) (hat : v'.ownBlock = vb.ownBlock ∨ v'.ownBlock = some w.heap.size) : RB N0 B3 b0 o0 ws w0 (w'.setCell ⟨B3, 1, none⟩ v') T vh vd v' va hs ds bp' al := by
  have r1 := h.rv.grown hg (own_blk_ne h.ob h.rv (by decide)).symm
  have r2 := h.tv.grown hg (own_blk_ne h.ob h.tv (by decide)).symm
  have o1 := h.oh.kept hg h.hb
  have o2 := h.od.kept hg (own_own_ne h.od h.ob (by decide))
  have o3 := h.oa.kept hg (own_own_ne h.oa h.ob (by decide))
  have r3 := r2.set_ 1 v'
  refine ⟨(h.bel.grown hg h.bel.size (fun k hk => (h.ob.lt k hk).1)).setCell (p := ⟨B3, 1, none⟩) h.g3 _, r1.far (p := ⟨B3, 1, none⟩) h.n0 _, r3, own_setT o1 r2 (by decide) _ _, own_setT o2 r2 (by decide) _ _, own_setT ho r2 (by decide) _ _, own_setT o3 r2 (by decide) _ _, fun q hq => ?_, (h.sc.grown hg h.bel.size h.hw (fun k hk => (h.ob.lt k hk).1)).far (p := ⟨B3, 1, none⟩) (by have := h.g3; have := h.hw; show b0 ≠ B3; omega) _, h.hw, h.g0, h.g3, h.n0⟩
  rcases hat with e | e
  · rw [e]; exact h.nb q hq
  · intro hb
    have := (h.oh.lt q hq).2
    rw [e] at hb
    injection hb with hb
    omega
theorem RB.gA (h : RB N0 B3 b0 o0 ws w0 w T vh vd vb va hs ds bp al) {al' : List Int} (hg : w.grownBy w' va.ownBlock) (ho : w'.ownsRow w0.heap.size 3 1 v' al'.length (ints al')) : RB N0 B3 b0 o0 ws w0 (w'.setCell ⟨B3, 2, none⟩ v') T vh vd vb v' hs ds bp al' := by
  have r1 := h.rv.grown hg (own_blk_ne h.oa h.rv (by decide)).symm
  have r2 := h.tv.grown hg (own_blk_ne h.oa h.tv (by decide)).symm
  have o1 := h.oh.kept hg (own_own_ne h.oh h.oa (by decide))
  have o2 := h.od.kept hg (own_own_ne h.od h.oa (by decide))
  have o3 := h.ob.kept hg (own_own_ne h.ob h.oa (by decide))
  have r3 := r2.set_ 2 v'
  exact ⟨(h.bel.grown hg h.bel.size (fun k hk => (h.oa.lt k hk).1)).setCell (p := ⟨B3, 2, none⟩) h.g3 _, r1.far (p := ⟨B3, 2, none⟩) h.n0 _, r3, own_setT o1 r2 (by decide) _ _, own_setT o2 r2 (by decide) _ _, own_setT o3 r2 (by decide) _ _, own_setT ho r2 (by decide) _ _, h.nb, (h.sc.grown hg h.bel.size h.hw (fun k hk => (h.oa.lt k hk).1)).far (p := ⟨B3, 2, none⟩) (by have := h.g3; have := h.hw; show b0 ≠ B3; omega) _, h.hw, h.g0, h.g3, h.n0⟩
theorem vals_setL (xs : List (BitVec 64)) (k : Nat) (x : BitVec 64) : (vals xs).set k (.int .u64 (ui x)) = vals (xs.set k x) := by simp [vals, List.map_set]
theorem ints_setL (xs : List Int) (k : Nat) (x : Int) : (ints xs).set k (.int .i64 x) = ints (xs.set k x) := by simp [ints, List.map_set]
theorem bools_setL (xs : List Bool) (k : Nat) (x : Bool) : (bools xs).set k (.bool x) = bools (xs.set k x) := by simp [bools, List.map_set]
variable {n gh gd gb ga ch cd cb ca : Nat}
theorem RB.sH (h : RB N0 B3 b0 o0 ws w0 w T (.slice (some ⟨gh, 0, none⟩) n ch) vd vb va hs ds bp al) (hl : hs.length = n) (k : Nat) (x : BitVec 64) : RB N0 B3 b0 o0 ws w0 (w.setCell ⟨gh, k, none⟩ (.int .u64 (ui x))) T (.slice (some ⟨gh, 0, none⟩) n ch) vd vb va (hs.set k x) ds bp al := by
  have o := h.oh
  rw [hl] at o
  obtain ⟨s1, s2⟩ := o.stored k (.int .u64 (ui x))
  rw [vals_setL] at s1
  refine h.gH s2 ?_ (.inl rfl)
  rw [List.length_set, hl]
  exact s1
theorem RB.sD (h : RB N0 B3 b0 o0 ws w0 w T vh (.slice (some ⟨gd, 0, none⟩) n cd) vb va hs ds bp al) (hl : ds.length = n) (k : Nat) (x : Bool) : RB N0 B3 b0 o0 ws w0 (w.setCell ⟨gd, k, none⟩ (.bool x)) T vh (.slice (some ⟨gd, 0, none⟩) n cd) vb va hs (ds.set k x) bp al := by
  have o := h.od
  rw [hl] at o
  obtain ⟨s1, s2⟩ := o.stored k (.bool x)
  rw [bools_setL] at s1
  refine h.gD s2 ?_
  rw [List.length_set, hl]
  exact s1
theorem RB.sB (h : RB N0 B3 b0 o0 ws w0 w T vh vd (.slice (some ⟨gb, 0, none⟩) n cb) va hs ds bp al) (hl : bp.length = n) (k : Nat) (x : BitVec 64) : RB N0 B3 b0 o0 ws w0 (w.setCell ⟨gb, k, none⟩ (.int .u64 (ui x))) T vh vd (.slice (some ⟨gb, 0, none⟩) n cb) va hs ds (bp.set k x) al := by
  have o := h.ob
  rw [hl] at o
  obtain ⟨s1, s2⟩ := o.stored k (.int .u64 (ui x))
  rw [vals_setL] at s1
  have r1 := h.rv.grown s2 (own_blk_ne h.ob h.rv (by decide)).symm
  have r2 := h.tv.grown s2 (own_blk_ne h.ob h.tv (by decide)).symm
  exact ⟨h.bel.grown s2 h.bel.size (fun k hk => (h.ob.lt k hk).1), r1, r2, h.oh.kept s2 h.hb, h.od.kept s2 (own_own_ne h.od h.ob (by decide)), by rw [List.length_set, hl]; exact s1, h.oa.kept s2 (own_own_ne h.oa h.ob (by decide)), h.nb, h.sc.grown s2 h.bel.size h.hw (fun k hk => (h.ob.lt k hk).1), h.hw, h.g0, h.g3, h.n0⟩
theorem RB.sA (h : RB N0 B3 b0 o0 ws w0 w T vh vd vb (.slice (some ⟨ga, 0, none⟩) n ca) hs ds bp al) (hl : al.length = n) (k : Nat) (x : Int) : RB N0 B3 b0 o0 ws w0 (w.setCell ⟨ga, k, none⟩ (.int .i64 x)) T vh vd vb (.slice (some ⟨ga, 0, none⟩) n ca) hs ds bp (al.set k x) := by
  have o := h.oa
  rw [hl] at o
  obtain ⟨s1, s2⟩ := o.stored k (.int .i64 x)
  rw [ints_setL] at s1
  have r1 := h.rv.grown s2 (own_blk_ne h.oa h.rv (by decide)).symm
  have r2 := h.tv.grown s2 (own_blk_ne h.oa h.tv (by decide)).symm
  exact ⟨h.bel.grown s2 h.bel.size (fun k hk => (h.oa.lt k hk).1), r1, r2, h.oh.kept s2 (own_own_ne h.oh h.oa (by decide)), h.od.kept s2 (own_own_ne h.od h.oa (by decide)), h.ob.kept s2 (own_own_ne h.ob h.oa (by decide)), by rw [List.length_set, hl]; exact s1, h.nb, h.sc.grown s2 h.bel.size h.hw (fun k hk => (h.oa.lt k hk).1), h.hw, h.g0, h.g3, h.n0⟩
end
theorem own_vals {w : World} {base g n cap : Nat} {e : TypeId} {hs : List (BitVec 64)} (h : w.ownsRow base e 1 (.slice (some ⟨g, 0, none⟩) n cap) hs.length (vals hs)) (hl : hs.length = n) (k : Nat) (hk : k < n) : w.cell? ⟨g, k, none⟩ = some (.int .u64 (ui (hs.getD k 0#64))) := by
  rw [hl] at h
  rw [h.cellAt k (by omega), getD_at hs k _ (by omega)]
  exact vals_get hs k (by omega)
theorem own_bools {w : World} {base g n cap : Nat} {e : TypeId} {ds : List Bool} (h : w.ownsRow base e 1 (.slice (some ⟨g, 0, none⟩) n cap) ds.length (bools ds)) (hl : ds.length = n) (k : Nat) (hk : k < n) : w.cell? ⟨g, k, none⟩ = some (.bool (ds.getD k true)) := by
  rw [hl] at h
  rw [h.cellAt k (by omega), getD_at ds k _ (by omega)]
  exact bools_get ds k (by omega)
theorem own_ints {w : World} {base g n cap : Nat} {e : TypeId} {ls : List Int} (h : w.ownsRow base e 1 (.slice (some ⟨g, 0, none⟩) n cap) ls.length (ints ls)) (hl : ls.length = n) (k : Nat) (hk : k < n) : w.cell? ⟨g, k, none⟩ = some (.int .i64 (ls.getD k 0)) := by
  rw [hl] at h
  rw [h.cellAt k (by omega), getD_at ls k _ (by omega)]
  exact ints_get ls k (by omega)
theorem own_frozen {w : World} {base g n cap m : Nat} {e : TypeId} {us : List Value} (h : w.ownsRow base e 1 (.slice (some ⟨g, 0, none⟩) n cap) m us) (hl : m = n) (k : Nat) : w.frozen? ⟨g, k, none⟩ = false := by
  subst hl; exact h.frozenAt k
theorem total_any (ws : List (BitVec 64)) (b0 o0 cap : Nat) (w : World) (hc : SlC w b0 o0 (vals ws)) (hn : ws.length ≤ 256) :
    Calls Try.prog 51 #[.slice (some ⟨b0, o0, none⟩) ws.length cap] w fun e w' => e = .returned (.int .u64 (ui (tS ws ws.length))) ∧ w = w' := by
  have HC := Lib.hid hc
  clear hc
  go_enter Try.func51, Try.ntmps51
  go_wp2_with fail
  go_loop [3, 8] (fun s i => ∃ k : Nat, k ≤ ws.length ∧ i = .int .i64 k ∧ s = .int .u64 (ui (tS ws k))) (fun _ i => ws.length - (intOf i).toNat)
  case atStart => exact ⟨0, by omega, rfl, rfl⟩
  case round =>
    obtain ⟨k, hk, rfl, rfl⟩ := hrel
    by_cases hlt : k < ws.length
    · have hlt' : (k : Int) < (ws.length : Int) := by omega
      have hk' : (0 : Int) ≤ (k : Int) := by omega
      have c1 := HC.out k _ (vals_get ws k hlt)
      go_wp2_with fail
      go_round
      case rel => exact ⟨k + 1, by omega, by go_num, by rw [tS, getD_at ws k _ hlt]⟩
      case measure => simp [intOf]; omega
    · have hk2 : k = ws.length := by omega
      subst hk2
      clear hlt
      go_wp2_with fail
      go_ret
      exact ⟨rfl, rfl⟩
end Go.Proofs.Ytodflmngbkiemaa
