/- The walks of chapter 39's draws (masks): a tape's next number. No condition but on lengths. -/
import Derived.Test.YtekbhfagigpakaaW39b
import Derived.Deep.LoopGhost
import Derived.WalkMore
namespace Go.Proofs.Ytekbhfagigpakaa
open Go.RowKit
theorem TapeAt.drewN {w : World} {B k q : Nat} {xs : List (BitVec 64)} {wv tv : Value} (h : TapeAt w B xs k wv tv) : TapeAt (w.drewN q) B xs k wv tv := ⟨h.blk, h.words, h.taken, h.le, h.few⟩
theorem TapeAt.alloc {w : World} {B k : Nat} {xs : List (BitVec 64)} {wv tv : Value} (h : TapeAt w B xs k wv tv) (o : Obj) : TapeAt (w.alloc o) B xs k wv tv :=
  ⟨h.blk.alloc o, h.words.below ((Below.refl _ _).alloc (Nat.le_of_lt h.blk.lt) _), h.taken.alloc o, h.le, h.few⟩
theorem own_far {w : World} {base : Nat} {e : TypeId} {sz : Nat} {v : Value} {n : Nat} {us : List Value} (h : w.ownsRow base e sz v n us) {p : Addr} (hp : v.ownBlock ≠ some p.block) (u : Value) : (w.setCell p u).ownsRow base e sz v n us := by
  refine ⟨h.1, ?_⟩
  rcases h.2 with h2 | ⟨g, cap, cur, rfl, hg, hh, r⟩
  · exact .inl h2
  · exact .inr ⟨g, cap, cur, rfl, hg, (Below.heap_setCell w p u g (fun e => hp (by rw [Value.ownBlock, e]))).trans hh, r⟩
theorem TapeAt.set {w : World} {B k b o : Nat} {xs : List (BitVec 64)} {wv tv : Value} {t : TypeId} {cs : Array Value} (h : TapeAt w B xs k wv tv) (hb : Blk w b t cs) (ht : t ≠ 22) (hB : B < b) (v : Value) : TapeAt (w.setCell ⟨b, o, none⟩ v) B xs k wv tv :=
  ⟨h.blk.far (p := ⟨b, o, none⟩) (by simp; omega) v, h.words.below ((Below.refl _ _).setCell (by simp; omega) v), own_far h.taken (p := ⟨b, o, none⟩) (own_blk_ne h.taken hb (fun e => ht e.symm)) v, h.le, h.few⟩
/-- what the tape's next word leaves alone, but for one block more -/
def KeptB (B b2 : Nat) (w w' : World) : Prop := ∀ b t cs, Blk w b t cs → t ≠ 22 → b ≠ B → b ≠ b2 → Blk w' b t cs
theorem mnext_any (B : Nat) (xs : List (BitVec 64)) (k : Nat) (wv tv : Value) (b1 b2 u : Nat) (hu : u ≤ 1000) (_h1B : B < b1) (h2B : B < b2) (w : World) (h : TapeAt w B xs k wv tv) (hb1 : Blk w b1 28 #[.pointer (some ⟨B, 0, none⟩)]) (hb2 : Blk w b2 3 #[.int .i64 u]) (hk : k < xs.length) :
    Calls Try.prog 28 #[.pointer (some ⟨b1, 0, none⟩), .pointer (some ⟨b2, 0, none⟩)] w fun e w' => ∃ tv', e = .returned (.tuple #[.int .u64 (ui xs[k]), .int .i64 0]) ∧ TapeAt w' B xs (k + 1) wv tv' ∧ Blk w' b2 3 #[.int .i64 ((u + 1 : Nat) : Int)] ∧ KeptB B b2 w w' ∧ Below B w w' := by
  have c1 := hb1.cell 0
  rw [show (#[Value.pointer (some ⟨B, 0, none⟩)] : Array Value)[0]? = some (.pointer (some ⟨B, 0, none⟩)) from rfl] at c1
  go_enter Try.func28, Try.ntmps28
  go_wp2_with fail
  refine (next_any B xs k wv tv w h hk).mono ?_
  rintro e w1 ⟨tv', rfl, h', hK, hB⟩
  have hb2' := hK b2 _ _ hb2 (by decide) (by omega)
  have c2 := hb2'.cell 0
  rw [show (#[Value.int .i64 (u : Int)] : Array Value)[0]? = some (.int .i64 (u : Int)) from rfl] at c2
  have f2 := hb2'.frozen 0
  have hS := hb2'.set_ 0 (.int .i64 ((u + 1 : Nat) : Int))
  have hT := h'.set (o := 0) hb2' (by decide) h2B (.int .i64 ((u + 1 : Nat) : Int))
  have hlt := hb2'.lt
  have HS := Lib.hid hS
  have HT := Lib.hid hT
  have HK := Lib.hid hK
  clear hS hT hK h h' hb1 hb2 hb2' c1
  go_wp2_with fail
  go_ret2
  refine ⟨tv', rfl, ?_, ?_, ?_, ?_⟩
  · exact HT.out
  · exact HS.out
  · intro b t cs hb ht h1 h2
    exact (HK.out b t cs hb ht h1).far (p := ⟨b2, 0, none⟩) h2 _
  · exact hB.setCell (Nat.le_of_lt h2B) _
theorem mnext_none (B : Nat) (xs : List (BitVec 64)) (wv tv : Value) (b1 b2 u : Nat) (hu : u ≤ 1000) (_h1B : B < b1) (h2B : B < b2) (w : World) (h : TapeAt w B xs xs.length wv tv) (hb1 : Blk w b1 28 #[.pointer (some ⟨B, 0, none⟩)]) (hb2 : Blk w b2 3 #[.int .i64 u]) :
    Calls Try.prog 28 #[.pointer (some ⟨b1, 0, none⟩), .pointer (some ⟨b2, 0, none⟩)] w fun e w' => e = .returned (.tuple #[.int .u64 0, .int .i64 7]) ∧ TapeAt w' B xs xs.length wv tv ∧ KeptB B b2 w w' ∧ Below B w w' := by
  have c1 := hb1.cell 0
  rw [show (#[Value.pointer (some ⟨B, 0, none⟩)] : Array Value)[0]? = some (.pointer (some ⟨B, 0, none⟩)) from rfl] at c1
  have c2 := hb2.cell 0
  rw [show (#[Value.int .i64 (u : Int)] : Array Value)[0]? = some (.int .i64 (u : Int)) from rfl] at c2
  have f2 := hb2.frozen 0
  have hT := h.set (o := 0) hb2 (by decide) h2B (.int .i64 ((u : Int) + 1))
  have hlt := hb2.lt
  have HT := Lib.hid hT
  have HB := Lib.hid hb2
  clear hT hb1 hb2
  go_enter Try.func28, Try.ntmps28
  go_wp2_with fail
  refine (next_none B xs wv tv w h).mono ?_
  rintro e w' ⟨rfl, rfl⟩
  go_wp2_with fail
  go_ret2
  refine ⟨rfl, HT.out, ?_, ?_⟩
  · intro b t cs hb ht h1 h2
    exact hb.far (p := ⟨b2, 0, none⟩) h2 _
  · exact (Below.refl _ _).setCell (Nat.le_of_lt h2B) _
/-- what stands at a round's head: i words came since the k-th -/
structure TakeRel (B : Nat) (xs : List (BitVec 64)) (k i : Nat) (wv : Value) (w wr : World) : Prop where
  tape : ∃ tv, TapeAt wr B xs i wv tv
  ptr : Blk wr w.heap.size 28 #[.pointer (some ⟨B, 0, none⟩)]
  res : Blk wr (w.heap.size + 1) 31 #[.int .u64 0, .int .u64 0, .int .i64 0]
  used : Blk wr (w.heap.size + 1 + 1) 3 #[.int .i64 ((i - k : Nat) : Int)]
  bel : Below B w wr
theorem take_start (B : Nat) (xs : List (BitVec 64)) (k : Nat) (wv tv : Value) (w : World) (h : TapeAt w B xs k wv tv) :
    TakeRel B xs k k wv w (((w.alloc (.cells #[.pointer (some ⟨B, 0, none⟩)] 28)).alloc (.cells #[.int .u64 0, .int .u64 0, .int .i64 0] 31)).alloc (.cells #[.int .i64 0] 3)) := by
  have hlt := h.blk.lt
  refine ⟨⟨tv, ((h.alloc _).alloc _).alloc _⟩, ((Blk.new w _ _).alloc _).alloc _, ?_, ?_, (((Below.refl B w).alloc (by omega) _).alloc (by simp; omega) _).alloc (by simp; omega) _⟩
  · have h2 := (Blk.new (w.alloc (.cells #[.pointer (some ⟨B, 0, none⟩)] 28)) 31 #[.int .u64 0, .int .u64 0, .int .i64 0]).alloc (.cells #[.int .i64 0] 3)
    simpa using h2
  · have h2 := Blk.new ((w.alloc (.cells #[.pointer (some ⟨B, 0, none⟩)] 28)).alloc (.cells #[.int .u64 0, .int .u64 0, .int .i64 0] 31)) 3 #[.int .i64 0]
    rw [Nat.sub_self]
    simpa using h2
theorem take_next {B : Nat} {xs : List (BitVec 64)} {k i : Nat} {wv tv' : Value} {w wr w1 : World} (hr : TakeRel B xs k i wv w wr) (hki : k ≤ i) (hB : B < w.heap.size) (h : TapeAt w1 B xs (i + 1) wv tv') (hu : Blk w1 (w.heap.size + 1 + 1) 3 #[.int .i64 ((i - k + 1 : Nat) : Int)]) (hK : KeptB B (w.heap.size + 1 + 1) wr w1) (hb : Below B wr w1) : TakeRel B xs k (i + 1) wv w w1 :=
  ⟨⟨_, h⟩, hK _ _ _ hr.ptr (by decide) (by omega) (by omega), hK _ _ _ hr.res (by decide) (by omega) (by omega), by rw [show i + 1 - k = i - k + 1 by omega]; exact hu, hr.bel.trans hb⟩
theorem TakeRel.drewN {B : Nat} {xs : List (BitVec 64)} {k i q : Nat} {wv : Value} {w wr : World} (hr : TakeRel B xs k i wv w wr) : TakeRel B xs k i wv w (wr.drewN q) := by
  obtain ⟨⟨tv, h⟩, h1, h2, h3, h4⟩ := hr
  exact ⟨⟨tv, h.drewN⟩, h1, h2, h3, below_drewN h4 _⟩
theorem take_found (B : Nat) (xs : List (BitVec 64)) (k j : Nat) (wv tv : Value) (n : BitVec 64) (hn : (n == 0#64) = false) (w : World) (h : TapeAt w B xs k wv tv) (hkj : k ≤ j) (hj : j < xs.length) (ht : takesM xs[j] n = true) (hno : ∀ i, k ≤ i → (hi : i < j) → takesM (xs[i]'(by omega)) n = false) :
    Calls Try.prog 11 #[.pointer (some ⟨B, 0, none⟩), .int .u64 (ui n)] w fun e w' => ∃ tv', e = .returned (.tuple #[.agg #[.int .u64 (ui (lowM xs[j] n)), .int .u64 (ui (xs[j] >>> kB n)), .int .i64 ((j - k + 1 : Nat) : Int)], .int .i64 0]) ∧ TapeAt w' B xs (j + 1) wv tv' ∧ Below B w w' := by
  have hfew := h.few
  have hBlt := h.blk.lt
  have HS := Lib.hid (take_start B xs k wv tv w h)
  have HNO := Lib.hid hno
  clear hno h
  go_enter Try.func11, Try.ntmps11
  go_wp2_with fail
  go_step3
  go_wp2_with fail
  go_step3
  go_wp2_with fail
  go_loopg [8] (j + 1 - k) (fun gk _ wr => ∃ i : Nat, gk = j + 1 - i ∧ k ≤ i ∧ i ≤ j ∧ TakeRel B xs k i wv w wr)
  case atStart => exact ⟨k, rfl, by omega, hkj, HS.out⟩
  case round =>
    obtain ⟨i, rfl, hki, hij, hr⟩ := hrel
    obtain ⟨tvi, hti⟩ := hr.tape
    have hnext := mnext_any B xs i wv tvi w.heap.size (w.heap.size + 1 + 1) (i - k) (by omega) (by omega) (by omega) wr hti hr.ptr hr.used (by omega)
    have HR := Lib.hid hr
    clear hr hti
    by_cases hlt : i < j
    · have hf := HNO.out i hki hlt
      go_wp2_with fail
      refine hnext.mono ?_
      rintro e w1 ⟨tv', rfl, h1, h2, h3, h4⟩
      have hN := take_next HR.out hki (by omega) h1 h2 h3 h4
      have HN := Lib.hid hN
      clear hnext h1 h2 h3 h4 hN
      go_wp2_with fail
      refine (takes_any _ _ _).mono ?_
      rintro e w' ⟨rfl, rfl⟩
      go_wp2_with fail
      go_roundg (j + 1 - (i + 1))
      case measure => omega
      case rel => exact ⟨i + 1, rfl, by omega, by omega, HN.out⟩
    · obtain rfl : i = j := by omega
      go_wp2_with fail
      refine hnext.mono ?_
      rintro e w1 ⟨tv', rfl, h1, h2, h3, h4⟩
      have hN := take_next HR.out hki (by omega) h1 h2 h3 h4
      have HN := Lib.hid hN
      have HT := Lib.hid h1
      clear hnext h1 h2 h3 h4 hN
      go_wp2_with fail
      refine (takes_any _ _ _).mono ?_
      rintro e w' ⟨rfl, rfl⟩
      go_wp2_with fail
      refine (rank_yes _ _ hn ht _).mono ?_
      rintro e w' ⟨rfl, q, rfl⟩
      have hu := HN.out.used.drewN (n := q)
      have hres := HN.out.res.drewN (n := q)
      have hB := HN.out.bel
      have hB2 : Below B w (w1.drewN q) := below_drewN hB _
      have hT2 := HT.out.drewN (q := q)
      have hz : w.heap.size + 1 + 1 < (w1.drewN q).heap.size := hu.lt
      clear HN HT HR HS hB
      generalize w1.drewN q = w2 at *
      have cu := hu.cell 0
      have r0 := hres.cell 0
      have r1 := hres.cell 1
      have r2 := hres.cell 2
      have f0 := hres.frozen 0
      have f1 := hres.frozen 1
      have f2 := hres.frozen 2
      rw [show (#[Value.int .i64 ((i + 1 - k : Nat) : Int)] : Array Value)[0]? = some (.int .i64 ((i + 1 - k : Nat) : Int)) from rfl] at cu
      rw [show (#[Value.int .u64 0, .int .u64 0, .int .i64 0] : Array Value)[0]? = some (.int .u64 0) from rfl] at r0
      rw [show (#[Value.int .u64 0, .int .u64 0, .int .i64 0] : Array Value)[1]? = some (.int .u64 0) from rfl] at r1
      rw [show (#[Value.int .u64 0, .int .u64 0, .int .i64 0] : Array Value)[2]? = some (.int .i64 0) from rfl] at r2
      have hS3 := ((hres.set_ 0 (.int .u64 (ui (lowM xs[i] n)))).set_ 1 (.int .u64 (ui (xs[i] >>> kB n)))).set_ 2 (.int .i64 ((i + 1 - k : Nat) : Int))
      have hT3 := ((hT2.set (o := 0) hres (by decide) (by omega) (.int .u64 (ui (lowM xs[i] n)))).set (o := 1) (hres.set_ 0 (.int .u64 (ui (lowM xs[i] n)))) (by decide) (by omega) (.int .u64 (ui (xs[i] >>> kB n)))).set (o := 2) ((hres.set_ 0 (.int .u64 (ui (lowM xs[i] n)))).set_ 1 (.int .u64 (ui (xs[i] >>> kB n)))) (by decide) (by omega) (.int .i64 ((i + 1 - k : Nat) : Int))
      have hB3 := ((hB2.setCell (p := ⟨w.heap.size + 1, 0, none⟩) (by simp; omega) (.int .u64 (ui (lowM xs[i] n)))).setCell (p := ⟨w.heap.size + 1, 1, none⟩) (by simp; omega) (.int .u64 (ui (xs[i] >>> kB n)))).setCell (p := ⟨w.heap.size + 1, 2, none⟩) (by simp; omega) (.int .i64 ((i + 1 - k : Nat) : Int))
      have HS3 := Lib.hid hS3
      have HT3 := Lib.hid hT3
      clear hS3 hT3 hu hres hT2
      go_wp2_with fail
      have e0 := HS3.out.cell 0
      have e1 := HS3.out.cell 1
      have e2 := HS3.out.cell 2
      have hs : (((#[Value.int .u64 0, .int .u64 0, .int .i64 0] : Array Value).setIfInBounds 0 (.int .u64 (ui (lowM xs[i] n)))).setIfInBounds 1 (.int .u64 (ui (xs[i] >>> kB n)))).setIfInBounds 2 (.int .i64 ((i + 1 - k : Nat) : Int)) = #[.int .u64 (ui (lowM xs[i] n)), .int .u64 (ui (xs[i] >>> kB n)), .int .i64 ((i + 1 - k : Nat) : Int)] := rfl
      rw [hs] at e0 e1 e2
      rw [show (#[Value.int .u64 (ui (lowM xs[i] n)), .int .u64 (ui (xs[i] >>> kB n)), .int .i64 ((i + 1 - k : Nat) : Int)] : Array Value)[0]? = some (.int .u64 (ui (lowM xs[i] n))) from rfl] at e0
      rw [show (#[Value.int .u64 (ui (lowM xs[i] n)), .int .u64 (ui (xs[i] >>> kB n)), .int .i64 ((i + 1 - k : Nat) : Int)] : Array Value)[1]? = some (.int .u64 (ui (xs[i] >>> kB n))) from rfl] at e1
      rw [show (#[Value.int .u64 (ui (lowM xs[i] n)), .int .u64 (ui (xs[i] >>> kB n)), .int .i64 ((i + 1 - k : Nat) : Int)] : Array Value)[2]? = some (.int .i64 ((i + 1 - k : Nat) : Int)) from rfl] at e2
      rw [Exit.noGoto_ret]
      refine bodyPost_ret (v := .tuple #[.agg #[.int .u64 (ui (lowM xs[i] n)), .int .u64 (ui (xs[i] >>> kB n)), .int .i64 ((i + 1 - k : Nat) : Int)], .int .i64 0]) (by simp [results, Try.results11, go_sem, e0, e1, e2]) rfl ⟨tv', by rw [show i + 1 - k = i - k + 1 by omega], HT3.out, hB3⟩
theorem take_none (B : Nat) (xs : List (BitVec 64)) (k : Nat) (wv tv : Value) (n : BitVec 64) (hn : (n == 0#64) = false) (w : World) (h : TapeAt w B xs k wv tv) (hno : ∀ i, k ≤ i → (hi : i < xs.length) → takesM xs[i] n = false) :
    Calls Try.prog 11 #[.pointer (some ⟨B, 0, none⟩), .int .u64 (ui n)] w fun e w' => ∃ tv', e = .returned (.tuple #[.agg #[.int .u64 0, .int .u64 0, .int .i64 0], .int .i64 7]) ∧ TapeAt w' B xs xs.length wv tv' ∧ Below B w w' := by
  have hfew := h.few
  have hle := h.le
  have hBlt := h.blk.lt
  have HS := Lib.hid (take_start B xs k wv tv w h)
  have HNO := Lib.hid hno
  clear hno h
  go_enter Try.func11, Try.ntmps11
  go_wp2_with fail
  go_step3
  go_wp2_with fail
  go_step3
  go_wp2_with fail
  go_loopg [8] (xs.length + 1 - k) (fun gk _ wr => ∃ i : Nat, gk = xs.length + 1 - i ∧ k ≤ i ∧ i ≤ xs.length ∧ TakeRel B xs k i wv w wr)
  case atStart => exact ⟨k, rfl, by omega, hle, HS.out⟩
  case round =>
    obtain ⟨i, rfl, hki, hij, hr⟩ := hrel
    obtain ⟨tvi, hti⟩ := hr.tape
    by_cases hlt : i < xs.length
    · have hnext := mnext_any B xs i wv tvi w.heap.size (w.heap.size + 1 + 1) (i - k) (by omega) (by omega) (by omega) wr hti hr.ptr hr.used hlt
      have HR := Lib.hid hr
      clear hr hti
      have hf := HNO.out i hki hlt
      go_wp2_with fail
      refine hnext.mono ?_
      rintro e w1 ⟨tv', rfl, h1, h2, h3, h4⟩
      have hN := take_next HR.out hki (by omega) h1 h2 h3 h4
      have HN := Lib.hid hN
      clear hnext h1 h2 h3 h4 hN
      go_wp2_with fail
      refine (takes_any _ _ _).mono ?_
      rintro e w' ⟨rfl, rfl⟩
      go_wp2_with fail
      go_roundg (xs.length + 1 - (i + 1))
      case measure => omega
      case rel => exact ⟨i + 1, rfl, by omega, by omega, HN.out⟩
    · obtain rfl : i = xs.length := by omega
      have hnext := mnext_none B xs wv tvi w.heap.size (w.heap.size + 1 + 1) (xs.length - k) (by omega) (by omega) (by omega) wr hti hr.ptr hr.used
      have hres := hr.res
      have hbel := hr.bel
      clear hr hti
      go_wp2_with fail
      refine hnext.mono ?_
      rintro e w1 ⟨rfl, h1, h2, h3⟩
      have hres1 := h2 _ _ _ hres (by decide) (by omega) (by omega)
      have hB2 := hbel.trans h3
      have r0 := hres1.cell 0
      have r1 := hres1.cell 1
      have r2 := hres1.cell 2
      have f0 := hres1.frozen 0
      have f1 := hres1.frozen 1
      have f2 := hres1.frozen 2
      have hlt2 := hres1.lt
      rw [show (#[Value.int .u64 0, .int .u64 0, .int .i64 0] : Array Value)[0]? = some (.int .u64 0) from rfl] at r0
      rw [show (#[Value.int .u64 0, .int .u64 0, .int .i64 0] : Array Value)[1]? = some (.int .u64 0) from rfl] at r1
      rw [show (#[Value.int .u64 0, .int .u64 0, .int .i64 0] : Array Value)[2]? = some (.int .i64 0) from rfl] at r2
      have hS3 := ((hres1.set_ 0 (.int .u64 0)).set_ 1 (.int .u64 0)).set_ 2 (.int .i64 0)
      have hT3 := ((h1.set (o := 0) hres1 (by decide) (by omega) (.int .u64 0)).set (o := 1) (hres1.set_ 0 (.int .u64 0)) (by decide) (by omega) (.int .u64 0)).set (o := 2) ((hres1.set_ 0 (.int .u64 0)).set_ 1 (.int .u64 0)) (by decide) (by omega) (.int .i64 0)
      have hB3 := ((hB2.setCell (p := ⟨w.heap.size + 1, 0, none⟩) (by simp; omega) (.int .u64 0)).setCell (p := ⟨w.heap.size + 1, 1, none⟩) (by simp; omega) (.int .u64 0)).setCell (p := ⟨w.heap.size + 1, 2, none⟩) (by simp; omega) (.int .i64 0)
      have HS3 := Lib.hid hS3
      have HT3 := Lib.hid hT3
      have HT := Lib.hid h1
      clear hS3 hT3 hnext h1 h2 h3 hres hres1 HS
      go_wp2_with fail
      have e0 := HS3.out.cell 0
      have e1 := HS3.out.cell 1
      have e2 := HS3.out.cell 2
      have hs : (((#[Value.int .u64 0, .int .u64 0, .int .i64 0] : Array Value).setIfInBounds 0 (.int .u64 0)).setIfInBounds 1 (.int .u64 0)).setIfInBounds 2 (.int .i64 0) = #[.int .u64 0, .int .u64 0, .int .i64 0] := rfl
      rw [hs] at e0 e1 e2
      rw [show (#[Value.int .u64 0, .int .u64 0, .int .i64 0] : Array Value)[0]? = some (.int .u64 0) from rfl] at e0
      rw [show (#[Value.int .u64 0, .int .u64 0, .int .i64 0] : Array Value)[1]? = some (.int .u64 0) from rfl] at e1
      rw [show (#[Value.int .u64 0, .int .u64 0, .int .i64 0] : Array Value)[2]? = some (.int .i64 0) from rfl] at e2
      rw [Exit.noGoto_ret]

      refine bodyPost_ret (v := .tuple #[.agg #[.int .u64 0, .int .u64 0, .int .i64 0], .int .i64 7]) (by simp [results, Try.results11, go_sem, e0, e1, e2]) rfl ⟨tvi, rfl, HT3.out, hB3⟩
end Go.Proofs.Ytekbhfagigpakaa
