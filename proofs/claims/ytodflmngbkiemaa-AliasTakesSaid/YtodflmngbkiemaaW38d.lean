/- The walks of chapter 38's draws: a tape's next number. No condition but on lengths. -/
import Derived.Test.YtodflmngbkiemaaW38c
import Derived.Deep.LoopGhost
import Derived.WalkMore
namespace Go.Proofs.Ytodflmngbkiemaa
open Go.RowKit
theorem TapeAt.drewN {w : World} {B k q : Nat} {xs : List (BitVec 64)} {wv tv : Value} (h : TapeAt w B xs k wv tv) : TapeAt (w.drewN q) B xs k wv tv := ⟨h.blk, h.words, h.taken, h.le, h.few⟩
theorem TapeAt.alloc {w : World} {B k : Nat} {xs : List (BitVec 64)} {wv tv : Value} (h : TapeAt w B xs k wv tv) (o : Obj) : TapeAt (w.alloc o) B xs k wv tv :=
  ⟨h.blk.alloc o, h.words.below ((Below.refl _ _).alloc (Nat.le_of_lt h.blk.lt) _), h.taken.alloc o, h.le, h.few⟩
theorem own_far {w : World} {base : Nat} {e : TypeId} {sz : Nat} {v : Value} {n : Nat} {us : List Value} (h : w.ownsRow base e sz v n us) {p : Addr} (hp : v.ownBlock ≠ some p.block) (u : Value) : (w.setCell p u).ownsRow base e sz v n us := by
  refine ⟨h.1, ?_⟩
  rcases h.2 with h2 | ⟨g, cap, cur, rfl, hg, hh, r⟩
  · exact .inl h2
  · exact .inr ⟨g, cap, cur, rfl, hg, (Below.heap_setCell w p u g (fun e => hp (by rw [Value.ownBlock, e]))).trans hh, r⟩
theorem TapeAt.set {w : World} {B k b o : Nat} {xs : List (BitVec 64)} {wv tv : Value} {t : TypeId} {cs : Array Value} (h : TapeAt w B xs k wv tv) (hb : Blk w b t cs) (ht : t ≠ 24) (hB : B < b) (v : Value) : TapeAt (w.setCell ⟨b, o, none⟩ v) B xs k wv tv :=
  ⟨h.blk.far (p := ⟨b, o, none⟩) (by simp; omega) v, h.words.below ((Below.refl _ _).setCell (by simp; omega) v), own_far h.taken (p := ⟨b, o, none⟩) (own_blk_ne h.taken hb (fun e => ht e.symm)) v, h.le, h.few⟩
theorem Blk.belowS {w w' : World} {g : Nat} {t : TypeId} {cs : Array Value} (h : Blk w g t cs) (hb : Below w.heap.size w w') : Blk w' g t cs := h.below hb h.lt
theorem TapeAt.belowS {w w' : World} {B k : Nat} {xs : List (BitVec 64)} {wv tv : Value} (h : TapeAt w B xs k wv tv) (hb : Below w.heap.size w w') : TapeAt w' B xs k wv tv :=
  ⟨h.blk.below hb h.blk.lt, h.words.below (hb.mono (Nat.le_of_lt h.blk.lt)), owns_below h.taken hb, h.le, h.few⟩
/-- what stands at a round's head: u words came -/
structure TakeRel (B : Nat) (xs : List (BitVec 64)) (i u : Nat) (wv : Value) (w wr : World) : Prop where
  tape : ∃ tv, TapeAt wr B xs i wv tv
  res : Blk wr w.heap.size 57 #[.int .u64 0, .int .u64 0, .int .i64 0]
  used : Blk wr (w.heap.size + 1) 57 #[.int .u64 0, .int .u64 0, .int .i64 u]
  bel : Below B w wr
theorem take_start (B : Nat) (xs : List (BitVec 64)) (k : Nat) (wv tv : Value) (w : World) (h : TapeAt w B xs k wv tv) :
    TakeRel B xs k 0 wv w ((w.alloc (.cells #[.int .u64 0, .int .u64 0, .int .i64 0] 57)).alloc (.cells #[.int .u64 0, .int .u64 0, .int .i64 0] 57)) := by
  have hlt := h.blk.lt
  refine ⟨⟨tv, (h.alloc _).alloc _⟩, (Blk.new w _ _).alloc _, ?_, ((Below.refl B w).alloc (by omega) _).alloc (by simp; omega) _⟩
  have h2 := Blk.new (w.alloc (.cells #[.int .u64 0, .int .u64 0, .int .i64 0] 57)) 57 #[.int .u64 0, .int .u64 0, .int .i64 0]
  simpa using h2
/-- a word came -/
theorem take_next {B : Nat} {xs : List (BitVec 64)} {i u : Nat} {wv tv' : Value} {w wr w1 : World} (hr : TakeRel B xs i u wv w wr) (hB : B < w.heap.size) (h : TapeAt w1 B xs (i + 1) wv tv') (hK : Kept B wr w1) (hb : Below B wr w1) :
    TakeRel B xs (i + 1) (u + 1) wv w (w1.setCell ⟨w.heap.size + 1, 2, none⟩ (.int .i64 ((u : Int) + 1))) := by
  have h1 := hK _ _ _ hr.res (by decide) (by omega)
  have h2 := hK _ _ _ hr.used (by decide) (by omega)
  exact ⟨⟨_, h.set h2 (by decide) (by omega) _⟩, h1.far (p := ⟨w.heap.size + 1, 2, none⟩) (by simp) _, h2.set_ 2 _, (hr.bel.trans hb).setCell (by simp; omega) _⟩
theorem take_found (B : Nat) (xs : List (BitVec 64)) (k j : Nat) (wv tv : Value) (n : BitVec 64) (hn : (n == 0#64) = false) (w : World) (h : TapeAt w B xs k wv tv) (hkj : k ≤ j) (hj : j < xs.length) (ht : takesL xs[j] n = true) (hno : ∀ i, k ≤ i → (hi : i < j) → takesL (xs[i]'(by omega)) n = false) :
    Calls Try.prog 31 #[.pointer (some ⟨B, 0, none⟩), .int .u64 (ui n)] w fun e w' => ∃ tv', e = .returned (.tuple #[.agg #[.int .u64 (ui (mulHi xs[j] n)), .int .u64 (ui (rankL xs[j] n)), .int .i64 ((j - k + 1 : Nat) : Int)], .int .i64 0]) ∧ TapeAt w' B xs (j + 1) wv tv' ∧ Below B w w' := by
  obtain ⟨c, hc⟩ : ∃ c : Nat, c = j - k + 1 := ⟨_, rfl⟩
  rw [← hc]
  have HC := Lib.hid hc
  clear hc
  have hfew := h.few
  have hBlt := h.blk.lt
  have HS := Lib.hid (take_start B xs k wv tv w h)
  have HNO := Lib.hid hno
  clear hno h
  go_enter Try.func31, Try.ntmps31
  go_wp2_with fail
  go_step3
  go_wp2_with fail
  go_step3
  go_wp2_with fail
  go_loopg [7] (j + 1 - k) (fun gk _ wr => ∃ i u : Nat, gk = j + 1 - i ∧ k ≤ i ∧ i ≤ j ∧ RowKit.Hid (u = i - k) ∧ u ≤ 1000 ∧ RowKit.Hid (TakeRel B xs i u wv w wr))
  case atStart => exact ⟨k, 0, rfl, by omega, hkj, (Nat.sub_self k).symm, by omega, HS.out⟩
  case round =>
    obtain ⟨i, u, rfl, hki, hij, hu, hu1, HR⟩ := hrel
    obtain ⟨tvi, hti⟩ := HR.out.tape
    have hnext := next_any B xs i wv tvi wr hti (by omega)
    have hui : u = i - k := hu
    have hu9 : (u : Int) < 1000 := by omega
    clear hti hui
    by_cases hlt : i < j
    · have hf := HNO.out i hki hlt
      go_wp2_with fail
      refine hnext.mono ?_
      rintro e w1 ⟨tv', rfl, h1, h2, h3⟩
      have hN := take_next HR.out (by omega) h1 h2 h3
      have hd := h2 _ _ _ HR.out.used (by decide) (by omega)
      have d2 := hd.cell 2
      have f2 := hd.frozen 2
      rw [show (#[Value.int .u64 0, .int .u64 0, .int .i64 (u : Int)] : Array Value)[2]? = some (.int .i64 (u : Int)) from rfl] at d2
      have HN := Lib.hid hN
      clear hnext h1 h2 h3 hN hd
      go_wp2_with fail
      refine (takes_any _ _ _).mono ?_
      rintro e w' ⟨rfl, rfl⟩
      go_wp2_with fail
      go_roundg (j + 1 - (i + 1))
      case measure => omega
      case rel => exact ⟨i + 1, u + 1, rfl, by omega, by omega, (show u + 1 = i + 1 - k by have := (show u = i - k from hu); omega), by omega, HN.out⟩
    · obtain rfl : i = j := by omega
      go_wp2_with fail
      refine hnext.mono ?_
      rintro e w1 ⟨tv', rfl, h1, h2, h3⟩
      have hN := take_next HR.out (by omega) h1 h2 h3
      have hd := h2 _ _ _ HR.out.used (by decide) (by omega)
      have d2 := hd.cell 2
      have f2 := hd.frozen 2
      rw [show (#[Value.int .u64 0, .int .u64 0, .int .i64 (u : Int)] : Array Value)[2]? = some (.int .i64 (u : Int)) from rfl] at d2
      have HT := Lib.hid (h1.set hd (o := 2) (by decide) (by omega) (.int .i64 ((u : Int) + 1)))
      have HN := Lib.hid hN
      clear hnext h1 h2 h3 hN hd
      go_wp2_with fail
      refine (takes_any _ _ _).mono ?_
      rintro e w' ⟨rfl, rfl⟩
      clear d2 f2
      generalize hw2 : w1.setCell ⟨w.heap.size + 1, 2, none⟩ (.int .i64 ((u : Int) + 1)) = w2 at *
      have HN2 := HN
      clear HN hw2
      go_wp2_with fail
      refine (rank_yes _ _ hn ht _).mono ?_
      rintro e w3 ⟨rfl, b3⟩
      have hT := Lib.hid (HT.out.belowS b3)
      have hr := HN2.out.res.belowS b3
      have hd := HN2.out.used.belowS b3
      have hB := HN2.out.bel.trans (b3.mono (by have := HN2.out.bel.size; omega))
      have hu2 : (c : Int) = (u : Int) + 1 := by have := (show u = i - k from hu); have := HC.out; omega
      have HU := Lib.hid hu2
      clear HT HN2 b3 HR HS hu2
      have d0 := hd.cell 0
      have d1 := hd.cell 1
      have d2 := hd.cell 2
      have g0 := hd.frozen 0
      have g1 := hd.frozen 1
      have r0 := hr.cell 0
      have r1 := hr.cell 1
      have r2 := hr.cell 2
      have f0 := hr.frozen 0
      have f1 := hr.frozen 1
      have f2 := hr.frozen 2
      have T2 := (hT.out.set hd (o := 0) (by decide) (by omega) (.int .u64 (ui (mulHi xs[i] n)))).set (hd.set_ 0 (.int .u64 (ui (mulHi xs[i] n)))) (o := 1) (by decide) (by omega) (.int .u64 (ui (rankL xs[i] n)))
      have q0 := (hr.far (p := ⟨w.heap.size + 1, 0, none⟩) (by simp) (.int .u64 (ui (mulHi xs[i] n)))).far (p := ⟨w.heap.size + 1, 1, none⟩) (by simp) (.int .u64 (ui (rankL xs[i] n)))
      have q1 := q0.set_ 0 (.int .u64 (ui (mulHi xs[i] n)))
      have q2 := q1.set_ 1 (.int .u64 (ui (rankL xs[i] n)))
      have q3 := q2.set_ 2 (.int .i64 ((u : Int) + 1))
      have T5 := ((T2.set q0 (o := 0) (by decide) (by omega) (.int .u64 (ui (mulHi xs[i] n)))).set q1 (o := 1) (by decide) (by omega) (.int .u64 (ui (rankL xs[i] n)))).set q2 (o := 2) (by decide) (by omega) (.int .i64 ((u : Int) + 1))
      have B5 := ((((hB.setCell (p := ⟨w.heap.size + 1, 0, none⟩) (by simp; omega) (.int .u64 (ui (mulHi xs[i] n)))).setCell (p := ⟨w.heap.size + 1, 1, none⟩) (by simp; omega) (.int .u64 (ui (rankL xs[i] n)))).setCell (p := ⟨w.heap.size, 0, none⟩) (by simp; omega) (.int .u64 (ui (mulHi xs[i] n)))).setCell (p := ⟨w.heap.size, 1, none⟩) (by simp; omega) (.int .u64 (ui (rankL xs[i] n)))).setCell (p := ⟨w.heap.size, 2, none⟩) (by simp; omega) (.int .i64 ((u : Int) + 1))
      have Q3 := Lib.hid q3
      have HT5 := Lib.hid T5
      have HB5 := Lib.hid B5
      clear T2 q0 q1 q2 q3 T5 B5 hd hr hB
      go_wp2_with fail
      have e0 := Q3.out.cell 0
      have e1 := Q3.out.cell 1
      have e2 := Q3.out.cell 2
      have hs : (((#[Value.int .u64 0, .int .u64 0, .int .i64 0] : Array Value).setIfInBounds 0 (.int .u64 (ui (mulHi xs[i] n)))).setIfInBounds 1 (.int .u64 (ui (rankL xs[i] n)))).setIfInBounds 2 (.int .i64 ((u : Int) + 1)) = #[.int .u64 (ui (mulHi xs[i] n)), .int .u64 (ui (rankL xs[i] n)), .int .i64 ((u : Int) + 1)] := rfl
      rw [hs] at e0 e1 e2
      rw [show (#[Value.int .u64 (ui (mulHi xs[i] n)), .int .u64 (ui (rankL xs[i] n)), .int .i64 ((u : Int) + 1)] : Array Value)[0]? = some (.int .u64 (ui (mulHi xs[i] n))) from rfl] at e0
      rw [show (#[Value.int .u64 (ui (mulHi xs[i] n)), .int .u64 (ui (rankL xs[i] n)), .int .i64 ((u : Int) + 1)] : Array Value)[1]? = some (.int .u64 (ui (rankL xs[i] n))) from rfl] at e1
      rw [show (#[Value.int .u64 (ui (mulHi xs[i] n)), .int .u64 (ui (rankL xs[i] n)), .int .i64 ((u : Int) + 1)] : Array Value)[2]? = some (.int .i64 ((u : Int) + 1)) from rfl] at e2
      rw [Exit.noGoto_ret]
      refine bodyPost_ret (v := .tuple #[.agg #[.int .u64 (ui (mulHi xs[i] n)), .int .u64 (ui (rankL xs[i] n)), .int .i64 ((u : Int) + 1)], .int .i64 0]) (by simp [results, Try.results31, go_sem, e0, e1, e2]) rfl ⟨_, by rw [HU.out], HT5.out, HB5.out⟩
end Go.Proofs.Ytodflmngbkiemaa
