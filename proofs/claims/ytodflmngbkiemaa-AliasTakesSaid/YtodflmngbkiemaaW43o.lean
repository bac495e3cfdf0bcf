/- The walk of chapter 43's Take: a tape's item. No condition but on lengths. -/
import Derived.Test.YtodflmngbkiemaaW43n
import Derived.Test.YtodflmngbkiemaaL38d
import Derived.RegionTactic
namespace Go.Proofs.Ytodflmngbkiemaa
open Go.RowKit
theorem info_draw : (Try.prog.info? 57).map (fun i => (i.zero, i.size, i.bytes)) = some (some (.agg #[.int .u64 0, .int .u64 0, .int .i64 0]), 3, 24) := by kernel_rfl
/-- a draw's cells -/
def drC (a r : BitVec 64) (u : Int) : List Value := [.int .u64 (ui a), .int .u64 (ui r), .int .i64 u]
theorem drC_new (w : World) (a r : BitVec 64) (u : Int) (t : TypeId) : ∀ j x, (drC a r u)[j]? = some x → (w.alloc (.cells #[.int .u64 (ui a), .int .u64 (ui r), .int .i64 u] t)).cell? ((⟨w.heap.size, 0, none⟩ : Addr).add j) = some x := by
  intro j x hx
  have h := (Blk.new w t #[.int .u64 (ui a), .int .u64 (ui r), .int .i64 u]).cell
  unfold drC at hx
  rcases j with _ | _ | _ | j
  · rw [Addr.add_lit, h]; exact hx
  · rw [Addr.add_lit, h]; exact hx
  · rw [Addr.add_lit, h]; exact hx
  · simp at hx
theorem take_found3 (B : Nat) (xs : List (BitVec 64)) (k j : Nat) (wv tv : Value) (n : BitVec 64) (hn : (n == 0#64) = false) (w : World) (h : TapeAt w B xs k wv tv) (hkj : k ≤ j) (hj : j < xs.length) (ht : takesL xs[j] n = true) (hno : ∀ i, k ≤ i → (hi : i < j) → takesL (xs[i]'(by omega)) n = false) (a b : BitVec 64) (c : Int) (ha : mulHi xs[j] n = a) (hb : rankL xs[j] n = b) (hc : ((j - k + 1 : Nat) : Int) = c) :
    Calls Try.prog 31 #[.pointer (some ⟨B, 0, none⟩), .int .u64 (ui n)] w fun e w' => ∃ tv', e = .returned (.tuple #[.agg #[.int .u64 (ui a), .int .u64 (ui b), .int .i64 c], .int .i64 0]) ∧ TapeAt w' B xs (j + 1) wv tv' ∧ KA B w w' tv tv' ∧ Below B w w' := by
  subst ha hb hc; exact take_found2 B xs k j wv tv n hn w h hkj hj ht hno
/-- what stands in alias.Take -/
structure AT (w0 w : World) (B bl : Nat) (n1 T : BitVec 64) (bs : List (BitVec 64)) (ls : List Int) (b o cap b2 o2 cap2 : Nat) (xs : List (BitVec 64)) (pos : Nat) (wv tv v : Value) (m : Nat) (dr : List Value) : Prop where
  tape : TapeAt w B xs pos wv tv
  box : Blk w w0.heap.size 27 #[.int .u64 (ui T), .slice (some ⟨b, o, none⟩) bs.length cap, .slice (some ⟨b2, o2, none⟩) bs.length cap2]
  lit : Blk w bl 24 #[.int .u64 (ui n1), .int .u64 (ui T)]
  nl : tv.ownBlock ≠ some bl
  own : w.ownsRow w0.heap.size 57 3 v m dr
  bel : Below B w0 w
  cb : SlC w b o (vals bs)
  ca : SlC w b2 o2 (ints ls)
  hB : B < w0.heap.size
  hb : b < B
  hb2 : b2 < B
  hl : w0.heap.size ≤ bl
section
variable {w0 w w1 : World} {B bl : Nat} {n1 T : BitVec 64} {bs : List (BitVec 64)} {ls : List Int} {b o cap b2 o2 cap2 : Nat} {xs : List (BitVec 64)} {pos : Nat} {wv tv v : Value} {m : Nat} {dr : List Value}
theorem own_ka {base n s : Nat} {v tv tv' : Value} {us : List Value} (h : w.ownsRow base 57 s v n us) (hk : KA B w w1 tv tv') (ht : TapeAt w B xs pos wv tv) : w1.ownsRow base 57 s v n us := by
  refine ⟨h.1, ?_⟩
  rcases h.2 with h2 | ⟨g, cp, cur, rfl, hg, hh, r⟩
  · exact .inl h2
  · have hb : Blk w g 57 cur := hh
    have hne : g ≠ B := hb.ne_ ht.blk (by decide)
    exact .inr ⟨g, cp, cur, rfl, hg, (hk g _ cur hb hne (own_blk_ne ht.taken hb (by decide))).1, r⟩
theorem AT.taken {tv' : Value} {pos' : Nat} (h : AT w0 w B bl n1 T bs ls b o cap b2 o2 cap2 xs pos wv tv v m dr) (ht : TapeAt w1 B xs pos' wv tv') (hk : KA B w w1 tv tv') (hb : Below B w w1) : AT w0 w1 B bl n1 T bs ls b o cap b2 o2 cap2 xs pos' wv tv' v m dr := by
  have hB := h.hB
  have hl := h.hl
  obtain ⟨l1, l2⟩ := hk _ _ _ h.lit (by omega) h.nl
  exact ⟨ht, (hk _ _ _ h.box (by omega) (own_blk_ne h.tape.taken h.box (by decide))).1, l1, l2, own_ka h.own hk h.tape, h.bel.trans hb, h.cb.belowN hb h.hb, h.ca.belowN hb h.hb2, hB, h.hb, h.hb2, hl⟩
theorem AT.next (h : AT w0 w B bl n1 T bs ls b o cap b2 o2 cap2 xs pos wv tv v m dr) (hb : Below w.heap.size w w1) : AT w0 w1 B bl n1 T bs ls b o cap b2 o2 cap2 xs pos wv tv v m dr :=
  ⟨h.tape.belowS hb, h.box.belowS hb, h.lit.belowS hb, h.nl, owns_below h.own hb, h.bel.trans (hb.mono (Nat.le_of_lt h.tape.blk.lt)), h.cb.below hb, h.ca.below hb, h.hB, h.hb, h.hb2, h.hl⟩
theorem tape_grown {row : Option Nat} (h : TapeAt w B xs pos wv tv) (hg : w.grownBy w1 row) (h1 : some B ≠ row) (h2 : ∀ k, row = some k → B ≤ k) (h3 : tv.ownBlock = none ∨ tv.ownBlock ≠ row) : TapeAt w1 B xs pos wv tv :=
  ⟨h.blk.grown hg h1, h.words.below ((Below.refl B w).grown hg (Nat.le_of_lt h.blk.lt) h2), h.taken.kept hg h3, h.le, h.few⟩
theorem AT.grown {v' : Value} {m' : Nat} {dr' : List Value} (h : AT w0 w B bl n1 T bs ls b o cap b2 o2 cap2 xs pos wv tv v m dr) (hg : w.grownBy w1 v.ownBlock) (ho : w1.ownsRow w0.heap.size 57 3 v' m' dr') : AT w0 w1 B bl n1 T bs ls b o cap b2 o2 cap2 xs pos wv tv v' m' dr' := by
  have hB := h.hB
  have hr : ∀ k, v.ownBlock = some k → B ≤ k := fun k hk => by have := (h.own.lt k hk).1; omega
  have hbl : Below B w w1 := (Below.refl B w).grown hg (Nat.le_of_lt h.tape.blk.lt) hr
  exact ⟨tape_grown h.tape hg (own_blk_ne h.own h.tape.blk (by decide)).symm hr (own_own_ne h.tape.taken h.own (by decide)), h.box.grown hg (own_blk_ne h.own h.box (by decide)).symm, h.lit.grown hg (own_blk_ne h.own h.lit (by decide)).symm, h.nl, ho, h.bel.trans hbl, h.cb.belowN hbl h.hb, h.ca.belowN hbl h.hb2, hB, h.hb, h.hb2, h.hl⟩
end
/-- a tape that is taken from in vain -/
def ATn (w : World) (B : Nat) (xs : List (BitVec 64)) (pos : Nat) (wv : Value) (q : Int) (e : Ending) (w' : World) : Prop := ∃ tv', e = .returned (.tuple #[.int .i64 0, .slice none 0 0, .int .i64 q]) ∧ TapeAt w' B xs pos wv tv' ∧ Below B w w'
def ATy (w : World) (B : Nat) (xs : List (BitVec 64)) (pos : Nat) (wv : Value) (i : Int) (dr : List Value) (e : Ending) (w' : World) : Prop := ∃ tv' v, e = .returned (.tuple #[.int .i64 i, v, .int .i64 0]) ∧ TapeAt w' B xs pos wv tv' ∧ Below B w w' ∧ w'.ownsRow w.heap.size 57 3 v 2 dr
theorem atake_bad (T : BitVec 64) (bs : List (BitVec 64)) (ls : List Int) (vb va : Value) (w : World) (hb : SlV w vb (vals bs)) (ha : SlV w va (ints ls)) (hl : bs.length ≤ 9223372036854775807) (hne : errT T bs ls ≠ 0) (B : Nat) (xs : List (BitVec 64)) (pos : Nat) (wv tv : Value) (h : TapeAt w B xs pos wv tv) :
    Calls Try.prog 45 #[.pointer (some ⟨B, 0, none⟩), .agg #[.int .u64 (ui T), vb, va]] w (ATn w B xs pos wv (errT T bs ls)) := by
  have b0 := below_new w (.cells #[.int .u64 (ui T), vb, va] 27)
  have hb1 := hb.below b0
  have ha1 := ha.below b0
  have hq : (errT T bs ls != 0) = true := by rw [bne_iff_ne]; exact hne
  have hk := chk_any T bs ls _ _ _ hb1 ha1 hl
  have HT := Lib.hid h
  clear hb ha hb1 ha1 h
  generalize errT T bs ls = q at *
  go_enter Try.func45, Try.ntmps45
  go_wp2_with fail
  refine hk.mono ?_
  rintro e w1 ⟨rfl, b1⟩
  have bb := b0.trans (b1.mono b0.size)
  clear b0 b1 hk
  go_wp2_with fail
  go_ret3
  exact ⟨tv, rfl, HT.out.belowS bb, bb.mono (Nat.le_of_lt HT.out.blk.lt)⟩
theorem at_start {w w1 : World} {B : Nat} {n1 T : BitVec 64} {bs : List (BitVec 64)} {ls : List Int} {b o cap b2 o2 cap2 : Nat} {xs : List (BitVec 64)} {pos : Nat} {wv tv : Value} (h : TapeAt w B xs pos wv tv) (hx : BX w w1 w.heap.size T bs ls b o cap b2 o2 cap2) (hb : b < B) (hb2 : b2 < B) :
    AT w (w1.alloc (.cells #[.int .u64 (ui n1), .int .u64 (ui T)] 24)) B w1.heap.size n1 T bs ls b o cap b2 o2 cap2 xs pos wv tv (.slice none 0 0) 0 [] := by
  have hs := hx.bel.size
  have hB := h.blk.lt
  refine ⟨(h.belowS hx.bel).alloc _, hx.box.alloc _, Blk.new _ _ _, fun e => ?_, World.ownsRow_nil _ _ _ _, (hx.bel.mono (Nat.le_of_lt hB)).alloc (by omega) _, hx.cb.below (below_new _ _), hx.ca.below (below_new _ _), hB, hb, hb2, hs⟩
  have := (h.taken.lt _ e).2
  omega
theorem atake_none1 (T n1 : BitVec 64) (bs : List (BitVec 64)) (ls : List Int) (b o cap b2 o2 cap2 : Nat) (w : World) (hc : SlC w b o (vals bs)) (hc2 : SlC w b2 o2 (ints ls)) (hok : OkT T bs ls) (B : Nat) (xs : List (BitVec 64)) (wv tv : Value) (h : TapeAt w B xs 0 wv tv) (hb : b < B) (hb2 : b2 < B) (hn1 : BitVec.ofNat 64 bs.length = n1) (hz : (n1 == 0#64) = false) (hno : ∀ i, 0 ≤ i → (hi : i < xs.length) → takesL xs[i] n1 = false) :
    Calls Try.prog 45 #[.pointer (some ⟨B, 0, none⟩), .agg #[.int .u64 (ui T), .slice (some ⟨b, o, none⟩) bs.length cap, .slice (some ⟨b2, o2, none⟩) bs.length cap2]] w (ATn w B xs xs.length wv 7) := by
  have HX := Lib.hid (BX.new T cap cap2 hc hc2)
  have HO := Lib.hid hok
  have HH := Lib.hid h
  have hn2 := hok.n2
  have HN := Lib.hid hno
  clear hc hc2 hok h hno
  go_enter Try.func45, Try.ntmps45
  go_wp2_with fail
  refine (HX.out.chk HO.out).mono ?_
  rintro e w1 ⟨rfl, b1⟩
  have HX1 := Lib.hid (HX.out.next b1)
  obtain ⟨d0, d1, d2⟩ := tab_cells HX1.out.box
  have HA := Lib.hid (at_start (n1 := n1) HH.out HX1.out hb hb2)
  clear b1 HX
  go_wp2_with fail
  go_loopw [8, 28] (fun v i wr => i = .int .i64 0 ∧ v = .slice none 0 0 ∧ AT w wr B w1.heap.size n1 T bs ls b o cap b2 o2 cap2 xs 0 wv tv (.slice none 0 0) 0 []) (fun _ i _ => 2 - (intOf i).toNat)
  case atStart => exact ⟨rfl, rfl, HA.out⟩
  case round =>
    obtain ⟨rfl, rfl, ha⟩ := hrel
    clear HA HX1 d0 d1 d2
    have HA := Lib.hid ha
    have l0 := ha.lit.cell 0
    have l1 := ha.lit.cell 1
    clear ha
    go_wp2_with fail
    refine (take_none B xs 0 wv tv n1 hz _ HA.out.tape HN.out).mono ?_
    rintro e w2 ⟨tv2, rfl, t2, bb⟩
    have HT2 := Lib.hid t2
    have hbb := HA.out.bel.trans bb
    clear bb t2 HA l0 l1
    go_wp2_with fail
    go_ret3
    exact ⟨tv2, rfl, HT2.out.alloc _, hbb.alloc (by have := hbb.size; have := HH.out.blk.lt; omega) _⟩
end Go.Proofs.Ytodflmngbkiemaa
