/- The walks of the tape (chapter 37): made, asked for its next word, asked how many came. No condition but on lengths. -/
import Derived.Test.YtodflmngbkiemaaShelf
import Derived.Test.YtodflmngbkiemaaR01
import Derived.Deep.Draws
import Derived.Laws.OwnMore
import Derived.Laws.Rows
namespace Go.Proofs.Ytodflmngbkiemaa
open Go.RowKit
/-- a block that is known whole -/
def Blk (w : World) (g : Nat) (t : TypeId) (cs : Array Value) : Prop := w.heap[g]? = some (.cells cs t (0, 0))
section
variable {w w' : World} {g : Nat} {t : TypeId} {cs : Array Value}
theorem Blk.lt (h : Blk w g t cs) : g < w.heap.size := by
  rcases Nat.lt_or_ge g w.heap.size with hlt | hge
  · exact hlt
  · unfold Blk at h; rw [Array.getElem?_eq_none hge] at h; cases h
theorem Blk.cell (h : Blk w g t cs) (i : Nat) : w.cell? ⟨g, i, none⟩ = cs[i]? := cell_of_row w g i cs t (0, 0) h
theorem Blk.frozen (h : Blk w g t cs) (i : Nat) : w.frozen? ⟨g, i, none⟩ = false := by
  unfold Blk at h
  simp [World.frozen?, h]
theorem Blk.new (w : World) (t : TypeId) (cs : Array Value) : Blk (w.alloc (.cells cs t)) w.heap.size t cs := heap_alloc_new w _
theorem Blk.drew (h : Blk w g t cs) : Blk w.drew g t cs := h
theorem Blk.drewN (h : Blk w g t cs) (n : Nat) : Blk (w.drewN n) g t cs := h
theorem Blk.alloc (h : Blk w g t cs) (o : Obj) : Blk (w.alloc o) g t cs := (Below.heap_alloc w o g h.lt).trans h
theorem Blk.set_ (h : Blk w g t cs) (i : Nat) (u : Value) : Blk (w.setCell ⟨g, i, none⟩ u) g t (cs.setIfInBounds i u) := by
  unfold Blk at h ⊢
  simp [World.setCell, Array.getElem?_modify, h]
theorem Blk.far (h : Blk w g t cs) {p : Addr} (hp : g ≠ p.block) (u : Value) : Blk (w.setCell p u) g t cs := (Below.heap_setCell w p u g hp).trans h
theorem Blk.below {B : Nat} (h : Blk w g t cs) (hb : Below B w w') (hg : g < B) : Blk w' g t cs := (hb.block g hg).trans h
theorem Blk.grown {row : Option Nat} (h : Blk w g t cs) (hb : w.grownBy w' row) (hg : some g ≠ row) : Blk w' g t cs := (hb.block g h.lt hg).trans h
theorem Blk.ne_ {g' : Nat} {t' : TypeId} {cs' : Array Value} (h : Blk w g t cs) (h' : Blk w g' t' cs') (hne : t ≠ t') : g ≠ g' := by
  rintro rfl
  unfold Blk at h h'
  rw [h] at h'
  injection h' with h'
  injection h' with _ ht
  exact hne ht
theorem own_blk_ne {base : Nat} {e : TypeId} {size n : Nat} {v : Value} {xs : List Value} (h : w.ownsRow base e size v n xs) (hg : Blk w g t cs) (hne : e ≠ t) : v.ownBlock ≠ some g := by
  rcases h.2 with ⟨rfl, _⟩ | ⟨g', cap, cur, rfl, _, hh, _⟩
  · simp [Value.ownBlock]
  · intro he
    have : g' = g := by simpa [Value.ownBlock] using he
    subst this
    exact Blk.ne_ (t := e) hh hg hne rfl
end
/-- the function that a tape of words tells its next word by -/
def nextV : Value := .func (Fn.func 55) #[] #[]
/-- a slice that reads as a list, below block B -/
def SlB (w : World) (B : Nat) (v : Value) (us : List Value) : Prop :=
  (us = [] ∧ ∃ ao cap, v = .slice ao 0 cap) ∨ ∃ b o cap, v = .slice (some ⟨b, o, none⟩) us.length cap ∧ b < B ∧ 0 < us.length ∧ ∀ i u, us[i]? = some u → w.cell? ⟨b, o + i, none⟩ = some u
theorem SlB.of {w : World} {v : Value} {us : List Value} (h : SlV w v us) : SlB w w.heap.size v us := by
  rcases h.cases with h | ⟨b, o, cap, rfl, hp, hc⟩
  · exact .inl h
  · obtain ⟨u, hu⟩ : ∃ u, us[0]? = some u := ⟨us[0], List.getElem?_eq_getElem hp⟩
    exact .inr ⟨b, o, cap, rfl, World.block_lt_of_cell? w _ (hc 0 u hu), hp, hc⟩
theorem SlB.to {w : World} {B : Nat} {v : Value} {us : List Value} (h : SlB w B v us) : SlV w v us := by
  rcases h with h | ⟨b, o, cap, rfl, _, _, hc⟩
  · exact .inl h
  · exact .inr ⟨b, o, cap, rfl, hc⟩
theorem SlB.below {w w' : World} {B : Nat} {v : Value} {us : List Value} (h : SlB w B v us) (hb : Below B w w') : SlB w' B v us := by
  rcases h with h | ⟨b, o, cap, rfl, h1, hp, hc⟩
  · exact .inl h
  · exact .inr ⟨b, o, cap, rfl, h1, hp, fun i u hu => by rw [hb.cell (p := ⟨b, o + i, none⟩) h1]; exact hc i u hu⟩
theorem SlB.mono {w : World} {B B' : Nat} {v : Value} {us : List Value} (h : SlB w B v us) (hb : B ≤ B') : SlB w B' v us := by
  rcases h with h | ⟨b, o, cap, rfl, h1, hp, hc⟩
  · exact .inl h
  · exact .inr ⟨b, o, cap, rfl, by omega, hp, hc⟩
/-- the cells of a tape -/
def tapeC (wv tv : Value) (left : Nat) : Array Value := #[wv, .int .i64 0, .int .u64 0, .int .u64 0, .int .u64 0, .int .u64 0, .int .i64 left, tv, nextV]
/-- a tape of the words xs, of which k were taken, in block B; its words lie below, what was taken above -/
structure TapeAt (w : World) (B : Nat) (xs : List (BitVec 64)) (k : Nat) (wv tv : Value) : Prop where
  blk : Blk w B 95 (tapeC wv tv (xs.length - k))
  words : SlB w B wv (vals xs)
  taken : w.ownsRow (B + 1) 24 1 tv k (vals (xs.take k))
  le : k ≤ xs.length
  few : xs.length ≤ 1000
theorem slV_len {w : World} {v : Value} {us : List Value} (h : SlV w v us) : ∃ ao cap, v = .slice ao us.length cap := by
  rcases h with ⟨rfl, ao, cap, rfl⟩ | ⟨b, o, cap, rfl, _⟩
  · exact ⟨ao, cap, rfl⟩
  · exact ⟨_, cap, rfl⟩
theorem new_any (v : Value) (xs : List (BitVec 64)) (hl : xs.length ≤ 1000) (w : World) (hx : SlV w v (vals xs)) :
    Calls Try.prog 30 #[v] w fun e w' => ∃ B wv, e = .returned (.pointer (some ⟨B, 0, none⟩)) ∧ TapeAt w' B xs 0 wv (.slice none 0 0) ∧ w.heap.size ≤ B ∧ Below w.heap.size w w' := by
  obtain ⟨ao, cap, rfl⟩ := slV_len hx
  rw [vals_length] at *
  go_enter Try.func30, Try.ntmps30
  go_wp2_with fail
  refine (clone_any _ xs (by omega) w hx).mono ?_
  rintro e w1 ⟨wv, rfl, h1, _, h3⟩
  obtain ⟨ao2, cap2, rfl⟩ := slV_len h1
  rw [vals_length] at *
  go_wp2_with fail
  go_ret
  refine ⟨w1.heap.size, .slice ao2 xs.length cap2, rfl, ⟨?_, ?_, ?_, by omega, hl⟩, h3.size, h3.alloc h3.size _⟩
  · exact Blk.new _ _ _
  · exact (SlB.of h1).below ((Below.refl _ _).alloc (Nat.le_refl _) _)
  · exact World.ownsRow_nil _ _ _ _
theorem next_ne (w : World) : (binOp .neq 93 nextV .nilFunc).run Try.prog w = .ok (.bool true) w := by kernel_rfl
theorem next_guard (x y : Operand) (w : World) : (eqGuard .neq 93 x y nextV .nilFunc).run Try.prog w = .ok () w := by kernel_rfl
theorem ok_any (B : Nat) (xs : List (BitVec 64)) (k : Nat) (wv tv : Value) (w : World) (h : TapeAt w B xs k wv tv) :
    Calls Try.prog 58 #[.pointer (some ⟨B, 0, none⟩)] w fun e w' => e = .returned (.bool true) ∧ w = w' := by
  have c8 := h.blk.cell 8
  have e8 : (tapeC wv tv (xs.length - k))[8]? = some nextV := rfl
  rw [e8] at c8
  clear e8 h
  have hn := next_ne
  have hg := next_guard
  go_enter Try.func58, Try.ntmps58
  go_wp2_with fail
  go_ret
  exact ⟨rfl, rfl⟩
theorem used_any (B : Nat) (xs : List (BitVec 64)) (k : Nat) (wv tv : Value) (w : World) (h : TapeAt w B xs k wv tv) :
    Calls Try.prog 32 #[.pointer (some ⟨B, 0, none⟩)] w fun e w' => e = .returned (.int .i64 k) ∧ w = w' := by
  obtain ⟨ao, cap, htv⟩ := slV_len (SlV.of_owns h.taken)
  rw [vals_length, List.length_take, Nat.min_eq_left h.le] at htv
  subst htv
  have c7 := h.blk.cell 7
  have e7 : (tapeC wv (.slice ao k cap) (xs.length - k))[7]? = some (.slice ao k cap) := rfl
  rw [e7] at c7
  clear e7
  go_enter Try.func32, Try.ntmps32
  go_wp2_with fail
  refine (ok_any B xs k _ _ w h).mono ?_
  rintro e w' ⟨rfl, rfl⟩
  go_wp2_with fail
  go_ret
  exact ⟨rfl, rfl⟩
theorem tclos_any (B : Nat) (xs : List (BitVec 64)) (k : Nat) (wv tv : Value) (w : World) (h : TapeAt w B xs k wv tv) (hk : k < xs.length) :
    Calls Try.prog 55 #[.pointer (some ⟨B, 0, none⟩)] w fun e w' => e = .returned (.int .u64 (ui xs[k])) ∧ ∃ n, w' = w.drewN n := by
  obtain ⟨ao, cap, htv⟩ := slV_len (SlV.of_owns h.taken)
  rw [vals_length, List.length_take, Nat.min_eq_left h.le] at htv
  subst htv
  have hw := h.words
  rcases hw with ⟨hn, _⟩ | ⟨b, o, cap2, rfl, hb, hp, hc⟩
  · have := congrArg List.length hn
    rw [vals_length] at this
    simp at this; subst this; simp at hk
  · rw [vals_length] at *
    have c7 := h.blk.cell 7
    have c0 := h.blk.cell 0
    have e7 : (tapeC (.slice (some ⟨b, o, none⟩) xs.length cap2) (.slice ao k cap) (xs.length - k))[7]? = some (.slice ao k cap) := rfl
    have e0 : (tapeC (.slice (some ⟨b, o, none⟩) xs.length cap2) (.slice ao k cap) (xs.length - k))[0]? = some (.slice (some ⟨b, o, none⟩) xs.length cap2) := rfl
    rw [e7] at c7
    rw [e0] at c0
    have cw := hc k _ (vals_get xs k hk)
    have hk' : (k : Int) < (xs.length : Int) := by omega
    have hk0 : (0 : Int) ≤ (k : Int) := by omega
    have hfew := h.few
    clear e7 e0 h hc
    go_enter Try.func55, Try.ntmps55
    go_wp2_with fail
    go_quiet (fail)
    go_wp2_with fail
    go_ret
    exact ⟨rfl, _, rfl⟩
/-- what the tape's next word leaves alone -/
def Kept (B : Nat) (w w' : World) : Prop := ∀ b t cs, Blk w b t cs → t ≠ 24 → b ≠ B → Blk w' b t cs
theorem next_none (B : Nat) (xs : List (BitVec 64)) (wv tv : Value) (w : World) (h : TapeAt w B xs xs.length wv tv) :
    Calls Try.prog 57 #[.pointer (some ⟨B, 0, none⟩)] w fun e w' => e = .returned (.tuple #[.int .u64 0, .int .i64 7]) ∧ w = w' := by
  have c6 := h.blk.cell 6
  have e6 : (tapeC wv tv (xs.length - xs.length))[6]? = some (.int .i64 ((xs.length - xs.length : Nat) : Int)) := rfl
  rw [e6, Nat.sub_self] at c6
  clear e6
  go_enter Try.func57, Try.ntmps57
  go_wp2_with fail
  refine (ok_any B xs _ _ _ w h).mono ?_
  rintro e w' ⟨rfl, rfl⟩
  go_wp2_with fail
  go_ret2
  exact ⟨rfl, rfl⟩
theorem next_any (B : Nat) (xs : List (BitVec 64)) (k : Nat) (wv tv : Value) (w : World) (h : TapeAt w B xs k wv tv) (hk : k < xs.length) :
    Calls Try.prog 57 #[.pointer (some ⟨B, 0, none⟩)] w fun e w' => ∃ tv', e = .returned (.tuple #[.int .u64 (ui xs[k]), .int .i64 0]) ∧ TapeAt w' B xs (k + 1) wv tv' ∧ Kept B w w' ∧ Below B w w' := by
  have c6 := h.blk.cell 6
  have e6 : (tapeC wv tv (xs.length - k))[6]? = some (.int .i64 ((xs.length - k : Nat) : Int)) := rfl
  rw [e6] at c6
  have c8 := h.blk.cell 8
  have e8 : (tapeC wv tv (xs.length - k))[8]? = some nextV := rfl
  rw [e8] at c8
  have hl0 : (((xs.length - k : Nat) : Int) == 0) = false := by rw [beq_eq_false_iff_ne]; omega
  have f6 := h.blk.frozen 6
  have f7 := h.blk.frozen 7
  have hfew := h.few
  unfold nextV at c8
  clear e6 e8
  go_enter Try.func57, Try.ntmps57
  go_wp2_with fail
  refine (ok_any B xs _ _ _ w h).mono ?_
  rintro e w' ⟨rfl, rfl⟩
  go_wp2_with fail
  refine (tclos_any B xs k _ _ w h hk).mono ?_
  rintro e w' ⟨rfl, nq, rfl⟩
  have hS : ∀ b t cs, Blk w b t cs → Blk (w.drewN nq) b t cs := fun b t cs hb => hb
  have hB : Below B w (w.drewN nq) := below_drewN (Below.refl _ _) _
  have h2 : TapeAt (w.drewN nq) B xs k wv tv := ⟨h.blk, h.words, h.taken, h.le, h.few⟩
  have HS := Lib.hid hS
  clear h hS c6 c8 f6 f7
  generalize w.drewN nq = w2 at *
  have c6 := h2.blk.cell 6
  have e6 : (tapeC wv tv (xs.length - k))[6]? = some (.int .i64 ((xs.length - k : Nat) : Int)) := rfl
  rw [e6] at c6
  have c7 := h2.blk.cell 7
  have e7 : (tapeC wv tv (xs.length - k))[7]? = some tv := rfl
  rw [e7] at c7
  have f6 := h2.blk.frozen 6
  have f7 := h2.blk.frozen 7
  have hlt := h2.blk.lt
  have hown := ownsRow_setCell_below h2.taken (a := ⟨B, 6, none⟩) (by simp) (.int .i64 (((xs.length - k : Nat) : Int) - 1))
  have hb6 := h2.blk.set_ 6 (.int .i64 (((xs.length - k : Nat) : Int) - 1))
  obtain ⟨i0, hi, hz0, hz1, hz2⟩ := info_parts sh_info_u64
  have H2 := Lib.hid h2
  have HB6 := Lib.hid hb6
  have H0 := Lib.hid hl0
  clear e6 e7 h2 hb6 hl0
  go_wp2_with (at_builtin; refine wpList_append_own _ rfl _ _ 22 rfl (B + 1) 24 i0 (.int .u64 0) 1 8 Try.underlying22 hi hz0 hz1 hz2 rfl (by decide) _ _ _ rfl (hown.alloc _) ⟨w2.heap.size, 0, none⟩ 1 1 [.int .u64 (ui xs[k])] rfl rfl ?c1 ?c2 ?c3 ?c4 ?c5 ?_)
  case c2 => intro u hu; simp at hu; subst hu; rfl
  case c3 => unfold maxLen; omega
  case c4 => omega
  case c5 => simp; omega
  case c1 =>
    have h := cell_one_new (w2.setCell ⟨B, 6, none⟩ (.int .i64 (((xs.length - k : Nat) : Int) - 1))) (.int .u64 (ui xs[k])) 24
    rw [size_setCell] at h
    exact h
  intro tv' w4 hown' hgrow _
  obtain ⟨ao, cap, htv⟩ := slV_len (SlV.of_owns hown')
  rw [hown'.1, Nat.mul_one] at htv
  subst htv
  have hne := own_blk_ne (hown.alloc (.cells #[.int .u64 (ui xs[k])] 24)) (HB6.out.alloc _) (by decide)
  have hb4 := (HB6.out.alloc (.cells #[.int .u64 (ui xs[k])] 24)).grown hgrow (fun e => hne e.symm)
  have hb5 := hb4.set_ 7 (.slice ao (k + 1) cap)
  have c7 := hb4.cell 7
  have e7 : ((tapeC wv tv (xs.length - k)).setIfInBounds 6 (.int .i64 (((xs.length - k : Nat) : Int) - 1)))[7]? = some tv := rfl
  rw [e7] at c7
  have f7 := hb4.frozen 7
  have hlt4 := hb4.lt
  have hB24 : Below B w2 w4 := (((Below.refl B w2).setCell (p := ⟨B, 6, none⟩) (Nat.le_refl _) _).alloc (by rw [size_setCell]; omega) _).grown hgrow (by simp; omega) (fun q hq => by have := (hown.lt q hq).1; omega)
  have hB4 := hB.trans hB24
  have hown5 := ownsRow_setCell_below hown' (a := ⟨B, 7, none⟩) (by simp) (.slice ao (k + 1) cap)
  have hK4 : ∀ b t cs, Blk w b t cs → t ≠ 24 → b ≠ B → Blk w4 b t cs := by
    intro b t cs hb ht hbB
    have h1 := ((HS.out b t cs hb).far (p := ⟨B, 6, none⟩) hbB (.int .i64 (((xs.length - k : Nat) : Int) - 1))).alloc (.cells #[.int .u64 (ui xs[k])] 24)
    exact h1.grown hgrow (fun e => own_blk_ne (hown.alloc _) h1 (fun e => ht e.symm) e.symm)
  have HOWN := Lib.hid hown5
  have HB5 := Lib.hid hb5
  have HK := Lib.hid hK4
  clear hown' hgrow hne hb4 hb5 e7 hown5 hK4 hown c6 f6
  go_wp2_with fail
  go_ret2
  have hw := H2.out
  refine ⟨.slice ao (k + 1) cap, rfl, ⟨?_, hw.words.below (hB24.setCell (Nat.le_refl _) _), ?_, hk, hfew⟩, ?_, hB4.setCell (Nat.le_refl _) _⟩
  · have h := HB5.out
    have e : ((tapeC wv tv (xs.length - k)).setIfInBounds 6 (.int .i64 (((xs.length - k : Nat) : Int) - 1))).setIfInBounds 7 (.slice ao (k + 1) cap) = tapeC wv (.slice ao (k + 1) cap) (xs.length - (k + 1)) := by
      have e1 : (((xs.length - k : Nat) : Int) - 1) = ((xs.length - (k + 1) : Nat) : Int) := by omega
      rw [e1]; rfl
    rw [e] at h
    exact h
  · have h := HOWN.out
    rw [← vals_snoc] at h
    rw [List.take_succ_eq_append_getElem hk]
    exact h
  · intro b t cs hb ht hbB
    exact (HK.out b t cs hb ht hbB).far (p := ⟨B, 7, none⟩) hbB _
end Go.Proofs.Ytodflmngbkiemaa
