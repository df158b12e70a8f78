/- The walk of the table's Put. -/
import Derived.Test.YtldacinldgjdcaaTabC
import Derived.BigRegion
import Derived.StillTailTactics
import Derived.Great.BuildSlice
namespace Go.Proofs.Ytldacinldgjdcaa
open Go.RowKit Go.Maps
attribute [local go_sem] entA_ne slotA_ne entA_set0 entA_set2
attribute [local go_sem ↓] lv37 zero37 sv37 lv61 zero61 sv61 lv101 zero101 sv101 run_b101
attribute [local go_sem] run_lv37 run_zero37 run_sv37 run_lv61 run_sv61 run_zeroEnt run_lv101 run_sv101 run_zeroSlot rowFree_new rowFree_alloc setRow_new setRow_alloc aggAt_newb aggAt_old aggAt_drew aggAt_drewN posA_size oneCells_pos entA_size oneCells_ent slotA_size oneCells_slot After.cell After.frozen After.agg add_block run_b0 run_b101

theorem built101 (e : Ent) (c : Nat → Int) : Try.prog.built 101 [(0, .agg (entA e)), (1, .agg (posA c))] = some (slotA e c) := by kernel_rfl
theorem wpStill_build {P : Program} {ops : Array Oper} {w : World} {Q : Act → Prop} {rest : List Oper} {a : Act} {o : Oper} (hg : o.guard = none) (t : TypeId) (parts : Array (Nat × Operand)) (ho : o.op = .build t parts)
    (cells : Array Value) (hf : P.built t (parts.map fun (i, x) => (i, a.eval x)).toList = some cells) (h : wpStill P ops w Q rest (a.put o.dst (.agg cells))) : wpStill P ops w Q (o :: rest) a := by
  have hrun := run_build w t (parts.map fun (i, x) => (i, a.eval x)) cells hf
  unfold wpStill
  simp [Region.wanted, hg, Oper.still, Oper.stillUpon, execOp, ho, hrun, Result.andThen]
  exact h
def mayB (e : Ent) : Bool := !(decide (e.k < 1) || decide (3 < e.k) || decide (e.d < 0))
def putB (f : Tab) (sz : Nat) (c : Nat → Int) (e : Ent) : Bool :=
  mayB e && (match f (idxOf sz c) with | none => true | some (e', c') => !(decide (e.d < e'.d) && !sameB c' c))
def putT (f : Tab) (sz : Nat) (c : Nat → Int) (e : Ent) : Tab := if putB f sz c e then setT f (idxOf sz c) (e, c) else f
/-- What lies in a block of its own. -/
theorem ent_cells {w : World} {g : Nat} {e : Ent} {t : TypeId} {fr : Nat × Nat} (h : w.heap[g]? = some (.cells (entA e) t fr)) : w.cell? ⟨g, 0, none⟩ = some (.int .i64 e.d) ∧ w.cell? ⟨g, 2, none⟩ = some (.int .u8 e.k) ∧ aggAt w ⟨g, 0, none⟩ 8 = some (entA e) :=
  ⟨by rw [cell_of_row _ _ _ _ _ _ h]; rfl, by rw [cell_of_row _ _ _ _ _ _ h]; rfl, aggAt_row h⟩
theorem slot_cells {w : World} {g : Nat} {e : Ent} {c : Nat → Int} {t : TypeId} {fr : Nat × Nat} (h : w.heap[g]? = some (.cells (slotA e c) t fr)) : w.cell? ⟨g, 0, none⟩ = some (.int .i64 e.d) ∧ aggAt w ⟨g, 0, none⟩ 8 = some (entA e) ∧ aggAt w ⟨g, 8, none⟩ 88 = some (posA c) := by
  refine ⟨by rw [cell_of_row _ _ _ _ _ _ h]; rfl, aggAt_of (entA_size _) fun i hi => ?_, aggAt_of (posA_size _) fun i hi => ?_⟩
  · rw [add0, cell_of_row _ _ _ _ _ _ h, slot_ent _ _ _ hi]
  · have e1 : (⟨g, 8, none⟩ : Addr).add i = ⟨g, 8 + i, none⟩ := by unfold Addr.add; split <;> simp_all
    rw [e1, cell_of_row _ _ _ _ _ _ h, slot_pos]
/-- A block as it is, and the table; what came ahead is as it was. -/
structure PutSt (w0 : World) (tb bm sz : Nat) (f : Tab) (c : Nat → Int) (e : Ent) (w : World) : Prop where
  tab : TabSt w tb bm sz f
  below : Below w0.heap.size w0 w
  p : w.heap[w0.heap.size]? = some (.cells (posA c) 37 (0, 0))
  x : w.heap[w0.heap.size + 1]? = some (.cells (entA e) 61 (0, 0))
theorem PutSt.step {w0 : World} {tb bm sz : Nat} {f : Tab} {c : Nat → Int} {e : Ent} {w w' : World} (h : PutSt w0 tb bm sz f c e w) (hb : Below w.heap.size w w') : PutSt w0 tb bm sz f c e w' :=
  ⟨h.tab.below hb, below_join h.below hb, (hb.block _ (Array.getElem?_eq_some_iff.1 h.p).1).trans h.p, (hb.block _ (Array.getElem?_eq_some_iff.1 h.x).1).trans h.x⟩
theorem PutSt.start {w0 : World} {tb bm sz : Nat} {f : Tab} {c : Nat → Int} {e : Ent} (h : TabSt w0 tb bm sz f) : PutSt w0 tb bm sz f c e ((w0.alloc (.cells (posA c) 37)).alloc (.cells (entA e) 61)) := by
  have hb : Below w0.heap.size w0 ((w0.alloc (.cells (posA c) 37)).alloc (.cells (entA e) 61)) := by go_grown
  refine ⟨h.below hb, hb, (Below.heap_alloc _ _ _ (by simp)).trans (heap_alloc_new w0 _), ?_⟩
  have := heap_alloc_new (w0.alloc (.cells (posA c) 37)) (.cells (entA e) 61)
  simpa using this
theorem putB_no {f : Tab} {sz : Nat} {c : Nat → Int} {e : Ent} (h : mayB e = false) : putB f sz c e = false := by unfold putB; rw [h]; rfl
theorem putT_no {f : Tab} {sz : Nat} {c : Nat → Int} {e : Ent} (h : putB f sz c e = false) : putT f sz c e = f := by unfold putT; rw [h]; rfl
theorem putT_yes {f : Tab} {sz : Nat} {c : Nat → Int} {e : Ent} (h : putB f sz c e = true) : putT f sz c e = setT f (idxOf sz c) (e, c) := by unfold putT; rw [h]; rfl
set_option maxRecDepth 100000 in
set_option maxHeartbeats 1000000 in
theorem put_any {w : World} {tb bm sz : Nat} {f : Tab} (c : Nat → Int) (e : Ent) (st : TabSt w tb bm sz f) (hc : PosOk c) (he : EntOk e) :
    Calls Try.prog 47 #[.pointer (some ⟨tb, 0, none⟩), .agg (posA c), .agg (entA e)] w fun r w' => r = .returned (.bool (putB f sz c e)) ∧ TabSt w' tb bm sz (putT f sz c e) ∧ w.grownBy w' (some bm) ∧ (putB f sz c e = true ∨ Below w.heap.size w w') := by
  have ps := PutSt.start (c := c) (e := e) st
  have OC := Lib.hid hc
  have OE := Lib.hid he
  clear hc he
  rcases Bool.eq_false_or_eq_true (mayB e) with hmay | hmay
  · obtain ⟨h1, h2, h3⟩ : ¬e.k < 1 ∧ ¬3 < e.k ∧ ¬e.d < 0 := by
      simp only [mayB, Bool.not_eq_true', Bool.or_eq_false_iff, decide_eq_false_iff_not] at hmay
      exact ⟨hmay.1.1, hmay.1.2, hmay.2⟩
    have HM := Lib.hid hmay
    clear hmay st
    go_enter Try.func47, Try.ntmps47
    go_upto_region 4 with (first | (go_at_call 69; refine (none_any ps.tab).mono ?_; rintro r w1 ⟨rfl, hb⟩; replace ps := ps.step hb; clear hb; obtain ⟨x0, x2, x8⟩ := ent_cells ps.x; have p0 := aggAt_row ps.p; rw [posA_size] at p0) | (go_at_call 70; refine (tabAt_any c ps.tab OC.out).mono ?_; rintro r w1 ⟨rfl, hb⟩; replace ps := ps.step hb; clear hb))
    have W5 : ∀ e' c', f (idxOf sz c) = some (e', c') → slotV (f (idxOf sz c)) = slotA e' c' ∧ (f (idxOf sz c)).isSome = true := fun e' c' h => by rw [h]; exact ⟨rfl, rfl⟩
    have W6 : f (idxOf sz c) = none → slotV (f (idxOf sz c)) = slotA ent0 pos0 ∧ (f (idxOf sz c)).isSome = false := fun h => by rw [h]; exact ⟨rfl, rfl⟩
    have H : f (idxOf sz c) = none ∨ (∃ e' c', f (idxOf sz c) = some (e', c') ∧ ¬e.d < e'.d) ∨ (∃ e' c', f (idxOf sz c) = some (e', c') ∧ e.d < e'.d ∧ sameB c' c = true) ∨ (∃ e' c', f (idxOf sz c) = some (e', c') ∧ e.d < e'.d ∧ sameB c' c = false) := by
      rcases hf : f (idxOf sz c) with _ | ⟨e', c'⟩
      · exact Or.inl rfl
      · by_cases hd : e.d < e'.d
        · rcases Bool.eq_false_or_eq_true (sameB c' c) with hs | hs
          · exact Or.inr (Or.inr (Or.inl ⟨e', c', rfl, hd, hs⟩))
          · exact Or.inr (Or.inr (Or.inr ⟨e', c', rfl, hd, hs⟩))
        · exact Or.inr (Or.inl ⟨e', c', rfl, hd⟩)
    rcases H with hf | ⟨e', c', hf, hd⟩ | ⟨e', c', hf, hd, hs⟩ | ⟨e', c', hf, hd, hs⟩
    · have HB := Lib.hid (show putB f sz c e = true by unfold putB; rw [HM.out, hf]; rfl)
      obtain ⟨hS, hI⟩ := W6 hf
      clear hf W5 W6
      obtain ⟨c0, c1⟩ := ps.tab.cells
      have l1 := ps.tab.lt.1
      go_upto_region 5 with (at_lookup; refine wpList_lookup_tab _ rfl _ _ rfl ps.tab rfl (idxOf sz c) (idxOf_lt ps.tab.pos c) rfl ?_)
      have hsb := heap_alloc_new w1 (.cells (slotA ent0 pos0) 101)
      replace ps := ps.step ((Below.refl _ _).alloc (Nat.le_refl _) (.cells (slotA ent0 pos0) 101))
      have hN : w1.heap.size < (w1.alloc (.cells (slotA ent0 pos0) 101)).heap.size := by simp
      clear c0 c1 l1 x0 x2 x8 p0
      generalize w1.alloc (.cells (slotA ent0 pos0) 101) = w2 at ps hsb hN ⊢
      obtain ⟨s0, s8, s9⟩ := slot_cells hsb
      obtain ⟨x0, x2, x8⟩ := ent_cells ps.x
      have p0 := aggAt_row ps.p
      rw [posA_size] at p0
      go_upto_region 7 with (fail)
      clear s0 s8 s9 x0 x2 x8 p0 hsb hN hS hI
      have ps3 := ps
      obtain ⟨c0, c1⟩ := ps.tab.cells
      have l1 := ps.tab.lt.1
      obtain ⟨x0, x2, x8⟩ := ent_cells ps.x
      have p0 := aggAt_row ps.p
      rw [posA_size] at p0
      clear x0 x2
      refine wp_region_still_tail 8 (by kernel_rfl) (by kernel_rfl) ?_
      simp only [List.take_succ_cons, List.take_zero, List.drop_succ_cons, List.drop_zero]
      iterate 7 still_step
      refine wpStill_build rfl 101 _ rfl (slotA e c) (by simpa [Act.eval] using built101 e c) ?_
      refine wpStill_nil ?_
      change wpList _ _ _ _ _ (World.drew w2)
      have tb5 := ps3.tab.drew
      have be5 := ps3.below.drew
      clear ps ps3 c0 c1 l1 x8 p0
      generalize World.drew w2 = w5 at tb5 be5 ⊢
      refine wpList_store_tab _ rfl _ _ _ rfl tb5 rfl (idxOf sz c) (idxOf_lt tb5.pos c) rfl e c rfl OE.out OC.out ?_
      intro w6 tb6 hg6
      rw [← putT_yes HB.out] at tb6
      have hgw := ((grown_of be5).but (some bm)).trans hg6
      go_wp2_with (with_reducible refine at_end ?_)
      unfold AtEnd
      go_returns
      exact ⟨ret_bool HB.out.symm, tb6, hgw, Or.inl HB.out⟩
    · have HB := Lib.hid (show putB f sz c e = true by unfold putB; rw [HM.out, hf]; simp [hd])
      obtain ⟨hS, hI⟩ := W5 _ _ hf
      clear hf W5 W6
      obtain ⟨c0, c1⟩ := ps.tab.cells
      have l1 := ps.tab.lt.1
      go_upto_region 5 with (at_lookup; refine wpList_lookup_tab _ rfl _ _ rfl ps.tab rfl (idxOf sz c) (idxOf_lt ps.tab.pos c) rfl ?_)
      have hsb := heap_alloc_new w1 (.cells (slotA e' c') 101)
      replace ps := ps.step ((Below.refl _ _).alloc (Nat.le_refl _) (.cells (slotA e' c') 101))
      have hN : w1.heap.size < (w1.alloc (.cells (slotA e' c') 101)).heap.size := by simp
      clear c0 c1 l1 x0 x2 x8 p0
      generalize w1.alloc (.cells (slotA e' c') 101) = w2 at ps hsb hN ⊢
      obtain ⟨s0, s8, s9⟩ := slot_cells hsb
      obtain ⟨x0, x2, x8⟩ := ent_cells ps.x
      have p0 := aggAt_row ps.p
      rw [posA_size] at p0
      go_upto_region 7 with (fail)
      clear s0 s8 s9 x0 x2 x8 p0 hsb hN hS hI hd
      have ps3 := ps
      obtain ⟨c0, c1⟩ := ps.tab.cells
      have l1 := ps.tab.lt.1
      obtain ⟨x0, x2, x8⟩ := ent_cells ps.x
      have p0 := aggAt_row ps.p
      rw [posA_size] at p0
      clear x0 x2
      refine wp_region_still_tail 8 (by kernel_rfl) (by kernel_rfl) ?_
      simp only [List.take_succ_cons, List.take_zero, List.drop_succ_cons, List.drop_zero]
      iterate 7 still_step
      refine wpStill_build rfl 101 _ rfl (slotA e c) (by simpa [Act.eval] using built101 e c) ?_
      refine wpStill_nil ?_
      change wpList _ _ _ _ _ (World.drew w2)
      have tb5 := ps3.tab.drew
      have be5 := ps3.below.drew
      clear ps ps3 c0 c1 l1 x8 p0
      generalize World.drew w2 = w5 at tb5 be5 ⊢
      refine wpList_store_tab _ rfl _ _ _ rfl tb5 rfl (idxOf sz c) (idxOf_lt tb5.pos c) rfl e c rfl OE.out OC.out ?_
      intro w6 tb6 hg6
      rw [← putT_yes HB.out] at tb6
      have hgw := ((grown_of be5).but (some bm)).trans hg6
      go_wp2_with (with_reducible refine at_end ?_)
      unfold AtEnd
      go_returns
      exact ⟨ret_bool HB.out.symm, tb6, hgw, Or.inl HB.out⟩
    · have HB := Lib.hid (show putB f sz c e = true by unfold putB; rw [HM.out, hf]; simp [hs])
      have OC' := Lib.hid (ps.tab.ok _ _ _ hf).2
      obtain ⟨hS, hI⟩ := W5 _ _ hf
      clear hf W5 W6
      obtain ⟨c0, c1⟩ := ps.tab.cells
      have l1 := ps.tab.lt.1
      go_upto_region 5 with (at_lookup; refine wpList_lookup_tab _ rfl _ _ rfl ps.tab rfl (idxOf sz c) (idxOf_lt ps.tab.pos c) rfl ?_)
      have hsb := heap_alloc_new w1 (.cells (slotA e' c') 101)
      replace ps := ps.step ((Below.refl _ _).alloc (Nat.le_refl _) (.cells (slotA e' c') 101))
      have hN : w1.heap.size < (w1.alloc (.cells (slotA e' c') 101)).heap.size := by simp
      clear c0 c1 l1 x0 x2 x8 p0
      generalize w1.alloc (.cells (slotA e' c') 101) = w2 at ps hsb hN ⊢
      obtain ⟨s0, s8, s9⟩ := slot_cells hsb
      obtain ⟨x0, x2, x8⟩ := ent_cells ps.x
      have p0 := aggAt_row ps.p
      rw [posA_size] at p0
      go_upto_region 7 with (go_at_call 59; refine (same_any c' c _ (OC'.out) OC.out).mono ?_; rintro r w3 ⟨rfl, hb⟩; replace ps := ps.step hb; clear hb)
      clear s0 s8 s9 x0 x2 x8 p0 hsb hN hS hI hd hs
      have ps3 := ps
      obtain ⟨c0, c1⟩ := ps.tab.cells
      have l1 := ps.tab.lt.1
      obtain ⟨x0, x2, x8⟩ := ent_cells ps.x
      have p0 := aggAt_row ps.p
      rw [posA_size] at p0
      clear x0 x2
      refine wp_region_still_tail 8 (by kernel_rfl) (by kernel_rfl) ?_
      simp only [List.take_succ_cons, List.take_zero, List.drop_succ_cons, List.drop_zero]
      iterate 7 still_step
      refine wpStill_build rfl 101 _ rfl (slotA e c) (by simpa [Act.eval] using built101 e c) ?_
      refine wpStill_nil ?_
      change wpList _ _ _ _ _ (World.drew w3)
      have tb5 := ps3.tab.drew
      have be5 := ps3.below.drew
      clear ps ps3 c0 c1 l1 x8 p0
      generalize World.drew w3 = w5 at tb5 be5 ⊢
      refine wpList_store_tab _ rfl _ _ _ rfl tb5 rfl (idxOf sz c) (idxOf_lt tb5.pos c) rfl e c rfl OE.out OC.out ?_
      intro w6 tb6 hg6
      rw [← putT_yes HB.out] at tb6
      have hgw := ((grown_of be5).but (some bm)).trans hg6
      go_wp2_with (with_reducible refine at_end ?_)
      unfold AtEnd
      go_returns
      exact ⟨ret_bool HB.out.symm, tb6, hgw, Or.inl HB.out⟩
    · have HB := Lib.hid (show putB f sz c e = false by unfold putB; rw [HM.out, hf]; simp [hs, hd])
      have OC' := Lib.hid (ps.tab.ok _ _ _ hf).2
      obtain ⟨hS, hI⟩ := W5 _ _ hf
      clear hf W5 W6
      obtain ⟨c0, c1⟩ := ps.tab.cells
      have l1 := ps.tab.lt.1
      go_upto_region 5 with (at_lookup; refine wpList_lookup_tab _ rfl _ _ rfl ps.tab rfl (idxOf sz c) (idxOf_lt ps.tab.pos c) rfl ?_)
      have hsb := heap_alloc_new w1 (.cells (slotA e' c') 101)
      replace ps := ps.step ((Below.refl _ _).alloc (Nat.le_refl _) (.cells (slotA e' c') 101))
      have hN : w1.heap.size < (w1.alloc (.cells (slotA e' c') 101)).heap.size := by simp
      clear c0 c1 l1 x0 x2 x8 p0
      generalize w1.alloc (.cells (slotA e' c') 101) = w2 at ps hsb hN ⊢
      obtain ⟨s0, s8, s9⟩ := slot_cells hsb
      obtain ⟨x0, x2, x8⟩ := ent_cells ps.x
      have p0 := aggAt_row ps.p
      rw [posA_size] at p0
      go_wp2_with (first | (with_reducible refine at_end ?_) | (go_at_call 59; refine (same_any c' c _ (OC'.out) OC.out).mono ?_; rintro r w3 ⟨rfl, hb⟩; replace ps := ps.step hb; clear hb))
      unfold AtEnd
      go_returns
      exact ⟨ret_bool HB.out.symm, by rw [putT_no HB.out]; exact ps.tab, (grown_of ps.below).but _, Or.inr ps.below⟩
  · have HB := Lib.hid (putB_no (f := f) (sz := sz) (c := c) hmay)
    have H : e.k < 1 ∨ (¬e.k < 1 ∧ 3 < e.k) ∨ (¬e.k < 1 ∧ ¬3 < e.k ∧ e.d < 0) := by
      by_cases h1 : e.k < 1
      · exact Or.inl h1
      · by_cases h2 : 3 < e.k
        · exact Or.inr (Or.inl ⟨h1, h2⟩)
        · refine Or.inr (Or.inr ⟨h1, h2, ?_⟩)
          simp [mayB] at hmay
          omega
    clear hmay st
    rcases H with h1 | ⟨h1, h2⟩ | ⟨h1, h2, h3⟩
    all_goals
      go_enter Try.func47, Try.ntmps47
      go_wp2_with (first | (with_reducible refine at_end ?_) | (go_at_call 69; refine (none_any ps.tab).mono ?_; rintro r w1 ⟨rfl, hb⟩; replace ps := ps.step hb; clear hb; obtain ⟨x0, x2, x8⟩ := ent_cells ps.x))
      unfold AtEnd
      go_returns
      exact ⟨ret_bool HB.out.symm, by rw [putT_no HB.out]; exact ps.tab, (grown_of ps.below).but _, Or.inr ps.below⟩
end Go.Proofs.Ytldacinldgjdcaa
