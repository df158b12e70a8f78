/- The walk of the reference table's Put. Printed by gen_tabI.py. -/
import Derived.Test.YtldacinldgjdcaaTabH
namespace Go.Proofs.Ytldacinldgjdcaa
open Go.RowKit Go.Maps
attribute [local go_sem] entA_ne slotA_ne rslotA_ne
attribute [local go_sem ↓] lv37 zero37 sv37 lv61 zero61 sv61 lv105 zero105 sv105 run_b105
attribute [local go_sem] run_lv37 run_zero37 run_sv37 run_lv61 run_sv61 run_zeroEnt rowFree_new rowFree_alloc setRow_new setRow_alloc aggAt_newb aggAt_old aggAt_drew aggAt_drewN posA_size oneCells_pos entA_size oneCells_ent After.cell After.frozen After.agg add_block run_b0 run_b105
attribute [local go_sem] run_lv105 run_sv105 run_zeroSl rslotA_size oneCells_rslot rV_size oneCells_rV

/-- A block as it is, and the table; what came ahead is as it was. -/
structure RPutSt (w0 : World) (rb rr sz : Nat) (f : Tab) (c : Nat → Int) (e : Ent) (w : World) : Prop where
  tab : RefSt w rb rr sz f
  below : Below w0.heap.size w0 w
  p : w.heap[w0.heap.size]? = some (.cells (posA c) 37 (0, 0))
  x : w.heap[w0.heap.size + 1]? = some (.cells (entA e) 61 (0, 0))
theorem RPutSt.step {w0 : World} {rb rr sz : Nat} {f : Tab} {c : Nat → Int} {e : Ent} {w w' : World} (h : RPutSt w0 rb rr sz f c e w) (hb : Below w.heap.size w w') : RPutSt w0 rb rr sz f c e w' :=
  ⟨h.tab.below hb, below_join h.below hb, (hb.block _ (Array.getElem?_eq_some_iff.1 h.p).1).trans h.p, (hb.block _ (Array.getElem?_eq_some_iff.1 h.x).1).trans h.x⟩
theorem RPutSt.start {w0 : World} {rb rr sz : Nat} {f : Tab} {c : Nat → Int} {e : Ent} (h : RefSt w0 rb rr sz f) : RPutSt w0 rb rr sz f c e ((w0.alloc (.cells (posA c) 37)).alloc (.cells (entA e) 61)) := by
  have hb : Below w0.heap.size w0 ((w0.alloc (.cells (posA c) 37)).alloc (.cells (entA e) 61)) := by go_grown
  refine ⟨h.below hb, hb, (Below.heap_alloc _ _ _ (by simp)).trans (heap_alloc_new w0 _), ?_⟩
  have := heap_alloc_new (w0.alloc (.cells (posA c) 37)) (.cells (entA e) 61)
  simpa using this
set_option maxRecDepth 100000 in
set_option maxHeartbeats 2000000 in
theorem refput_any {w : World} {rb rr sz : Nat} {f : Tab} (c : Nat → Int) (e : Ent) (st : RefSt w rb rr sz f) (hc : PosOk c) (he : EntOk e) :
    Calls Try.prog 48 #[.pointer (some ⟨rb, 0, none⟩), .agg (posA c), .agg (entA e)] w fun r w' => r = .returned (.bool (putB f sz c e)) ∧ RefSt w' rb rr sz (putT f sz c e) ∧ w.grownBy w' (some rr) := by
  have ps := RPutSt.start (c := c) (e := e) st
  have OC := Lib.hid hc
  have OE := Lib.hid he
  have hix := Lib.hid (idxOf_lt st.pos c)
  have hsz := st.max
  have H : (putB f sz c e = true ∧ ¬e.k < 1 ∧ ¬3 < e.k ∧ ¬e.d < 0 ∧ rV (f (idxOf sz c)) = rslotA false ent0 pos0) ∨
      (∃ e' c', f (idxOf sz c) = some (e', c') ∧ putB f sz c e = true ∧ ¬e.k < 1 ∧ ¬3 < e.k ∧ ¬e.d < 0 ∧ rV (f (idxOf sz c)) = rslotA true e' c' ∧ ¬e.d < e'.d) ∨
      (∃ e' c', f (idxOf sz c) = some (e', c') ∧ putB f sz c e = true ∧ ¬e.k < 1 ∧ ¬3 < e.k ∧ ¬e.d < 0 ∧ rV (f (idxOf sz c)) = rslotA true e' c' ∧ e.d < e'.d ∧ sameB c' c = true) ∨
      (∃ e' c', f (idxOf sz c) = some (e', c') ∧ putB f sz c e = false ∧ ¬e.k < 1 ∧ ¬3 < e.k ∧ ¬e.d < 0 ∧ rV (f (idxOf sz c)) = rslotA true e' c' ∧ e.d < e'.d ∧ sameB c' c = false) ∨
      (putB f sz c e = false ∧ e.k < 1) ∨ (putB f sz c e = false ∧ ¬e.k < 1 ∧ 3 < e.k) ∨ (putB f sz c e = false ∧ ¬e.k < 1 ∧ ¬3 < e.k ∧ e.d < 0) := by
    by_cases h1 : e.k < 1
    · exact Or.inr (Or.inr (Or.inr (Or.inr (Or.inl ⟨putB_no (by simp [mayB, h1]), h1⟩))))
    by_cases h2 : 3 < e.k
    · exact Or.inr (Or.inr (Or.inr (Or.inr (Or.inr (Or.inl ⟨putB_no (by simp [mayB, h2]), h1, h2⟩)))))
    by_cases h3 : e.d < 0
    · exact Or.inr (Or.inr (Or.inr (Or.inr (Or.inr (Or.inr ⟨putB_no (by simp [mayB, h3]), h1, h2, h3⟩)))))
    have hm : mayB e = true := by simp [mayB, h1, h2, h3]
    unfold putB
    rw [hm]
    rcases hf : f (idxOf sz c) with _ | ⟨e', c'⟩
    · exact Or.inl ⟨rfl, h1, h2, h3, rfl⟩
    · by_cases hd : e.d < e'.d
      · rcases Bool.eq_false_or_eq_true (sameB c' c) with hs | hs
        · exact Or.inr (Or.inr (Or.inl ⟨e', c', rfl, by simp [hs], h1, h2, h3, rfl, hd, hs⟩))
        · exact Or.inr (Or.inr (Or.inr (Or.inl ⟨e', c', rfl, by simp [hs, hd], h1, h2, h3, rfl, hd, hs⟩)))
      · exact Or.inr (Or.inl ⟨e', c', rfl, by simp [hd], h1, h2, h3, rfl, hd⟩)
  have HO := Lib.hid st.ok
  clear hc he st
  rcases H with ⟨HB, h1, h2, h3, hS⟩ | ⟨e', c', hf, HB, h1, h2, h3, hS, hd⟩ | ⟨e', c', hf, HB, h1, h2, h3, hS, hd, hs⟩ | ⟨e', c', hf, HB, h1, h2, h3, hS, hd, hs⟩ | ⟨HB, h1⟩ | ⟨HB, h1, h2⟩ | ⟨HB, h1, h2, h3⟩
  · replace HB := Lib.hid HB
    go_enter Try.func48, Try.ntmps48
    go_upto_region 1 with (fail)
    generalize (w.alloc (.cells (posA c) 37)).alloc (.cells (entA e) 61) = w0 at ps ⊢
    have p0 := aggAt_row ps.p
    rw [posA_size] at p0
    go_upto_region 2 with (go_at_call 71; refine (refat_any c ps.tab OC.out).mono ?_; rintro r w1 ⟨rfl, hb⟩; replace ps := ps.step hb; clear hb p0)
    have c0 := ps.tab.cell
    have l1 := ps.tab.lt.1
    have l2 := ps.tab.lt.2
    have hL := ps.tab.elem (idxOf sz c) hix.out
    have hi := hix.out
    have hi' : (idxOf sz c : Int) < (sz : Int) := by omega
    rw [hS] at hL
    clear hS
    go_upto_region 3 with (fail)
    have hsb := heap_alloc_new w1 (.cells (rslotA false ent0 pos0) 105)
    replace ps := ps.step ((Below.refl _ _).alloc (Nat.le_refl _) (.cells (rslotA false ent0 pos0) 105))
    have hN : w1.heap.size < (w1.alloc (.cells (rslotA false ent0 pos0) 105)).heap.size := by simp
    clear c0 l1 l2 hL hi hi'
    generalize w1.alloc (.cells (rslotA false ent0 pos0) 105) = w2 at ps hsb hN ⊢
    obtain ⟨s0, s1, s8, s9⟩ := rslot_cells hsb
    obtain ⟨x0, x2, x8⟩ := ent_cells ps.x
    have p0 := aggAt_row ps.p
    rw [posA_size] at p0
    go_upto_region 5 with (fail)
    clear s0 s1 s8 s9 x0 x2 x8 p0 hsb hN
    have ps3 := ps
    have c0 := ps.tab.cell
    have l1 := ps.tab.lt.1
    have hi := hix.out
    have hi' : (idxOf sz c : Int) < (sz : Int) := by omega
    obtain ⟨x0, x2, x8⟩ := ent_cells ps.x
    have p0 := aggAt_row ps.p
    rw [posA_size] at p0
    clear x0 x2
    refine wp_region_still_tail 9 (by kernel_rfl) (by kernel_rfl) ?_
    simp only [List.take_succ_cons, List.take_zero, List.drop_succ_cons, List.drop_zero]
    iterate 7 still_step
    refine wpStill_build rfl 105 _ rfl (rslotA true e c) (by simpa [Act.eval] using built105 e c) ?_
    still_step
    refine wpStill_nil ?_
    change wpList _ _ _ _ _ (World.drew w2)
    have tb5 := ps3.tab.drew
    have be5 := ps3.below.drew
    clear ps ps3 c0 l1 x8 p0
    generalize World.drew w2 = w5 at tb5 be5 ⊢
    refine wpList_store_ref _ rfl _ _ rfl tb5 (idxOf sz c) hix.out rfl e c rfl OE.out OC.out ?_
    intro w6 tb6 hg6
    rw [← putT_yes HB.out] at tb6
    have hgw := ((grown_of be5).but (some rr)).trans hg6
    go_wp2_with (with_reducible refine at_end ?_)
    unfold AtEnd
    go_returns
    exact ⟨ret_bool HB.out.symm, tb6, hgw⟩
  · clear hf
    replace HB := Lib.hid HB
    go_enter Try.func48, Try.ntmps48
    go_upto_region 1 with (fail)
    generalize (w.alloc (.cells (posA c) 37)).alloc (.cells (entA e) 61) = w0 at ps ⊢
    have p0 := aggAt_row ps.p
    rw [posA_size] at p0
    go_upto_region 2 with (go_at_call 71; refine (refat_any c ps.tab OC.out).mono ?_; rintro r w1 ⟨rfl, hb⟩; replace ps := ps.step hb; clear hb p0)
    have c0 := ps.tab.cell
    have l1 := ps.tab.lt.1
    have l2 := ps.tab.lt.2
    have hL := ps.tab.elem (idxOf sz c) hix.out
    have hi := hix.out
    have hi' : (idxOf sz c : Int) < (sz : Int) := by omega
    rw [hS] at hL
    clear hS
    go_upto_region 3 with (fail)
    have hsb := heap_alloc_new w1 (.cells (rslotA true e' c') 105)
    replace ps := ps.step ((Below.refl _ _).alloc (Nat.le_refl _) (.cells (rslotA true e' c') 105))
    have hN : w1.heap.size < (w1.alloc (.cells (rslotA true e' c') 105)).heap.size := by simp
    clear c0 l1 l2 hL hi hi'
    generalize w1.alloc (.cells (rslotA true e' c') 105) = w2 at ps hsb hN ⊢
    obtain ⟨s0, s1, s8, s9⟩ := rslot_cells hsb
    obtain ⟨x0, x2, x8⟩ := ent_cells ps.x
    have p0 := aggAt_row ps.p
    rw [posA_size] at p0
    go_upto_region 5 with (fail)
    clear s0 s1 s8 s9 x0 x2 x8 p0 hsb hN hd
    have ps3 := ps
    have c0 := ps.tab.cell
    have l1 := ps.tab.lt.1
    have hi := hix.out
    have hi' : (idxOf sz c : Int) < (sz : Int) := by omega
    obtain ⟨x0, x2, x8⟩ := ent_cells ps.x
    have p0 := aggAt_row ps.p
    rw [posA_size] at p0
    clear x0 x2
    refine wp_region_still_tail 9 (by kernel_rfl) (by kernel_rfl) ?_
    simp only [List.take_succ_cons, List.take_zero, List.drop_succ_cons, List.drop_zero]
    iterate 7 still_step
    refine wpStill_build rfl 105 _ rfl (rslotA true e c) (by simpa [Act.eval] using built105 e c) ?_
    still_step
    refine wpStill_nil ?_
    change wpList _ _ _ _ _ (World.drew w2)
    have tb5 := ps3.tab.drew
    have be5 := ps3.below.drew
    clear ps ps3 c0 l1 x8 p0
    generalize World.drew w2 = w5 at tb5 be5 ⊢
    refine wpList_store_ref _ rfl _ _ rfl tb5 (idxOf sz c) hix.out rfl e c rfl OE.out OC.out ?_
    intro w6 tb6 hg6
    rw [← putT_yes HB.out] at tb6
    have hgw := ((grown_of be5).but (some rr)).trans hg6
    go_wp2_with (with_reducible refine at_end ?_)
    unfold AtEnd
    go_returns
    exact ⟨ret_bool HB.out.symm, tb6, hgw⟩
  · have OC' := Lib.hid (HO.out _ _ _ hf).2
    clear hf
    replace HB := Lib.hid HB
    go_enter Try.func48, Try.ntmps48
    go_upto_region 1 with (fail)
    generalize (w.alloc (.cells (posA c) 37)).alloc (.cells (entA e) 61) = w0 at ps ⊢
    have p0 := aggAt_row ps.p
    rw [posA_size] at p0
    go_upto_region 2 with (go_at_call 71; refine (refat_any c ps.tab OC.out).mono ?_; rintro r w1 ⟨rfl, hb⟩; replace ps := ps.step hb; clear hb p0)
    have c0 := ps.tab.cell
    have l1 := ps.tab.lt.1
    have l2 := ps.tab.lt.2
    have hL := ps.tab.elem (idxOf sz c) hix.out
    have hi := hix.out
    have hi' : (idxOf sz c : Int) < (sz : Int) := by omega
    rw [hS] at hL
    clear hS
    go_upto_region 3 with (fail)
    have hsb := heap_alloc_new w1 (.cells (rslotA true e' c') 105)
    replace ps := ps.step ((Below.refl _ _).alloc (Nat.le_refl _) (.cells (rslotA true e' c') 105))
    have hN : w1.heap.size < (w1.alloc (.cells (rslotA true e' c') 105)).heap.size := by simp
    clear c0 l1 l2 hL hi hi'
    generalize w1.alloc (.cells (rslotA true e' c') 105) = w2 at ps hsb hN ⊢
    obtain ⟨s0, s1, s8, s9⟩ := rslot_cells hsb
    obtain ⟨x0, x2, x8⟩ := ent_cells ps.x
    have p0 := aggAt_row ps.p
    rw [posA_size] at p0
    go_upto_region 5 with (go_at_call 60; refine (refsame_any c' c _ (OC'.out) OC.out).mono ?_; rintro r w3 ⟨rfl, hb⟩; replace ps := ps.step hb; clear hb)
    clear s0 s1 s8 s9 x0 x2 x8 p0 hsb hN hd hs
    have ps3 := ps
    have c0 := ps.tab.cell
    have l1 := ps.tab.lt.1
    have hi := hix.out
    have hi' : (idxOf sz c : Int) < (sz : Int) := by omega
    obtain ⟨x0, x2, x8⟩ := ent_cells ps.x
    have p0 := aggAt_row ps.p
    rw [posA_size] at p0
    clear x0 x2
    refine wp_region_still_tail 9 (by kernel_rfl) (by kernel_rfl) ?_
    simp only [List.take_succ_cons, List.take_zero, List.drop_succ_cons, List.drop_zero]
    iterate 7 still_step
    refine wpStill_build rfl 105 _ rfl (rslotA true e c) (by simpa [Act.eval] using built105 e c) ?_
    still_step
    refine wpStill_nil ?_
    change wpList _ _ _ _ _ (World.drew w3)
    have tb5 := ps3.tab.drew
    have be5 := ps3.below.drew
    clear ps ps3 c0 l1 x8 p0
    generalize World.drew w3 = w5 at tb5 be5 ⊢
    refine wpList_store_ref _ rfl _ _ rfl tb5 (idxOf sz c) hix.out rfl e c rfl OE.out OC.out ?_
    intro w6 tb6 hg6
    rw [← putT_yes HB.out] at tb6
    have hgw := ((grown_of be5).but (some rr)).trans hg6
    go_wp2_with (with_reducible refine at_end ?_)
    unfold AtEnd
    go_returns
    exact ⟨ret_bool HB.out.symm, tb6, hgw⟩
  · have OC' := Lib.hid (HO.out _ _ _ hf).2
    clear hf
    replace HB := Lib.hid HB
    go_enter Try.func48, Try.ntmps48
    go_upto_region 1 with (fail)
    generalize (w.alloc (.cells (posA c) 37)).alloc (.cells (entA e) 61) = w0 at ps ⊢
    have p0 := aggAt_row ps.p
    rw [posA_size] at p0
    go_upto_region 2 with (go_at_call 71; refine (refat_any c ps.tab OC.out).mono ?_; rintro r w1 ⟨rfl, hb⟩; replace ps := ps.step hb; clear hb p0)
    have c0 := ps.tab.cell
    have l1 := ps.tab.lt.1
    have l2 := ps.tab.lt.2
    have hL := ps.tab.elem (idxOf sz c) hix.out
    have hi := hix.out
    have hi' : (idxOf sz c : Int) < (sz : Int) := by omega
    rw [hS] at hL
    clear hS
    go_upto_region 3 with (fail)
    have hsb := heap_alloc_new w1 (.cells (rslotA true e' c') 105)
    replace ps := ps.step ((Below.refl _ _).alloc (Nat.le_refl _) (.cells (rslotA true e' c') 105))
    have hN : w1.heap.size < (w1.alloc (.cells (rslotA true e' c') 105)).heap.size := by simp
    clear c0 l1 l2 hL hi hi'
    generalize w1.alloc (.cells (rslotA true e' c') 105) = w2 at ps hsb hN ⊢
    obtain ⟨s0, s1, s8, s9⟩ := rslot_cells hsb
    obtain ⟨x0, x2, x8⟩ := ent_cells ps.x
    have p0 := aggAt_row ps.p
    rw [posA_size] at p0
    go_wp2_with (first | (with_reducible refine at_end ?_) | (go_at_call 60; refine (refsame_any c' c _ (OC'.out) OC.out).mono ?_; rintro r w3 ⟨rfl, hb⟩; replace ps := ps.step hb; clear hb))
    unfold AtEnd
    go_returns
    exact ⟨ret_bool HB.out.symm, by rw [putT_no HB.out]; exact ps.tab, (grown_of ps.below).but _⟩
  · replace HB := Lib.hid HB
    go_enter Try.func48, Try.ntmps48
    go_upto_region 1 with (fail)
    generalize (w.alloc (.cells (posA c) 37)).alloc (.cells (entA e) 61) = w0 at ps ⊢
    have p0 := aggAt_row ps.p
    rw [posA_size] at p0
    go_upto_region 2 with (go_at_call 71; refine (refat_any c ps.tab OC.out).mono ?_; rintro r w1 ⟨rfl, hb⟩; replace ps := ps.step hb; clear hb p0)
    have c0 := ps.tab.cell
    have l1 := ps.tab.lt.1
    have l2 := ps.tab.lt.2
    have hL := ps.tab.elem (idxOf sz c) hix.out
    have hi := hix.out
    have hi' : (idxOf sz c : Int) < (sz : Int) := by omega
    go_upto_region 3 with (fail)
    have hsb := heap_alloc_new w1 (.cells (rV (f (idxOf sz c))) 105)
    replace ps := ps.step ((Below.refl _ _).alloc (Nat.le_refl _) (.cells (rV (f (idxOf sz c))) 105))
    have hN : w1.heap.size < (w1.alloc (.cells (rV (f (idxOf sz c))) 105)).heap.size := by simp
    clear c0 l1 l2 hL hi hi'
    generalize w1.alloc (.cells (rV (f (idxOf sz c))) 105) = w2 at ps hsb hN ⊢
    obtain ⟨x0, x2, x8⟩ := ent_cells ps.x
    have p0 := aggAt_row ps.p
    rw [posA_size] at p0
    go_wp2_with (first | (with_reducible refine at_end ?_))
    unfold AtEnd
    go_returns
    exact ⟨ret_bool HB.out.symm, by rw [putT_no HB.out]; exact ps.tab, (grown_of ps.below).but _⟩
  · replace HB := Lib.hid HB
    go_enter Try.func48, Try.ntmps48
    go_upto_region 1 with (fail)
    generalize (w.alloc (.cells (posA c) 37)).alloc (.cells (entA e) 61) = w0 at ps ⊢
    have p0 := aggAt_row ps.p
    rw [posA_size] at p0
    go_upto_region 2 with (go_at_call 71; refine (refat_any c ps.tab OC.out).mono ?_; rintro r w1 ⟨rfl, hb⟩; replace ps := ps.step hb; clear hb p0)
    have c0 := ps.tab.cell
    have l1 := ps.tab.lt.1
    have l2 := ps.tab.lt.2
    have hL := ps.tab.elem (idxOf sz c) hix.out
    have hi := hix.out
    have hi' : (idxOf sz c : Int) < (sz : Int) := by omega
    go_upto_region 3 with (fail)
    have hsb := heap_alloc_new w1 (.cells (rV (f (idxOf sz c))) 105)
    replace ps := ps.step ((Below.refl _ _).alloc (Nat.le_refl _) (.cells (rV (f (idxOf sz c))) 105))
    have hN : w1.heap.size < (w1.alloc (.cells (rV (f (idxOf sz c))) 105)).heap.size := by simp
    clear c0 l1 l2 hL hi hi'
    generalize w1.alloc (.cells (rV (f (idxOf sz c))) 105) = w2 at ps hsb hN ⊢
    obtain ⟨x0, x2, x8⟩ := ent_cells ps.x
    have p0 := aggAt_row ps.p
    rw [posA_size] at p0
    go_wp2_with (first | (with_reducible refine at_end ?_))
    unfold AtEnd
    go_returns
    exact ⟨ret_bool HB.out.symm, by rw [putT_no HB.out]; exact ps.tab, (grown_of ps.below).but _⟩
  · replace HB := Lib.hid HB
    go_enter Try.func48, Try.ntmps48
    go_upto_region 1 with (fail)
    generalize (w.alloc (.cells (posA c) 37)).alloc (.cells (entA e) 61) = w0 at ps ⊢
    have p0 := aggAt_row ps.p
    rw [posA_size] at p0
    go_upto_region 2 with (go_at_call 71; refine (refat_any c ps.tab OC.out).mono ?_; rintro r w1 ⟨rfl, hb⟩; replace ps := ps.step hb; clear hb p0)
    have c0 := ps.tab.cell
    have l1 := ps.tab.lt.1
    have l2 := ps.tab.lt.2
    have hL := ps.tab.elem (idxOf sz c) hix.out
    have hi := hix.out
    have hi' : (idxOf sz c : Int) < (sz : Int) := by omega
    go_upto_region 3 with (fail)
    have hsb := heap_alloc_new w1 (.cells (rV (f (idxOf sz c))) 105)
    replace ps := ps.step ((Below.refl _ _).alloc (Nat.le_refl _) (.cells (rV (f (idxOf sz c))) 105))
    have hN : w1.heap.size < (w1.alloc (.cells (rV (f (idxOf sz c))) 105)).heap.size := by simp
    clear c0 l1 l2 hL hi hi'
    generalize w1.alloc (.cells (rV (f (idxOf sz c))) 105) = w2 at ps hsb hN ⊢
    obtain ⟨x0, x2, x8⟩ := ent_cells ps.x
    have p0 := aggAt_row ps.p
    rw [posA_size] at p0
    go_wp2_with (first | (with_reducible refine at_end ?_))
    unfold AtEnd
    go_returns
    exact ⟨ret_bool HB.out.symm, by rw [putT_no HB.out]; exact ps.tab, (grown_of ps.below).but _⟩
end Go.Proofs.Ytldacinldgjdcaa
