/- The walks of the reference table's Held and Get. -/
import Derived.Test.YtldacinldgjdcaaTabR
import Derived.Test.YtldacinldgjdcaaTabG
namespace Go.Proofs.Ytldacinldgjdcaa
open Go.RowKit Go.Maps
attribute [local go_sem] entA_ne slotA_ne
attribute [local go_sem ↓] lv37 zero37 sv37 lv61 zero61 sv61
attribute [local go_sem] run_lv37 run_zero37 run_sv37 run_lv61 run_sv61 run_zeroEnt rowFree_new rowFree_alloc setRow_new setRow_alloc aggAt_newb aggAt_old aggAt_drew aggAt_drewN posA_size oneCells_pos entA_size oneCells_ent After.cell After.frozen After.agg add_block run_b0

theorem refheld_any {w : World} {rb rr sz : Nat} {f : Tab} (st : RefSt w rb rr sz f) :
    Calls Try.prog 53 #[.pointer (some ⟨rb, 0, none⟩)] w fun e w' => e = .returned (.int .i64 (heldN f sz : Nat)) ∧ Below w.heap.size w w' := by
  have c0 := st.cell
  have l := st.lt.1
  have hmax := st.max
  go_enter Try.func53, Try.ntmps53
  go_wp2_with (with_reducible refine at_end ?_)
  go_loopw [3, 4] (fun s3 s4 wr => ∃ k : Nat, k ≤ sz ∧ s4 = .int .i64 k ∧ s3 = .int .i64 (heldN f k : Nat) ∧ wr = w) (fun _ i _ => sz - (intOf i).toNat)
  case atStart => exact ⟨0, by omega, rfl, rfl, rfl⟩
  case round =>
    obtain ⟨k, hk, rfl, rfl, rfl⟩ := hrel
    by_cases hlt : k < sz
    · have fu := st.full k hlt
      have hs := heldN_succ f k
      have hle := heldN_le f k
      have q1 : (k : Int) < (sz : Int) := by omega
      have l2 := st.lt.2
      rcases Bool.eq_false_or_eq_true (f k).isSome with hb | hb
      · rw [hb] at fu hs
        have q7 : IntKind.i64.wrap ((heldN f k : Int) + 1) = (heldN f k : Int) + 1 := IntWalk.i64_in _ (by omega)
        go_wp2_with (with_reducible refine at_end ?_)
        go_roundw
        case rel => exact ⟨k + 1, by omega, by go_num, by rw [hs]; go_num, trivial⟩
        case measure => simp [intOf]; omega
      · rw [hb] at fu hs
        go_wp2_with (with_reducible refine at_end ?_)
        go_roundw
        case rel => exact ⟨k + 1, by omega, by go_num, by rw [hs]; simp, trivial⟩
        case measure => simp [intOf]; omega
    · obtain rfl : k = sz := by omega
      have q1 : ¬(k : Int) < (k : Int) := by omega
      go_wp2_with (with_reducible refine at_end ?_)
      unfold AtEnd
      go_returns
      exact ⟨rfl, Below.refl _ _⟩
attribute [local go_sem ↓] lv105 zero105 sv105
attribute [local go_sem] run_lv105 run_sv105 run_zeroSl rslotA_size oneCells_rslot rV_size oneCells_rV
theorem rslotA_ne (b : Bool) (e : Ent) (c : Nat → Int) : (rslotA b e c = #[]) = False := by simp [rslotA, rslotL]
attribute [local go_sem] rslotA_ne
/-- What lies in a block of its own. -/
theorem rslot_cells {w : World} {g : Nat} {b : Bool} {e : Ent} {c : Nat → Int} {t : TypeId} {fr : Nat × Nat} (h : w.heap[g]? = some (.cells (rslotA b e c) t fr)) :
    w.cell? ⟨g, 0, none⟩ = some (.bool b) ∧ w.cell? ⟨g, 1, none⟩ = some (.int .i64 e.d) ∧ aggAt w ⟨g, 1, none⟩ 8 = some (entA e) ∧ aggAt w ⟨g, 9, none⟩ 88 = some (posA c) := by
  refine ⟨by rw [cell_of_row _ _ _ _ _ _ h]; rfl, by rw [cell_of_row _ _ _ _ _ _ h]; rfl, aggAt_of (entA_size _) fun i hi => ?_, aggAt_of (posA_size _) fun i hi => ?_⟩
  · have e1 : (⟨g, 1, none⟩ : Addr).add i = ⟨g, 1 + i, none⟩ := by unfold Addr.add; split <;> simp_all
    rw [e1, cell_of_row _ _ _ _ _ _ h, rslot_ent _ _ _ _ hi]
  · have e1 : (⟨g, 9, none⟩ : Addr).add i = ⟨g, 9 + i, none⟩ := by unfold Addr.add; split <;> simp_all
    rw [e1, cell_of_row _ _ _ _ _ _ h, rslot_pos]
structure RGetSt (w0 : World) (rb rr sz : Nat) (f : Tab) (c : Nat → Int) (w : World) : Prop where
  tab : RefSt w rb rr sz f
  below : Below w0.heap.size w0 w
  p : w.heap[w0.heap.size]? = some (.cells (posA c) 37 (0, 0))
  r : rowFree w (w0.heap.size + 1) 8 = true
  lr : w0.heap.size + 1 < w.heap.size
theorem RGetSt.step {w0 : World} {rb rr sz : Nat} {f : Tab} {c : Nat → Int} {w w' : World} (h : RGetSt w0 rb rr sz f c w) (hb : Below w.heap.size w w') : RGetSt w0 rb rr sz f c w' :=
  ⟨h.tab.below hb, below_join h.below hb, (hb.block _ (Array.getElem?_eq_some_iff.1 h.p).1).trans h.p, rowFree_below h.r hb h.lr, Nat.lt_of_lt_of_le h.lr hb.size⟩
theorem RGetSt.start {w0 : World} {rb rr sz : Nat} {f : Tab} {c : Nat → Int} (h : RefSt w0 rb rr sz f) : RGetSt w0 rb rr sz f c ((w0.alloc (.cells (posA c) 37)).alloc (.cells (entA ent0) 61)) := by
  have hb : Below w0.heap.size w0 ((w0.alloc (.cells (posA c) 37)).alloc (.cells (entA ent0) 61)) := by go_grown
  refine ⟨h.below hb, hb, (Below.heap_alloc _ _ _ (by simp)).trans (heap_alloc_new w0 _), ?_, by simp⟩
  rw [rowFree_new _ _ _ _ _ (by simp)]
  simp
theorem RGetSt.drew {w0 : World} {rb rr sz : Nat} {f : Tab} {c : Nat → Int} {w : World} (h : RGetSt w0 rb rr sz f c w) : RGetSt w0 rb rr sz f c w.drew := ⟨h.tab.drew, h.below.drew, h.p, h.r, h.lr⟩
theorem RGetSt.setRow {w0 : World} {rb rr sz : Nat} {f : Tab} {c : Nat → Int} {w : World} (h : RGetSt w0 rb rr sz f c w) {g : Nat} (A : Array Value) (hg : w0.heap.size + 1 < g) (h1 : rb < g) (h2 : rr < g) : RGetSt w0 rb rr sz f c (w.setRow g A) := by
  have hb : w.grownBy (w.setRow g A) (some g) := ⟨rfl, rfl, rfl, by simp [World.setRow], fun i _ hi => setRow_other w g i A (fun e => hi (by rw [e]))⟩
  refine ⟨h.tab.kept hb (by simp; omega) (by simp; omega), Below.setRow h.below (by omega) A, (setRow_other w g _ A (by omega)).trans h.p, ?_, Nat.lt_of_lt_of_le h.lr (by simp [World.setRow])⟩
  have hr := h.r
  unfold rowFree at hr ⊢
  rw [setRow_other w g _ A (by omega)]
  exact hr
theorem rslot_put {w : World} {g : Nat} {A : Array Value} (h : rowFree w g 97 = true) : ∃ t, (w.setRow g A).heap[g]? = some (.cells A t (0, 0)) := by
  obtain ⟨cs, t, h1, _⟩ := rowFree_heap h
  exact ⟨t, setRow_heap w g cs A t _ h1⟩
set_option maxRecDepth 100000 in
set_option maxHeartbeats 1000000 in
theorem refget_any {w : World} {rb rr sz : Nat} {f : Tab} (c : Nat → Int) (st : RefSt w rb rr sz f) (hc : PosOk c) :
    Calls Try.prog 50 #[.pointer (some ⟨rb, 0, none⟩), .agg (posA c)] w fun r w' => r = .returned (.tuple #[.agg (entA (getE f sz c)), .bool (getB f sz c)]) ∧ Below w.heap.size w w' := by
  have gs := RGetSt.start (c := c) st
  have OC := Lib.hid hc
  clear hc st
  have HF : (f (idxOf sz c) = none ∧ getE f sz c = ent0 ∧ getB f sz c = false) ∨ (∃ e' c', f (idxOf sz c) = some (e', c') ∧ sameB c' c = true ∧ getE f sz c = e' ∧ getB f sz c = true) ∨ (∃ e' c', f (idxOf sz c) = some (e', c') ∧ sameB c' c = false ∧ getE f sz c = ent0 ∧ getB f sz c = false) := by
    unfold getE getB
    rcases hf : f (idxOf sz c) with _ | ⟨e', c'⟩
    · exact Or.inl ⟨rfl, rfl, rfl⟩
    · rcases Bool.eq_false_or_eq_true (sameB c' c) with hs | hs
      · exact Or.inr (Or.inl ⟨e', c', rfl, hs, by simp [hs], hs⟩)
      · exact Or.inr (Or.inr ⟨e', c', rfl, hs, by simp [hs], hs⟩)
  have HH := Lib.hid HF
  clear HF
  have hix := idxOf_lt gs.tab.pos c
  have hix' : (idxOf sz c : Int) < (sz : Int) := by omega
  have hsz := gs.tab.max
  go_enter Try.func50, Try.ntmps50
  go_upto_region 1 with (fail)
  generalize (w.alloc (.cells (posA c) 37)).alloc (.cells (entA ent0) 61) = w1 at gs ⊢
  go_cut [6] from 16 (fun s6 wx => ∃ (g : Nat) (t : TypeId), s6 = .pointer (some ⟨g, 0, none⟩) ∧ RGetSt w rb rr sz f c wx ∧ wx.heap[g]? = some (.cells (rV (f (idxOf sz c))) t (0, 0)) ∧ w.heap.size + 1 < g)
  case first =>
    have c0 := gs.tab.cell
    have l1 := gs.tab.lt.1
    have l3 := Lib.hid gs.tab.lt.2
    have l4 := Lib.hid gs.lr
    have p0 := aggAt_row gs.p
    rw [posA_size] at p0
    have lp : w.heap.size < w1.heap.size := Nat.lt_of_succ_lt gs.lr
    have gD := gs.drew
    have gA := (gs.step ((Below.refl _ _).alloc (Nat.le_refl _) (.cells (rslotA false ent0 pos0) 105))).drew
    have hrA : rowFree (World.drew (w1.alloc (.cells (rslotA false ent0 pos0) 105))) w1.heap.size 97 = true := (rowFree_new w1 _ _ _ _ rfl).trans (by simp)
    have hlA : w1.heap.size < (World.drew (w1.alloc (.cells (rslotA false ent0 pos0) 105))).heap.size := by simp [World.drew]
    go_region_with (go_at_call 71; refine (refat_any c (by with_reducible first | exact gD.tab | exact gA.tab) OC.out).mono ?_; rintro r w2 ⟨rfl, hb⟩; have gs2 := RGetSt.step (c := c) (w0 := w) (by with_reducible first | exact gD | exact gA) hb; (try have hr2 := rowFree_below hrA hb hlA); have hL := gs2.tab.elem (idxOf sz c) hix; have c02 := gs2.tab.cell; have l2 := gs2.tab.lt.1; have l5 := gs2.tab.lt.2)
    all_goals
      go_wp2_with fail
      go_meet
      first
      | (obtain ⟨t, ht⟩ := rslot_put (A := rV (f (idxOf sz c))) hr2
         exact ⟨w1.heap.size, t, rfl, gs2.setRow _ l4.out l1 l3.out, ht, l4.out⟩)
      | exact ⟨w2.heap.size, 105, rfl, gs2.step ((Below.refl _ _).alloc (Nat.le_refl _) _), heap_alloc_new _ _, gs2.lr⟩
  case rest =>
    obtain ⟨g, t, rfl, gs3, hsb, hg⟩ := hcut
    have p0 := aggAt_row gs3.p
    rw [posA_size] at p0
    have r0 := gs3.r
    have lp : w.heap.size < wc.heap.size := Nat.lt_of_succ_lt gs3.lr
    clear gs w1 hix hix' hsz
    rcases HH.out with ⟨hf, he, hb⟩ | ⟨e', c', hf, hs, he, hb⟩ | ⟨e', c', hf, hs, he, hb⟩
    · have hS : rV (f (idxOf sz c)) = rslotA false ent0 pos0 := by rw [hf]; rfl
      rw [hS] at hsb
      clear hf hS
      obtain ⟨s0, s1, s8, s9⟩ := rslot_cells hsb
      have lg := (Array.getElem?_eq_some_iff.1 hsb).1
      go_wp2_with (with_reducible refine at_end ?_)
      refine end_of (bodyPost_ret (results_agg2 ld61 rfl _ _ ⟨w.heap.size + 1, 0, none⟩ (entA ent0) rfl (aggAt_put r0 (entA_size _))) rfl ⟨?_, Below.setRow gs3.below (by omega) _⟩)
      rw [he, hb]
      rfl
    · have OC' := Lib.hid (gs3.tab.ok _ _ _ hf).2
      have hS : rV (f (idxOf sz c)) = rslotA true e' c' := by rw [hf]; rfl
      rw [hS] at hsb
      clear hf hS
      obtain ⟨s0, s1, s8, s9⟩ := rslot_cells hsb
      have lg := (Array.getElem?_eq_some_iff.1 hsb).1
      go_wp2_with (first | (with_reducible refine at_end ?_) | (go_at_call 60; refine (refsame_any c' c _ OC'.out OC.out).mono ?_; rintro r w5 ⟨rfl, hb5⟩; replace gs3 := gs3.step hb5; replace hsb := (hb5.block g (Array.getElem?_eq_some_iff.1 hsb).1).trans hsb; replace r0 := gs3.r; obtain ⟨s0, s1, s8, s9⟩ := rslot_cells hsb; have lg := (Array.getElem?_eq_some_iff.1 hsb).1; clear hb5))
      refine end_of (bodyPost_ret (results_agg2 ld61 rfl _ _ ⟨w.heap.size + 1, 0, none⟩ (entA e') rfl (aggAt_put r0 (entA_size _))) rfl ⟨?_, Below.setRow gs3.below (by omega) _⟩)
      rw [he, hb]
      rfl
    · have OC' := Lib.hid (gs3.tab.ok _ _ _ hf).2
      have hS : rV (f (idxOf sz c)) = rslotA true e' c' := by rw [hf]; rfl
      rw [hS] at hsb
      clear hf hS
      obtain ⟨s0, s1, s8, s9⟩ := rslot_cells hsb
      have lg := (Array.getElem?_eq_some_iff.1 hsb).1
      go_wp2_with (first | (with_reducible refine at_end ?_) | (go_at_call 60; refine (refsame_any c' c _ OC'.out OC.out).mono ?_; rintro r w5 ⟨rfl, hb5⟩; replace gs3 := gs3.step hb5; replace hsb := (hb5.block g (Array.getElem?_eq_some_iff.1 hsb).1).trans hsb; replace r0 := gs3.r; obtain ⟨s0, s1, s8, s9⟩ := rslot_cells hsb; have lg := (Array.getElem?_eq_some_iff.1 hsb).1; clear hb5))
      refine end_of (bodyPost_ret (results_agg2 ld61 rfl _ _ ⟨w.heap.size + 1, 0, none⟩ (entA ent0) rfl (aggAt_put r0 (entA_size _))) rfl ⟨?_, Below.setRow gs3.below (by omega) _⟩)
      rw [he, hb]
      rfl
end Go.Proofs.Ytldacinldgjdcaa
