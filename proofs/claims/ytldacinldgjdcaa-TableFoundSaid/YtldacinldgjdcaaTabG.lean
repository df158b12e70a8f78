/- The walk of the table's Get. -/
import Derived.Test.YtldacinldgjdcaaTabP
import Derived.Deep.RegionWith
import Derived.Deep.Cut
namespace Go.Proofs.Ytldacinldgjdcaa
open Go.RowKit Go.Maps
attribute [local go_sem] entA_ne slotA_ne entA_set0 entA_set2
attribute [local go_sem ↓] lv37 zero37 sv37 lv61 zero61 sv61 lv101 zero101 sv101
attribute [local go_sem] run_lv37 run_zero37 run_sv37 run_lv61 run_sv61 run_zeroEnt run_lv101 run_sv101 run_zeroSlot rowFree_new rowFree_alloc setRow_new setRow_alloc aggAt_newb aggAt_old aggAt_drew aggAt_drewN posA_size oneCells_pos entA_size oneCells_ent slotA_size oneCells_slot After.cell After.frozen After.agg add_block run_b0

def getB (f : Tab) (sz : Nat) (c : Nat → Int) : Bool := match f (idxOf sz c) with | none => false | some (_, c') => sameB c' c
def getE (f : Tab) (sz : Nat) (c : Nat → Int) : Ent := match f (idxOf sz c) with | none => ent0 | some (e', c') => if sameB c' c then e' else ent0
theorem look_tab {w : World} {tb bm sz : Nat} {f : Tab} (st : TabSt w tb bm sz f) (i : Nat) (hi : i < sz) :
    (Instr.lookup 94 (.map (some bm)) (.int .u64 i) true).run Try.prog w = .ok (.tuple #[.agg (slotV (f i)), .bool (f i).isSome]) w := by
  obtain ⟨D, hD, hr⟩ := st.map
  have hmax := st.max
  obtain ⟨v, ps, hrun, hv⟩ := hD.look_ok keyLaw29 Try.underlying94 (run_zero101 w) (zd := .held (.agg (slotA ent0 pos0))) (zp := []) rfl (keyOf_int_mk Try.underlying29 (wf_idx (i := i) (by omega)))
  rw [hr.at_ i hi] at hv
  have e : v = .agg (slotV (f i)) := by
    simp only [rawE, Option.some.injEq, Prod.mk.injEq, DataW.held.injEq] at hv
    exact hv.1
  rw [hrun, e, hr.has i hi]
@[simp] theorem slotV_size (x : Option (Ent × (Nat → Int))) : (slotV x).size = 96 := by
  rcases x with _ | ⟨e, c⟩
  · exact slotA_size _ _
  · exact slotA_size _ _
theorem oneCells_slotV (x : Option (Ent × (Nat → Int))) : OneCells (slotV x) := by
  rcases x with _ | ⟨e, c⟩
  · exact oneCells_slot _ _
  · exact oneCells_slot _ _
attribute [local go_sem] slotV_size oneCells_slotV
structure GetSt (w0 : World) (tb bm sz : Nat) (f : Tab) (c : Nat → Int) (w : World) : Prop where
  tab : TabSt w tb bm sz f
  below : Below w0.heap.size w0 w
  p : w.heap[w0.heap.size]? = some (.cells (posA c) 37 (0, 0))
  r : rowFree w (w0.heap.size + 1) 8 = true
  lr : w0.heap.size + 1 < w.heap.size
theorem GetSt.step {w0 : World} {tb bm sz : Nat} {f : Tab} {c : Nat → Int} {w w' : World} (h : GetSt w0 tb bm sz f c w) (hb : Below w.heap.size w w') : GetSt w0 tb bm sz f c w' :=
  ⟨h.tab.below hb, below_join h.below hb, (hb.block _ (Array.getElem?_eq_some_iff.1 h.p).1).trans h.p, rowFree_below h.r hb h.lr, Nat.lt_of_lt_of_le h.lr hb.size⟩
theorem GetSt.start {w0 : World} {tb bm sz : Nat} {f : Tab} {c : Nat → Int} (h : TabSt w0 tb bm sz f) : GetSt w0 tb bm sz f c ((w0.alloc (.cells (posA c) 37)).alloc (.cells (entA ent0) 61)) := by
  have hb : Below w0.heap.size w0 ((w0.alloc (.cells (posA c) 37)).alloc (.cells (entA ent0) 61)) := by go_grown
  refine ⟨h.below hb, hb, (Below.heap_alloc _ _ _ (by simp)).trans (heap_alloc_new w0 _), ?_, by simp⟩
  rw [rowFree_new _ _ _ _ _ (by simp)]
  simp
theorem GetSt.drew {w0 : World} {tb bm sz : Nat} {f : Tab} {c : Nat → Int} {w : World} (h : GetSt w0 tb bm sz f c w) : GetSt w0 tb bm sz f c w.drew := ⟨h.tab.drew, h.below.drew, h.p, h.r, h.lr⟩
theorem GetSt.setRow {w0 : World} {tb bm sz : Nat} {f : Tab} {c : Nat → Int} {w : World} (h : GetSt w0 tb bm sz f c w) {g : Nat} (A : Array Value) (hg : w0.heap.size + 1 < g) (h1 : tb < g) (h2 : bm < g) : GetSt w0 tb bm sz f c (w.setRow g A) := by
  have hb : w.grownBy (w.setRow g A) (some g) := ⟨rfl, rfl, rfl, by simp [World.setRow], fun i _ hi => setRow_other w g i A (fun e => hi (by rw [e]))⟩
  refine ⟨h.tab.kept hb (by simp; omega) (by simp; omega), Below.setRow h.below (by omega) A, (setRow_other w g _ A (by omega)).trans h.p, ?_, Nat.lt_of_lt_of_le h.lr (by simp [World.setRow])⟩
  have hr := h.r
  unfold rowFree at hr ⊢
  rw [setRow_other w g _ A (by omega)]
  exact hr
theorem slot_put {w : World} {g : Nat} {A : Array Value} (h : rowFree w g 96 = true) : ∃ t, (w.setRow g A).heap[g]? = some (.cells A t (0, 0)) := by
  obtain ⟨cs, t, h1, _⟩ := rowFree_heap h
  exact ⟨t, setRow_heap w g cs A t _ h1⟩
set_option maxRecDepth 100000 in
set_option maxHeartbeats 1000000 in
theorem get_any {w : World} {tb bm sz : Nat} {f : Tab} (c : Nat → Int) (st : TabSt w tb bm sz f) (hc : PosOk c) :
    Calls Try.prog 49 #[.pointer (some ⟨tb, 0, none⟩), .agg (posA c)] w fun r w' => r = .returned (.tuple #[.agg (entA (getE f sz c)), .bool (getB f sz c)]) ∧ Below w.heap.size w w' := by
  have gs := GetSt.start (c := c) st
  have OC := Lib.hid hc
  clear hc st
  have HF : (f (idxOf sz c) = none ∧ getE f sz c = ent0 ∧ getB f sz c = false) ∨ (∃ e' c', f (idxOf sz c) = some (e', c') ∧ sameB c' c = true ∧ getE f sz c = e' ∧ getB f sz c = true) ∨ (∃ e' c', f (idxOf sz c) = some (e', c') ∧ sameB c' c = false ∧ getE f sz c = ent0 ∧ getB f sz c = false) := by
    unfold getE getB
    rcases hf : f (idxOf sz c) with _ | ⟨e', c'⟩
    · exact Or.inl ⟨rfl, rfl, rfl⟩
    · rcases Bool.eq_false_or_eq_true (sameB c' c) with hs | hs
      · exact Or.inr (Or.inl ⟨e', c', rfl, hs, by simp [hs], hs⟩)
      · exact Or.inr (Or.inr ⟨e', c', rfl, hs, by simp [hs], hs⟩)
  have HH := Lib.hid HF
  clear HF
  go_enter Try.func49, Try.ntmps49
  go_upto_region 3 with (go_at_call 69; refine (none_any gs.tab).mono ?_; rintro r w1 ⟨rfl, hb⟩; replace gs := gs.step hb; clear hb)
  go_cut [6, 7] from 11 (fun s6 s7 wx => ∃ (g : Nat) (t : TypeId), s6 = .pointer (some ⟨g, 0, none⟩) ∧ s7 = .bool (f (idxOf sz c)).isSome ∧ GetSt w tb bm sz f c wx ∧ wx.heap[g]? = some (.cells (slotV (f (idxOf sz c))) t (0, 0)) ∧ w.heap.size + 1 < g)
  case first =>
    obtain ⟨c0, c1⟩ := gs.tab.cells
    have l1 := gs.tab.lt.1
    have l3 := Lib.hid gs.tab.lt.2.1
    have l4 := Lib.hid gs.lr
    have p0 := aggAt_row gs.p
    rw [posA_size] at p0
    have lp : w.heap.size < w1.heap.size := Nat.lt_of_succ_lt gs.lr
    have gD := gs.drew
    have gA := (gs.step ((Below.refl _ _).alloc (Nat.le_refl _) (.cells (slotA ent0 pos0) 101))).drew
    have hrA : rowFree (World.drew (w1.alloc (.cells (slotA ent0 pos0) 101))) w1.heap.size 96 = true := (rowFree_new w1 _ _ _ _ rfl).trans (by simp)
    have hlA : w1.heap.size < (World.drew (w1.alloc (.cells (slotA ent0 pos0) 101))).heap.size := by simp [World.drew]
    go_region_with (go_at_call 70; refine (tabAt_any c (by with_reducible first | exact gD.tab | exact gA.tab) OC.out).mono ?_; rintro r w2 ⟨rfl, hb⟩; have gs2 := GetSt.step (c := c) (w0 := w) (by with_reducible first | exact gD | exact gA) hb; (try have hr2 := rowFree_below hrA hb hlA); have hL := look_tab gs2.tab (idxOf sz c) (idxOf_lt gs2.tab.pos c); have hM := fun o => look_tab (gs2.tab.below ((Below.refl _ _).alloc (Nat.le_refl _) o)) (idxOf sz c) (idxOf_lt gs2.tab.pos c); have c02 := gs2.tab.cells.1; have c12 := gs2.tab.cells.2; have l2 := gs2.tab.lt.1)
    all_goals
      go_wp2_with fail
      go_meet
      first
      | (obtain ⟨t, ht⟩ := slot_put (A := slotV (f (idxOf sz c))) hr2
         exact ⟨w1.heap.size, t, rfl, rfl, gs2.setRow _ l4.out l1 l3.out, ht, l4.out⟩)
      | exact ⟨w2.heap.size, 101, rfl, rfl, gs2.step ((Below.refl _ _).alloc (Nat.le_refl _) _), heap_alloc_new _ _, gs2.lr⟩
  case rest =>
    obtain ⟨g, t, rfl, rfl, gs3, hsb, hg⟩ := hcut
    have p0 := aggAt_row gs3.p
    rw [posA_size] at p0
    have r0 := gs3.r
    have lp : w.heap.size < wc.heap.size := Nat.lt_of_succ_lt gs3.lr
    rcases HH.out with ⟨hf, he, hb⟩ | ⟨e', c', hf, hs, he, hb⟩ | ⟨e', c', hf, hs, he, hb⟩
    · have hI : (f (idxOf sz c)).isSome = false := by rw [hf]; rfl
      clear hf hsb
      go_wp2_with (with_reducible refine at_end ?_)
      refine end_of (bodyPost_ret (results_agg2 ld61 rfl _ _ ⟨w.heap.size + 1, 0, none⟩ (entA ent0) rfl (aggAt_put r0 (entA_size _))) rfl ⟨?_, Below.setRow gs3.below (by omega) _⟩)
      rw [he, hb]
      rfl
    · have OC' := Lib.hid (gs3.tab.ok _ _ _ hf).2
      have hI : (f (idxOf sz c)).isSome = true := by rw [hf]; rfl
      have hS : slotV (f (idxOf sz c)) = slotA e' c' := by rw [hf]; rfl
      rw [hS] at hsb
      clear hf hS
      obtain ⟨s0, s8, s9⟩ := slot_cells hsb
      have lg := (Array.getElem?_eq_some_iff.1 hsb).1
      go_wp2_with (first | (with_reducible refine at_end ?_) | (go_at_call 59; refine (same_any c' c _ OC'.out OC.out).mono ?_; rintro r w5 ⟨rfl, hb5⟩; replace gs3 := gs3.step hb5; replace hsb := (hb5.block g (Array.getElem?_eq_some_iff.1 hsb).1).trans hsb; replace r0 := gs3.r; obtain ⟨s0, s8, s9⟩ := slot_cells hsb; have lg := (Array.getElem?_eq_some_iff.1 hsb).1; clear hb5))
      refine end_of (bodyPost_ret (results_agg2 ld61 rfl _ _ ⟨w.heap.size + 1, 0, none⟩ (entA e') rfl (aggAt_put r0 (entA_size _))) rfl ⟨?_, Below.setRow gs3.below (by omega) _⟩)
      rw [he, hb]
      rfl
    · have OC' := Lib.hid (gs3.tab.ok _ _ _ hf).2
      have hI : (f (idxOf sz c)).isSome = true := by rw [hf]; rfl
      have hS : slotV (f (idxOf sz c)) = slotA e' c' := by rw [hf]; rfl
      rw [hS] at hsb
      clear hf hS
      obtain ⟨s0, s8, s9⟩ := slot_cells hsb
      have lg := (Array.getElem?_eq_some_iff.1 hsb).1
      go_wp2_with (first | (with_reducible refine at_end ?_) | (go_at_call 59; refine (same_any c' c _ OC'.out OC.out).mono ?_; rintro r w5 ⟨rfl, hb5⟩; replace gs3 := gs3.step hb5; replace hsb := (hb5.block g (Array.getElem?_eq_some_iff.1 hsb).1).trans hsb; replace r0 := gs3.r; obtain ⟨s0, s8, s9⟩ := slot_cells hsb; have lg := (Array.getElem?_eq_some_iff.1 hsb).1; clear hb5))
      refine end_of (bodyPost_ret (results_agg2 ld61 rfl _ _ ⟨w.heap.size + 1, 0, none⟩ (entA ent0) rfl (aggAt_put r0 (entA_size _))) rfl ⟨?_, Below.setRow gs3.below (by omega) _⟩)
      rw [he, hb]
      rfl
end Go.Proofs.Ytldacinldgjdcaa
