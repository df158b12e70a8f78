/- The walk of the examples of the chapter 26. -/
import Derived.Test.YtldacinldgjdcaaTabW
namespace Go.Proofs.Ytldacinldgjdcaa
open Go.RowKit Go.Maps
theorem ent0_set0 (z : Int) : (entA ent0).setIfInBounds 0 (.int .i64 z) = entA ⟨z, 0, 0, 0, 0, 0, 0, false⟩ := by simp [entA, entL, ent0]
attribute [local go_sem] entA_ne slotA_ne ent0_set0
attribute [local go_sem ↓] lv37 zero37 sv37 lv61 zero61 sv61 lv101 zero101 sv101
attribute [local go_sem] run_lv37 run_zero37 run_sv37 run_lv61 run_sv61 run_zeroEnt run_lv101 run_sv101 run_zeroSlot rowFree_new rowFree_alloc setRow_new setRow_alloc aggAt_newb aggAt_old aggAt_drew aggAt_drewN posA_size oneCells_pos posA_set kindAt entA_size oneCells_ent slotA_size oneCells_slot After.cell After.frozen After.agg add_block run_b0
theorem aggLt {w : World} {g : Nat} {c : Nat → Int} (hu : aggAt w ⟨g, 0, none⟩ 88 = some (posA c)) : g < w.heap.size := by
  obtain ⟨_, h2⟩ := aggAt_cell hu
  have h3 := h2 0 (by omega)
  rw [add0, posA_get _ _ (by omega)] at h3
  exact block_lt_of_cell h3
theorem Stb.entry {w0 w : World} {tb bm sz : Nat} {f : Tab} {F : World → Prop} (h : Stb w0 tb bm sz f F w) (e : Ent) : Stb w0 tb bm sz f (fun u => F u ∧ u.cell? ⟨w.heap.size, 0, none⟩ = some (.int .i64 e.d)) (w.alloc (.cells (entA e) 61)) :=
  (h.step ((Below.refl _ _).alloc (Nat.le_refl _) _)).cell (ent_cells (heap_alloc_new w (.cells (entA e) 61))).1 (by have := h.tab.lt.2.1; omega)
theorem Stb.room {w0 w : World} {tb bm sz : Nat} {f : Tab} {F : World → Prop} (h : Stb w0 tb bm sz f F w) (o : Obj) : Stb w0 tb bm sz f F (w.alloc o) := h.step ((Below.refl _ _).alloc (Nat.le_refl _) _)
set_option maxRecDepth 100000 in
set_option maxHeartbeats 16000000 in
theorem awake26_any (w : World) :
    Calls Try.prog 55 #[] w fun e w' => e = .returned (.bool true) ∧ Below w.heap.size w w' := by
  have hbw := Below.refl w.heap.size w
  go_enter Try.func55, Try.ntmps55
  go_upto_region 3 with (go_at_call 44; refine (new_no (by omega) _).mono ?_; rintro r w1 ⟨rfl, hb⟩; replace hbw := below_join hbw hb; clear hb)
  go_upto_region 6 with (go_at_call 44; refine (new_any (sz := 1) (by omega) (by omega) _).mono ?_; rintro r w1 ⟨tb, bm, rfl, ht, hb, htb, hbm⟩)
  have st0 : Stb w tb bm 1 tabE (fun _ => True) w1 := ⟨ht, below_join hbw hb, Nat.le_trans hbw.size hbm, trivial, fun _ _ _ h => h⟩
  clear hbw hb htb hbm ht
  have hbm1 := st0.tab.lt.2.1
  go_upto_region 8 with (fail)
  obtain ⟨F, st, HF⟩ : ∃ F : World → Prop, Stb w tb bm 1 tabE F ((w1.alloc (.cells (posA pos0) 37)).alloc (.cells (posA exB) 37)) ∧ ∀ u, F u → (aggAt u ⟨w1.heap.size, 0, none⟩ 88 = some (posA pos0) ∧ aggAt u ⟨w1.heap.size + 1, 0, none⟩ 88 = some (posA exB) ∧ True) :=
    ⟨_, ((st0.step (by go_grown : Below w1.heap.size w1 ((w1.alloc (.cells (posA pos0) 37)).alloc (.cells (posA exB) 37)))).agg (g := w1.heap.size) (cs := posA pos0) (aggAt_alloc (aggAt_new w1 (posA pos0) 37 88 (posA_size _)) (by simp) _) (by omega)).agg (g := w1.heap.size + 1) (cs := posA exB) (by have := aggAt_new (w1.alloc (.cells (posA pos0) 37)) (posA exB) 37 88 (posA_size _); simpa using this) (by omega), fun u h => ⟨h.1.2, h.2, trivial⟩⟩
  change Code.wp _ _ _ _ ((w1.alloc (.cells (posA pos0) 37)).alloc (.cells (posA exB) 37))
  generalize (w1.alloc (.cells (posA pos0) 37)).alloc (.cells (posA exB) 37) = w2 at st ⊢
  generalize w1.heap.size = g at HF ⊢
  clear hbm1 st0 w1
  go_cut [9] from 50 (fun s9 wx => s9 = .bool true ∧ Stb w tb bm 1 ex1T F wx)
  case first =>
    replace st := st.drew
    obtain ⟨a7, a8, _⟩ := HF _ st.fact
    have l7 := aggLt a7
    have l8 := aggLt a8
    go_region_with (first | (go_at_call 72; refine (entry_any _ _).mono ?_; rintro r w3 ⟨rfl, hb⟩; replace st := st.step hb; clear hb; obtain ⟨a7, a8, _⟩ := HF _ st.fact; have l7 := aggLt a7; have l8 := aggLt a8) | (go_at_call 47; (with_reducible refine (ex_put1 st.tab).mono ?_); rintro r w4 ⟨rfl, ht, hg⟩; replace st := st.put ht hg; clear ht hg; obtain ⟨a7, a8, _⟩ := HF _ st.fact; have l7 := aggLt a7; have l8 := aggLt a8))
    all_goals
      go_wp2_with fail
      go_meet
      exact ⟨rfl, st⟩
  clear st
  obtain ⟨rfl, st⟩ := hcut
  obtain ⟨a7, a8, _⟩ := HF _ st.fact
  have l7 := aggLt a7
  have l8 := aggLt a8
  go_upto_region 10 with (go_at_call 49; refine (ex_get1 st.tab).mono ?_; rintro r w5 ⟨rfl, hb⟩; replace st := st.step hb; clear hb)
  clear a7 a8 l7 l8
  obtain ⟨F1, st1, HF1⟩ : ∃ F' : World → Prop, Stb w tb bm 1 _ F' (w5.alloc (.cells (entA (exE 3)) 61)) ∧ ∀ u, F' u → (aggAt u ⟨g, 0, none⟩ 88 = some (posA pos0) ∧ aggAt u ⟨g + 1, 0, none⟩ 88 = some (posA exB) ∧ u.cell? ⟨w5.heap.size, 0, none⟩ = some (.int .i64 3) ∧ True) := ⟨_, st.entry (exE 3), fun u h => ⟨(HF u h.1).1, (HF u h.1).2.1, h.2, trivial⟩⟩
  clear st HF
  generalize w5.alloc (.cells (entA (exE 3)) 61) = w6 at st1 ⊢
  generalize w5.heap.size = gx at HF1 ⊢
  clear w5
  have st := st1
  clear st1
  obtain ⟨a7, a8, _⟩ := HF1 _ st.fact
  have l7 := aggLt a7
  have l8 := aggLt a8
  go_upto_region 11 with (go_at_call 49; refine (ex_get2 st.tab).mono ?_; rintro r w5 ⟨rfl, hb⟩; replace st := st.step hb; clear hb)
  clear a7 a8 l7 l8
  replace st := st.room (.cells (entA ent0) 61)
  generalize w5.alloc (.cells (entA ent0) 61) = w6 at st ⊢
  generalize w5.heap.size = gu2
  clear w5
  go_cut [14, 15] from 66 (fun s14 s15 wx => s14 = .bool false ∧ s15 = .bool true ∧ Stb w tb bm 1 ex2T F1 wx)
  case first =>
    replace st := st.drew
    obtain ⟨a7, a8, _⟩ := HF1 _ st.fact
    have l7 := aggLt a7
    have l8 := aggLt a8
    go_region_with (first | (go_at_call 72; refine (entry_any _ _).mono ?_; rintro r w3 ⟨rfl, hb⟩; replace st := st.step hb; clear hb; obtain ⟨a7, a8, _⟩ := HF1 _ st.fact; have l7 := aggLt a7; have l8 := aggLt a8) | (go_at_call 47; (with_reducible refine (ex_put2 st.tab).mono ?_); rintro r w4 ⟨rfl, ht, hg⟩; replace st := st.put ht hg; clear ht hg; obtain ⟨a7, a8, _⟩ := HF1 _ st.fact; have l7 := aggLt a7; have l8 := aggLt a8) | (go_at_call 47; (with_reducible refine (ex_put3 st.tab).mono ?_); rintro r w4 ⟨rfl, ht, hg⟩; replace st := st.put ht hg; clear ht hg; obtain ⟨a7, a8, _⟩ := HF1 _ st.fact; have l7 := aggLt a7; have l8 := aggLt a8))
    all_goals
      go_wp2_with fail
      go_meet
      exact ⟨rfl, rfl, st⟩
  clear st
  obtain ⟨rfl, rfl, st⟩ := hcut
  obtain ⟨a7, a8, _⟩ := HF1 _ st.fact
  have l7 := aggLt a7
  have l8 := aggLt a8
  go_upto_region 13 with (go_at_call 49; refine (ex_get3 st.tab).mono ?_; rintro r w5 ⟨rfl, hb⟩; replace st := st.step hb; clear hb)
  clear a7 a8 l7 l8
  replace st := st.room (.cells (entA ent0) 61)
  generalize w5.alloc (.cells (entA ent0) 61) = w6 at st ⊢
  generalize w5.heap.size = gu3
  clear w5
  obtain ⟨a7, a8, _⟩ := HF1 _ st.fact
  have l7 := aggLt a7
  have l8 := aggLt a8
  go_upto_region 14 with (go_at_call 49; refine (ex_get4 st.tab).mono ?_; rintro r w5 ⟨rfl, hb⟩; replace st := st.step hb; clear hb)
  clear a7 a8 l7 l8
  obtain ⟨F4, st4, HF4⟩ : ∃ F' : World → Prop, Stb w tb bm 1 _ F' (w5.alloc (.cells (entA (exE 3)) 61)) ∧ ∀ u, F' u → (aggAt u ⟨g, 0, none⟩ 88 = some (posA pos0) ∧ aggAt u ⟨g + 1, 0, none⟩ 88 = some (posA exB) ∧ u.cell? ⟨gx, 0, none⟩ = some (.int .i64 3) ∧ u.cell? ⟨w5.heap.size, 0, none⟩ = some (.int .i64 3) ∧ True) := ⟨_, st.entry (exE 3), fun u h => ⟨(HF1 u h.1).1, (HF1 u h.1).2.1, (HF1 u h.1).2.2.1, h.2, trivial⟩⟩
  clear st HF1
  generalize w5.alloc (.cells (entA (exE 3)) 61) = w6 at st4 ⊢
  generalize w5.heap.size = gy at HF4 ⊢
  clear w5
  have st := st4
  clear st4
  go_cut [20] from 86 (fun s20 wx => s20 = .bool true ∧ Stb w tb bm 1 ex3T F4 wx)
  case first =>
    replace st := st.drew
    obtain ⟨a7, a8, _⟩ := HF4 _ st.fact
    have l7 := aggLt a7
    have l8 := aggLt a8
    go_region_with (first | (go_at_call 72; refine (entry_any _ _).mono ?_; rintro r w3 ⟨rfl, hb⟩; replace st := st.step hb; clear hb; obtain ⟨a7, a8, _⟩ := HF4 _ st.fact; have l7 := aggLt a7; have l8 := aggLt a8) | (go_at_call 47; (with_reducible refine (ex_put4 st.tab).mono ?_); rintro r w4 ⟨rfl, ht, hg⟩; replace st := st.put ht hg; clear ht hg; obtain ⟨a7, a8, _⟩ := HF4 _ st.fact; have l7 := aggLt a7; have l8 := aggLt a8))
    all_goals
      go_wp2_with fail
      go_meet
      exact ⟨rfl, st⟩
  clear st
  obtain ⟨rfl, st⟩ := hcut
  obtain ⟨a7, a8, _⟩ := HF4 _ st.fact
  have l7 := aggLt a7
  have l8 := aggLt a8
  go_upto_region 16 with (go_at_call 49; refine (ex_get5 st.tab).mono ?_; rintro r w5 ⟨rfl, hb⟩; replace st := st.step hb; clear hb)
  clear a7 a8 l7 l8
  obtain ⟨F5, st5, HF5⟩ : ∃ F' : World → Prop, Stb w tb bm 1 _ F' (w5.alloc (.cells (entA (exE 1)) 61)) ∧ ∀ u, F' u → (aggAt u ⟨g, 0, none⟩ 88 = some (posA pos0) ∧ aggAt u ⟨g + 1, 0, none⟩ 88 = some (posA exB) ∧ u.cell? ⟨gx, 0, none⟩ = some (.int .i64 3) ∧ u.cell? ⟨gy, 0, none⟩ = some (.int .i64 3) ∧ u.cell? ⟨w5.heap.size, 0, none⟩ = some (.int .i64 1)) := ⟨_, st.entry (exE 1), fun u h => ⟨(HF4 u h.1).1, (HF4 u h.1).2.1, (HF4 u h.1).2.2.1, (HF4 u h.1).2.2.2.1, h.2⟩⟩
  clear st HF4
  generalize w5.alloc (.cells (entA (exE 1)) 61) = w6 at st5 ⊢
  generalize w5.heap.size = gz at HF5 ⊢
  clear w5
  have st := st5
  clear st5
  obtain ⟨a7, a8, cx, cy, cz⟩ := HF5 _ st.fact
  have l8 := aggLt a8
  have lx := block_lt_of_cell cx
  have ly := block_lt_of_cell cy
  have lz := block_lt_of_cell cz
  have hbm1 := st.tab.lt.2.1
  refine wp_region_after (by kernel_rfl) (by kernel_rfl) ?_
  repeat (refine wpQuiet_step (fun K hK => ?_); go_simp; first | (refine hK _ ?_; clear hK K) | (apply Exists.intro; refine ⟨fun p => ?_, hK _ ?_⟩; (first | (go_at_call 72; exact After.call p (entry_any _ _)) | (go_at_call 47; with_reducible first | exact After.call p (ex_put5 (st.tab.below p.below)) | exact After.call p (ex_put6 (st.tab.below p.below)))); clear hK K))
  refine wpQuiet_nil ?_
  intro w7 hb7
  go_wp2_with (with_reducible refine at_end ?_)
  unfold AtEnd
  go_returns
  exact ⟨rfl, below_join st.below hb7⟩
end Go.Proofs.Ytldacinldgjdcaa
