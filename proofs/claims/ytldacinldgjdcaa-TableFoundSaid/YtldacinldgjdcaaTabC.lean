/- The walks of the table's small functions: none, at, Size, Held, Clear, New; and of the law's entry. -/
import Derived.Test.YtldacinldgjdcaaTabB
namespace Go.Proofs.Ytldacinldgjdcaa
open Go.RowKit Go.Maps

theorem lv61' (a : Addr) : loadVar 61 a = loadAgg 61 a := rfl
theorem sv61 (a : Addr) (v : Value) : storeVar 61 a v = storeAgg 61 a v := rfl
theorem run_sv61 (w : World) (g : Nat) (A : Array Value) (h : rowFree w g 8 = true) (hs : A.size = 8) (h1 : OneCells A) : (storeAgg 61 ⟨g, 0, none⟩ (.agg A)).run Try.prog w = .ok () (w.setRow g A) := run_storeAgg (by kernel_rfl) w g A h hs h1
def zeroEnt : Sem Value := zeroValue 61
theorem zero61 : zeroValue 61 = zeroEnt := rfl
theorem run_zeroEnt (w : World) : zeroEnt.run Try.prog w = .ok (.agg (entA ent0)) w := run_zero61 w
def zeroSlot : Sem Value := zeroValue 101
theorem zero101 : zeroValue 101 = zeroSlot := rfl
theorem run_zeroSlot (w : World) : zeroSlot.run Try.prog w = .ok (.agg (slotA ent0 pos0)) w := run_zero101 w
theorem entA_ne (e : Ent) : (entA e = #[]) = False := by simp [entA, entL]
theorem slotA_ne (e : Ent) (c : Nat → Int) : (slotA e c = #[]) = False := by simp [slotA, entL]
theorem entA_set0 (e : Ent) (z : Int) : (entA e).setIfInBounds 0 (.int .i64 z) = entA ⟨z, e.v, e.k, e.f, e.t, e.p, e.r, e.c⟩ := by simp [entA, entL]
theorem entA_set2 (e : Ent) (z : Int) : (entA e).setIfInBounds 2 (.int .u8 z) = entA ⟨e.d, e.v, z, e.f, e.t, e.p, e.r, e.c⟩ := by simp [entA, entL]
attribute [local go_sem] entA_ne slotA_ne entA_set0 entA_set2
attribute [local go_sem ↓] lv37 zero37 sv37 lv61 zero61 sv61 lv101 zero101 sv101
attribute [local go_sem] run_lv37 run_zero37 run_sv37 run_lv61 run_sv61 run_zeroEnt run_lv101 run_sv101 run_zeroSlot rowFree_new rowFree_alloc setRow_new setRow_alloc aggAt_newb aggAt_old aggAt_drew aggAt_drewN posA_size oneCells_pos entA_size oneCells_ent slotA_size oneCells_slot After.cell After.frozen After.agg add_block run_b0 run_b1 run_b5 run_b101 run_b96

theorem body_falls {P : Program} {fn : Func} {R : Ending → World → Prop} {a : Act} {w : World} (hr : fn.results = #[]) (hd : a.defers = []) (hR : R (.returned (.tuple #[])) w) : bodyPost P fn R .normal a w :=
  bodyPost_end (by simp [hr, results]) hd hR
def idxOf (sz : Nat) (c : Nat → Int) : Nat := (keyV c % (sz : Int)).toNat
theorem idxOf_lt {sz : Nat} (h : 1 ≤ sz) (c : Nat → Int) : idxOf sz c < sz := by unfold idxOf; have := Int.emod_lt_of_pos (keyV c) (show 0 < (sz : Int) by omega); omega
theorem idxOf_int {sz : Nat} (h : 1 ≤ sz) (c : Nat → Int) : (keyV c).tmod (sz : Int) = (idxOf sz c : Int) := by
  have h0 : 0 ≤ keyV c := (R64_xs _).1
  rw [Int.tmod_eq_emod_of_nonneg h0]
  unfold idxOf
  have := Int.emod_nonneg (keyV c) (show (sz : Int) ≠ 0 by omega)
  omega
theorem none_any {w : World} {tb bm sz : Nat} {f : Tab} (st : TabSt w tb bm sz f) :
    Calls Try.prog 69 #[.pointer (some ⟨tb, 0, none⟩)] w fun e w' => e = .returned (.bool false) ∧ Below w.heap.size w w' := by
  obtain ⟨c0, c1⟩ := st.cells
  have l := st.lt.1
  have q : ¬(sz : Int) = 0 := by have := st.pos; omega
  have q2 : ((sz : Int) == 0) = false := by simpa using q
  go_enter Try.func69, Try.ntmps69
  go_wp2_with (with_reducible refine at_end ?_)
  unfold AtEnd
  go_returns
  exact ⟨ret_bool (by simp), Below.refl _ _⟩
theorem size_any {w : World} {tb bm sz : Nat} {f : Tab} (st : TabSt w tb bm sz f) :
    Calls Try.prog 45 #[.pointer (some ⟨tb, 0, none⟩)] w fun e w' => e = .returned (.int .i64 sz) ∧ Below w.heap.size w w' := by
  go_enter Try.func45, Try.ntmps45
  go_wp2_with (first | (with_reducible refine at_end ?_) | (go_at_call 69; refine (none_any st).mono ?_; rintro e w1 ⟨rfl, hb⟩; replace st := st.below hb; obtain ⟨c0, c1⟩ := st.cells; have l := st.lt.1))
  unfold AtEnd
  go_returns
  exact ⟨rfl, hb⟩
theorem held_any {w : World} {tb bm sz : Nat} {f : Tab} (st : TabSt w tb bm sz f) :
    Calls Try.prog 52 #[.pointer (some ⟨tb, 0, none⟩)] w fun e w' => e = .returned (.int .i64 (heldN f sz : Nat)) ∧ Below w.heap.size w w' := by
  go_enter Try.func52, Try.ntmps52
  go_wp2_with (first | (with_reducible refine at_end ?_) | (go_at_call 69; refine (none_any st).mono ?_; rintro e w1 ⟨rfl, hb⟩; replace st := st.below hb; obtain ⟨c0, c1⟩ := st.cells; have l := st.lt.1) | (at_len; refine wpList_len_tab _ rfl _ rfl st rfl ?_))
  unfold AtEnd
  go_returns
  exact ⟨rfl, hb⟩
theorem clear_any {w : World} {tb bm sz : Nat} {f : Tab} (st : TabSt w tb bm sz f) :
    Calls Try.prog 51 #[.pointer (some ⟨tb, 0, none⟩)] w fun e w' => e = .returned (.tuple #[]) ∧ TabSt w' tb bm sz tabE ∧ w.grownBy w' (some bm) := by
  go_enter Try.func51, Try.ntmps51
  go_wp2_with (first | (with_reducible refine at_end ?_) | (go_at_call 69; refine (none_any st).mono ?_; rintro e w1 ⟨rfl, hb⟩; replace st := st.below hb; obtain ⟨c0, c1⟩ := st.cells; have l := st.lt.1) | ((with_reducible refine wpList_clear_tab _ rfl _ rfl st ?_ ?_); (· rfl); intro w2 st2 hg2))
  exact body_falls rfl rfl ⟨rfl, st2, ((grown_of hb).but _).trans hg2⟩
set_option maxRecDepth 100000 in
theorem entry_any (z : Int) (w : World) :
    Calls Try.prog 72 #[.int .i64 z] w fun e w' => e = .returned (.agg (entA ⟨z, 0, 1, 0, 0, 0, 0, false⟩)) ∧ Below w.heap.size w w' := by
  go_enter Try.func72, Try.ntmps72
  go_wp2_with (with_reducible refine at_end ?_)
  refine end_of (bodyPost_ret (results_agg ld61 rfl _ _ ⟨w.heap.size, 0, none⟩ (entA ⟨z, 0, 1, 0, 0, 0, 0, false⟩) rfl (by go_simp; rfl)) rfl ⟨rfl, by go_grown⟩)
set_option maxRecDepth 100000 in
theorem tabAt_any {w : World} {tb bm sz : Nat} {f : Tab} (c : Nat → Int) (st : TabSt w tb bm sz f) (hc : PosOk c) :
    Calls Try.prog 70 #[.pointer (some ⟨tb, 0, none⟩), .agg (posA c)] w fun e w' => e = .returned (.int .u64 (idxOf sz c : Nat)) ∧ Below w.heap.size w w' := by
  have st1 := st.below (((Below.refl _ _).alloc (Nat.le_refl _) (.cells (posA c) 37)) : Below w.heap.size w _)
  obtain ⟨c0, c1⟩ := st1.cells
  have l := Nat.lt_succ_of_lt st.lt.1
  have q1 : IntKind.u64.wrap (sz : Int) = sz := by rw [IntKind.wrap_u64]; have := st.max; omega
  have q2 : ¬(sz : Int) = 0 := by have := st.pos; omega
  have q3 : ¬sz = 0 := by omega
  have q4 := idxOf_int st.pos c
  have OC := Lib.hid hc
  go_enter Try.func70, Try.ntmps70
  go_wp2_with (with_reducible refine at_end ?_)
  refine wp_region_after (by kernel_rfl) (by kernel_rfl) ?_
  repeat (refine wpQuiet_step (fun K hK => ?_); go_simp; first | (refine hK _ ?_; clear hK K) | (apply Exists.intro; refine ⟨fun p => ?_, hK _ ?_⟩; (go_at_call 42; exact After.call p (key_any _ OC.out _)); clear hK K))
  refine wpQuiet_nil ?_
  intro w1 hb1
  go_wp2_with (with_reducible refine at_end ?_)
  unfold AtEnd
  go_returns
  exact ⟨rfl, ((Below.refl _ _).alloc (Nat.le_refl _) _).trans (hb1.mono (by simp))⟩
theorem new_any {sz : Nat} (h1 : 1 ≤ sz) (h2 : sz ≤ 4096) (w : World) :
    Calls Try.prog 44 #[.int .i64 sz] w fun e w' => ∃ tb bm, e = .returned (.tuple #[.pointer (some ⟨tb, 0, none⟩), .int .i64 0]) ∧ TabSt w' tb bm sz tabE ∧ Below w.heap.size w w' ∧ w.heap.size ≤ tb ∧ w.heap.size ≤ bm := by
  have hmm := @run_makeMap Try.prog
  have q1 : ¬(sz : Int) < 1 := by omega
  have q2 : ¬(4096 : Int) < sz := by omega
  go_enter Try.func44, Try.ntmps44
  go_wp2_with (with_reducible refine at_end ?_)
  unfold AtEnd
  go_returns
  have hm := World.ownsMap_made w Try.prog 29 rawE
  refine ⟨w.heap.size + 1, rfl, w.heap.size, ⟨?_, ⟨.map [], (hm.alloc _).mono (Nat.zero_le _), ⟨fun i _ => rfl, fun i _ => rfl, (heldN_tabE sz).symm⟩⟩, TabOk0, h1, h2⟩, by go_grown, by omega, Nat.le_refl _⟩
  have := heap_alloc_new (w.alloc (.map #[] 0)) (.cells #[.int .i64 sz, .map (some w.heap.size)] 96)
  simpa using this
theorem new_no {sz : Int} (h : sz < 1 ∨ 4096 < sz) (w : World) :
    Calls Try.prog 44 #[.int .i64 sz] w fun e w' => e = .returned (.tuple #[.pointer none, .int .i64 2]) ∧ Below w.heap.size w w' := by
  rcases h with h | h
  · go_enter Try.func44, Try.ntmps44
    go_wp2_with (with_reducible refine at_end ?_)
    unfold AtEnd
    go_returns
    exact ⟨rfl, Below.refl _ _⟩
  · have h' : ¬sz < 1 := by omega
    go_enter Try.func44, Try.ntmps44
    go_wp2_with (with_reducible refine at_end ?_)
    unfold AtEnd
    go_returns
    exact ⟨rfl, Below.refl _ _⟩
end Go.Proofs.Ytldacinldgjdcaa
