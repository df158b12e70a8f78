/- The walks of still and Same of package repeats: two positions are the same where all cells but the clocks agree. -/
import Derived.Test.YtldacinldgjdcaaAft
namespace Go.Proofs.Ytldacinldgjdcaa
open Go.RowKit
attribute [local go_sem ↓] lv37 zero37 sv37
attribute [local go_sem] run_lv37 run_zero37 run_sv37 rowFree_new rowFree_alloc setRow_new setRow_alloc aggAt_newb aggAt_old aggAt_drew aggAt_drewN posA_size oneCells_pos posA_set kindAt After.cell After.frozen After.agg
attribute [local go_sem high] run_eql37 run_neq37
set_option maxRecDepth 100000 in
set_option maxHeartbeats 400000 in
theorem still_any (c : Nat → Int) (w : World) :
    Calls Try.prog 73 #[.agg (posA c)] w fun e w' => e = .returned (.agg (posA (upd (upd c 86 0) 87 0))) ∧ Below w.heap.size w w' := by
  go_enter Try.func73, Try.ntmps73
  go_wp2_with (with_reducible refine at_end ?_)
  refine end_of (bodyPost_ret (results_agg ld37 rfl _ _ ⟨w.heap.size + 1, 0, none⟩ (posA (upd (upd c 86 0) 87 0)) rfl (by go_simp)) rfl ⟨rfl, by go_grown⟩)

def sameB (a b : Nat → Int) : Bool := eqSeg a b 0 86
theorem still_ok {c : Nat → Int} (h : PosOk c) : PosOk (upd (upd c 86 0) 87 0) := (h.upd 86 0 rfl).upd 87 0 rfl
theorem same_still (a b : Nat → Int) : eqSeg (upd (upd a 86 0) 87 0) (upd (upd b 86 0) 87 0) 0 88 = sameB a b := by
  rw [Bool.eq_iff_iff, sameB, eqSeg_iff, eqSeg_iff]
  constructor
  · intro h i hi
    have := h i (by omega)
    simp only [Nat.zero_add] at this ⊢
    rw [upd_other _ _ _ _ (by omega), upd_other _ _ _ _ (by omega), upd_other _ _ _ _ (by omega), upd_other _ _ _ _ (by omega)] at this
    exact this
  · intro h i hi
    simp only [Nat.zero_add] at h ⊢
    by_cases e : i = 87
    · subst e; rw [upd_same, upd_same]
    · rw [upd_other _ _ _ _ e, upd_other _ _ _ _ e]
      by_cases e2 : i = 86
      · subst e2; rw [upd_same, upd_same]
      · rw [upd_other _ _ _ _ e2, upd_other _ _ _ _ e2]
        exact h i (by omega)
set_option maxRecDepth 100000 in
set_option maxHeartbeats 400000 in
theorem same_any (a b : Nat → Int) (w : World) (ha : PosOk a) (hb : PosOk b) :
    Calls Try.prog 59 #[.agg (posA a), .agg (posA b)] w fun e w' => e = .returned (.bool (sameB a b)) ∧ Below w.heap.size w w' := by
  have sa := still_ok ha
  have sb := still_ok hb
  have HS := Lib.hid (same_still a b)
  clear ha hb
  go_enter Try.func59, Try.ntmps59
  go_wp2_with (with_reducible refine at_end ?_)
  refine wp_region_after (by kernel_rfl) (by kernel_rfl) ?_
  repeat (refine wpQuiet_step (fun K hK => ?_); go_simp; first | (refine hK _ ?_; clear hK K) | (apply Exists.intro; refine ⟨fun p => ?_, hK _ ?_⟩; (go_at_call 73; exact After.call p (still_any _ _)); clear hK K))
  refine wpQuiet_nil ?_
  intro w1 hb1
  go_wp2_with (with_reducible refine at_end ?_)
  unfold AtEnd
  go_returns
  refine ⟨ret_bool HS.out, ?_⟩
  exact (((Below.refl _ _).alloc (Nat.le_refl _) _).alloc (by simp) _).trans (hb1.mono (by simp; omega))
end Go.Proofs.Ytldacinldgjdcaa
