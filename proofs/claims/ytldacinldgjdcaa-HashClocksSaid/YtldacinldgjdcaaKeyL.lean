/- The walk of the law HashClocks: it returns true; of what was in memory nothing turns. -/
import Derived.Test.YtldacinldgjdcaaKeyW
import Derived.Test.YtldacinldgjdcaaKeyX
namespace Go.Proofs.Ytldacinldgjdcaa
open Go.RowKit
attribute [local go_sem ↓] lv37 zero37 sv37
attribute [local go_sem] run_lv37 run_zero37 run_sv37 rowFree_new rowFree_alloc setRow_new setRow_alloc aggAt_newb aggAt_old aggAt_drew aggAt_drewN posA_size oneCells_pos posA_set kindAt After.cell After.frozen After.agg add_block
set_option maxRecDepth 100000 in
set_option maxHeartbeats 1000000 in
theorem hashClocks_walk (c : Nat → Int) (half full : Int) (w : World) (hc : PosOk c) (wh : (Lit.int .i64 half).wf = true) (wf : (Lit.int .i64 full).wf = true) :
    Calls Try.prog 11 #[.agg (posA c), .int .i64 half, .int .i64 full] w fun e w' => e = .returned (.bool true) ∧ Below w.heap.size w w' := by
  have hq := (hc.upd 86 half wh).upd 87 full wf
  have hk : keyV (upd (upd c 86 half) 87 full) = keyV c := keyV_congr fun i hi => by rw [upd_other _ _ _ _ (by omega), upd_other _ _ _ _ (by omega)]
  have HC := Lib.hid hc
  have HQ := Lib.hid hq
  clear hc hq
  go_enter Try.func11, Try.ntmps11
  go_wp2_with (first | (with_reducible refine at_end ?_) | (go_at_call 54; refine (awake9_any _).mono ?_; rintro e w1 ⟨rfl, hb⟩; have hA : aggAt w1 ⟨w.heap.size, 0, none⟩ 88 = some (posA c) := aggAt_below (aggAt_new w (posA c) 37 88 (posA_size c)) hb (by simp); have hs : w.heap.size < w1.heap.size := Nat.lt_of_lt_of_le (by simp) hb.size; have hbw : Below w.heap.size w w1 := ((Below.refl _ _).alloc (Nat.le_refl _) _).trans (hb.mono (by simp)); clear hb))
  refine wp_region_after (by kernel_rfl) (by kernel_rfl) ?_
  repeat (refine wpQuiet_step (fun K hK => ?_); go_simp; first | (refine hK _ ?_; clear hK K) | (apply Exists.intro; refine ⟨fun p => ?_, hK _ ?_⟩; (go_at_call 42; exact After.call p (key_any _ (by with_reducible first | exact HC.out | exact HQ.out) _)); clear hK K))
  refine wpQuiet_nil ?_
  intro w2 hb2
  go_wp2_with (with_reducible refine at_end ?_)
  unfold AtEnd
  go_returns
  exact ⟨ret_bool (by simp), (hbw.alloc (Nat.le_of_lt hs) _).trans (hb2.mono (by simp; omega))⟩
end Go.Proofs.Ytldacinldgjdcaa
