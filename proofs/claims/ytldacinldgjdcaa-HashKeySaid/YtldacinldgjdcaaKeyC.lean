/- The walk of the law HashKey: it returns true; of what was in memory nothing turns. -/
import Derived.Test.YtldacinldgjdcaaKeyR
namespace Go.Proofs.Ytldacinldgjdcaa
open Go.RowKit
attribute [local go_sem ↓] lv37
attribute [local go_sem] run_lv37 aggAt_newb aggAt_old aggAt_drew aggAt_drewN posA_size After.cell After.frozen After.agg
set_option maxRecDepth 100000 in
set_option maxHeartbeats 1000000 in
theorem hashKey_walk (c : Nat → Int) (w : World) (hc : PosOk c) :
    Calls Try.prog 6 #[.agg (posA c)] w fun e w' => e = .returned (.bool true) ∧ Below w.heap.size w w' := by
  have HC := Lib.hid hc
  clear hc
  go_enter Try.func6, Try.ntmps6
  go_wp2_with (with_reducible refine at_end ?_)
  refine wp_region_after (by kernel_rfl) (by kernel_rfl) ?_
  repeat (refine wpQuiet_step (fun K hK => ?_); go_simp; first | (refine hK _ ?_; clear hK K) | (apply Exists.intro; refine ⟨fun p => ?_, hK _ ?_⟩; (first | (go_at_call 42; exact After.call p (key_any _ HC.out _)) | (go_at_call 43; exact After.call p (refkey_any _ HC.out _))); clear hK K))
  refine wpQuiet_nil ?_
  intro w1 hb1
  go_wp2_with (with_reducible refine at_end ?_)
  unfold AtEnd
  go_returns
  exact ⟨ret_bool (by simp), ((Below.refl _ _).alloc (Nat.le_refl _) _).trans (hb1.mono (by simp))⟩
end Go.Proofs.Ytldacinldgjdcaa
