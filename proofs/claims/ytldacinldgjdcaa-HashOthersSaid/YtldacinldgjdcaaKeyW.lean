/- The examples of the chapter 9, as the law asks them: all true. -/
import Derived.Test.YtldacinldgjdcaaKeyK

namespace Go.Proofs.Ytldacinldgjdcaa
open Go.RowKit
attribute [local go_sem ↓] lv37 zero37
attribute [local go_sem] run_lv37 run_zero37 posA_size

theorem aw_part : partV 0 0 = 16294208416658607535 := by decide +kernel
theorem aw_key : (keyV pos0 == xr (xr (xr (xr (xr (partV 3 0) (partV 4 0)) (partV 4 16)) (partV 4 32)) (partV 4 48)) (partV 8 0)) = true := by decide +kernel
set_option maxRecDepth 100000 in
set_option maxHeartbeats 1000000 in
theorem awake9_any (w : World) :
    Calls Try.prog 54 #[] w fun e w' => e = .returned (.bool true) ∧ Below w.heap.size w w' := by
  have k1 : (partV 0 0 == 16294208416658607535) = true := by rw [aw_part]; rfl
  have k2 : pieceV 0 5 = 0 := rfl
  have k3 : pieceV 7 5 = 0 := rfl
  have k4 : pieceV 1 64 = 0 := rfl
  have k5 : turnV 0 = 0 := rfl
  have k6 : passV (-1) = 0 := rfl
  have k7 : rookV 0 0 (-1) = 0 := rfl
  have k8 : pockV 0 1 0 = 0 := rfl
  have k9 : pieceV 1 8 = partV 1 72 := rfl
  have k10 := aw_key
  go_enter Try.func54, Try.ntmps54
  go_wp2_with (first | (with_reducible refine at_end ?_) | (go_at_call 26; refine (part_any _ _ _).mono ?_; rintro e w1 ⟨rfl, hb⟩) | (go_at_call 28; refine (piece_any _ _ _ (by omega) (by omega)).mono ?_; rintro e w1 ⟨rfl, hb⟩) | (go_at_call 30; refine (turn_any _ _ (by omega) (by omega)).mono ?_; rintro e w1 ⟨rfl, hb⟩) | (go_at_call 32; refine (pass_any _ _).mono ?_; rintro e w1 ⟨rfl, hb⟩) | (go_at_call 34; refine (rook_any _ _ _ _ (by omega) (by omega)).mono ?_; rintro e w1 ⟨rfl, hb⟩) | (go_at_call 36; refine (pock_any _ _ _ _ (by omega) (by omega) (by omega) (by omega) (by omega) (by omega)).mono ?_; rintro e w1 ⟨rfl, hb⟩) | (go_at_call 42; refine (key_any _ PosOk0 _).mono ?_; rintro e w1 ⟨rfl, hb⟩))
  unfold AtEnd
  go_returns
  refine ⟨rfl, ?_⟩
  repeat (first | assumption | exact Below.refl _ _ | refine below_join ?_ (by assumption))
end Go.Proofs.Ytldacinldgjdcaa
