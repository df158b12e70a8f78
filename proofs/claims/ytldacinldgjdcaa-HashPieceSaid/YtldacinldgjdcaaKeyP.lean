/- The walk of the law HashPiece: it returns true; of what was in memory nothing turns. -/
import Derived.Test.YtldacinldgjdcaaKeyW
import Derived.Test.YtldacinldgjdcaaKeyX
namespace Go.Proofs.Ytldacinldgjdcaa
open Go.RowKit
attribute [local go_sem ↓] lv37 zero37 sv37
attribute [local go_sem] run_lv37 run_zero37 run_sv37 rowFree_new rowFree_alloc setRow_new setRow_alloc aggAt_newb aggAt_old aggAt_drew aggAt_drewN posA_size oneCells_pos posA_set After.cell After.frozen After.agg add_block
set_option maxRecDepth 100000 in
set_option maxHeartbeats 1000000 in
theorem hashPiece_walk (c : Nat → Int) (s piece : Int) (w : World) (hc : PosOk c) (_ : (Lit.int .i64 s).wf = true) (wp : (Lit.int .u8 piece).wf = true) :
    Calls Try.prog 8 #[.agg (posA c), .int .i64 s, .int .u8 piece] w fun e w' => e = .returned (.bool true) ∧ Below w.heap.size w w' := by
  obtain ⟨k, hk, q1⟩ : ∃ k : Nat, k < 64 ∧ wrap64 ((IntKind.u64.wrap s).tmod 64) = (k : Int) := by
    have h1 : 0 ≤ IntKind.u64.wrap s := by rw [IntKind.wrap_u64]; omega
    have h2 : (IntKind.u64.wrap s).tmod 64 = IntKind.u64.wrap s % 64 := Int.tmod_eq_emod_of_nonneg h1
    refine ⟨(IntKind.u64.wrap s % 64).toNat, by omega, ?_⟩
    rw [h2, IntWalk.wrap64_in _ (by omega)]
    omega
  have q2 : (k : Int) < 64 := by omega
  have q3 : 1 + k < 88 := by omega
  have kk : kindAt (1 + k) = .u8 := kind_u8 _ (by omega)
  have q4 : (posA c)[1 + k]? = some (.int .u8 (c (1 + k))) := by rw [posA_get _ _ q3, kk]
  have hK : keyV (upd c (1 + k) piece) = xr (xr (keyV c) (pieceV (c (1 + k)) k)) (pieceV piece k) := by rw [keyV_upd c (1 + k) (by omega), cellV_board k hk, cellV_board k hk]
  have hc1 := ok_u8 hc (1 + k) q3 kk
  have hp1 := u8_of wp
  have HC := Lib.hid hc
  have HQ := Lib.hid (hc.upd (1 + k) piece (by rw [kk]; exact wp))
  clear hc
  go_enter Try.func8, Try.ntmps8
  go_wp2_with (first | (with_reducible refine at_end ?_) | (go_at_call 54; refine (awake9_any _).mono ?_; rintro e w1 ⟨rfl, hb⟩; have hA : aggAt w1 ⟨w.heap.size, 0, none⟩ 88 = some (posA c) := aggAt_below (aggAt_new w (posA c) 37 88 (posA_size c)) hb (by simp); have hC : ∀ o, w1.cell? ⟨w.heap.size, o, none⟩ = (posA c)[o]? := ((InBlock.new w c).below hb (by simp)).cell; have hs : w.heap.size < w1.heap.size := Nat.lt_of_lt_of_le (by simp) hb.size; have hbw : Below w.heap.size w w1 := ((Below.refl _ _).alloc (Nat.le_refl _) _).trans (hb.mono (by simp)); clear hb))
  simp only [q1]
  have hD : w1.cell? ⟨w.heap.size, 1 + k, none⟩ = some (.int .u8 (c (1 + k))) := (hC _).trans q4
  clear q1 q3 q4 hC
  refine wp_region_after (by kernel_rfl) (by kernel_rfl) ?_
  repeat (refine wpQuiet_step (fun K hK => ?_); go_simp; first | (refine hK _ ?_; clear hK K) | (apply Exists.intro; refine ⟨fun p => ?_, hK _ ?_⟩; (first | (go_at_call 42; exact After.call p (key_any _ (by with_reducible first | exact HC.out | exact HQ.out) _)) | (go_at_call 28; exact After.call p (piece_any _ _ _ (by with_reducible first | exact hc1.1 | exact hp1.1) (by with_reducible first | exact hc1.2 | exact hp1.2)))); clear hK K))
  refine wpQuiet_nil ?_
  intro w2 hb2
  go_wp2_with (with_reducible refine at_end ?_)
  unfold AtEnd
  go_returns
  exact ⟨ret_bool (by simp), (hbw.alloc (Nat.le_of_lt hs) _).trans (hb2.mono (by simp; omega))⟩
end Go.Proofs.Ytldacinldgjdcaa
