/- The walk of the law HashNothing: it returns true; of what was in memory nothing turns. -/
import Derived.Test.YtldacinldgjdcaaKeyW
import Derived.Test.YtldacinldgjdcaaKeyX
import Derived.Deep.Cut
namespace Go.Proofs.Ytldacinldgjdcaa
open Go.RowKit

theorem zero_of {f : FuncId} {args : Array Value} {v : Int} {w : World} (hv : v = 0) (h : Calls Try.prog f args w fun e w' => e = .returned (.int .u64 v) ∧ Below w.heap.size w w') :
    Calls Try.prog f args w fun e w' => e = .returned (.int .u64 0) ∧ Below w.heap.size w w' := by subst hv; exact h
theorem piece_zero (p s : Int) (h : ¬(0 ≤ s ∧ s < 64) ∨ ¬((1 ≤ p ∧ p ≤ 6) ∨ (9 ≤ p ∧ p ≤ 14))) : pieceV p s = 0 := by
  unfold pieceV
  rw [if_neg]
  simp only [pieceB, withinB, Bool.and_eq_true, decide_eq_true_eq]
  omega
theorem pass_zero (s : Int) (h : ¬(0 ≤ s ∧ s < 64)) : passV s = 0 := by
  unfold passV
  rw [if_neg]
  simp only [withinB, decide_eq_true_eq]
  omega
theorem rook_zero (c d f : Int) (h : ¬(c ≤ 1 ∧ (0 ≤ d ∧ d < 2) ∧ (0 ≤ f ∧ f < 8))) : rookV c d f = 0 := by
  unfold rookV
  rw [if_neg]
  simp only [rookB, withinB, Bool.and_eq_true, decide_eq_true_eq]
  omega
theorem turn_zero (c : Int) (h : ¬c = 1) : turnV c = 0 := by
  unfold turnV
  rw [if_neg]
  simpa using h
theorem pock_zero (c k n : Int) (h : ¬(c ≤ 1 ∧ 1 ≤ k ∧ k ≤ 5 ∧ 0 < n)) : pockV c k n = 0 := by
  unfold pockV
  rw [if_neg]
  simpa [pockB] using h
theorem check_zero (c n : Int) (h : ¬(c ≤ 1 ∧ 0 < n)) : checkV c n = 0 := by
  unfold checkV
  rw [if_neg]
  simpa using h
theorem prom_zero : promV 0 = 0 := by decide +kernel
set_option maxRecDepth 100000 in
set_option maxHeartbeats 1000000 in
theorem hashNothing_walk (piece color kind s side file : Int) (w : World) (wp : (Lit.int .u8 piece).wf = true) (wc : (Lit.int .u8 color).wf = true) (wk : (Lit.int .u8 kind).wf = true) (ws : (Lit.int .i64 s).wf = true) (wd : (Lit.int .i64 side).wf = true) (wf : (Lit.int .i64 file).wf = true) :
    Calls Try.prog 12 #[.int .u8 piece, .int .u8 color, .int .u8 kind, .int .i64 s, .int .i64 side, .int .i64 file] w fun e w' => e = .returned (.bool true) ∧ Below w.heap.size w w' := by
  have hp := u8_of wp
  have hc := u8_of wc
  have hk := u8_of wk
  have hs := i64_of ws
  have hd := i64_of wd
  have hf := i64_of wf
  have ht : piece.tmod 8 = piece % 8 := Int.tmod_eq_emod_of_nonneg hp.1
  clear wp wc wk ws wd wf
  go_enter Try.func12, Try.ntmps12
  go_upto_region 3 with (first | (with_reducible refine at_end ?_) | (go_at_call 54; refine (awake9_any _).mono ?_; rintro e w1 ⟨rfl, hb⟩))
  go_cut [13] from 14 (fun s13 w' => s13 = .bool (decide (0 ≤ s ∧ s < 64)) ∧ Below w.heap.size w w')
  case first =>
    go_wp2
    all_goals go_meet
    all_goals (case rel => exact ⟨by first | rfl | (congr 1; (first | (simp; omega) | simp [*])), hb⟩)
  case rest =>
    obtain ⟨rfl, hb1⟩ := hcut
    clear hb
    go_upto_region 4 with (fail)
    go_cut [54] from 13 (fun s54 w' => s54 = .bool false ∧ Below w.heap.size w w')
    case first =>
      go_wp2_with (first | (go_at_call 28; refine (zero_of (piece_zero _ _ (by omega)) (piece_any _ _ _ (by omega) (by omega))).mono ?_; rintro e w1 ⟨rfl, hb⟩) | (go_at_call 32; refine (zero_of (pass_zero _ (by omega)) (pass_any _ _)).mono ?_; rintro e w1 ⟨rfl, hb⟩))
      all_goals go_meet
      all_goals (case rel => exact ⟨rfl, by repeat (first | assumption | refine below_join ?_ (by assumption))⟩)
    case rest =>
      obtain ⟨rfl, hb2⟩ := hcut
      clear hb1 ht hp hs
      go_upto_region 6 with (fail)
      go_cut [1, 88] from 13 (fun s1 s88 w' => s1 = .int .u8 color ∧ s88 = .bool false ∧ Below w.heap.size w w')
      case first =>
        go_wp2_with (first | (go_at_call 34; refine (zero_of (rook_zero _ _ _ (by omega)) (rook_any _ _ _ _ (by omega) (by omega))).mono ?_; rintro e w1 ⟨rfl, hb⟩) | (go_at_call 30; refine (zero_of (turn_zero _ (by omega)) (turn_any _ _ (by omega) (by omega))).mono ?_; rintro e w1 ⟨rfl, hb⟩))
        all_goals go_meet
        all_goals (case rel => exact ⟨by first | rfl | simp [*], rfl, by repeat (first | assumption | refine below_join ?_ (by assumption))⟩)
      case rest =>
        obtain ⟨rfl, rfl, hb3⟩ := hcut
        clear hb2 hd hf
        go_wp2_with (first | (with_reducible refine at_end ?_) | (go_at_call 36; refine (zero_of (pock_zero _ _ _ (by omega)) (pock_any _ _ _ _ (by omega) (by omega) (by omega) (by omega) (by omega) (by omega))).mono ?_; rintro e w1 ⟨rfl, hb⟩) | (go_at_call 38; refine (zero_of (check_zero _ _ (by omega)) (check_any _ _ _ (by omega) (by omega) (by omega) (by omega))).mono ?_; rintro e w1 ⟨rfl, hb⟩) | (go_at_call 40; refine (zero_of prom_zero (prom_any _ _ R64_0)).mono ?_; rintro e w1 ⟨rfl, hb⟩))
        all_goals (unfold AtEnd; go_returns; exact ⟨rfl, by repeat (first | assumption | refine below_join ?_ (by assumption))⟩)
end Go.Proofs.Ytldacinldgjdcaa
