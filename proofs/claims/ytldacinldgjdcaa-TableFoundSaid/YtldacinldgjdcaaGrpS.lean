/- The walk of the comparison of two rows of numbers that tell the same: it tells yes. -/
import Derived.Test.YtldacinldgjdcaaGrpA
namespace Go.Proofs.Ytldacinldgjdcaa
open Go.RowKit Go.Maps
attribute [local go_sem] aggAt_drew aggAt_drewN After.cell After.frozen add_block
set_option maxRecDepth 100000 in
set_option maxHeartbeats 1000000 in
theorem same01_any (v u : Value) (zs : List Int) (B C : Nat) (w : World) (hv : w.ownsInts B 3 .i64 v zs) (hu : w.ownsInts C 3 .i64 u zs) (hz : zs.length ≤ 1000000) :
    Calls Try.prog 58 #[v, u] w fun e w' => e = .returned (.bool true) ∧ Below w.heap.size w w' := by
  obtain ⟨A1, c1, rfl, hv1, hv2⟩ := ints_shape hv
  obtain ⟨A2, c2, rfl, hu1, hu2⟩ := ints_shape hu
  clear hv hu
  obtain ⟨n, hn⟩ : ∃ n, zs.length = n := ⟨_, rfl⟩
  have HZ := Lib.hid hn
  simp only [hn] at hv1 hu1 hz ⊢
  clear hn
  go_enter Try.func58, Try.ntmps58
  go_wp2_with (with_reducible refine at_end ?_)
  go_loopw [5] (fun i wr => ∃ k : Nat, k ≤ n ∧ i = .int .i64 k ∧ Below w.heap.size w wr) (fun i _ => n - (intOf i).toNat)
  case atStart => exact ⟨0, by omega, rfl, Below.refl _ _⟩
  case round =>
    obtain ⟨k, hk, rfl, hbw⟩ := hrel
    by_cases hlt : k < n
    · obtain ⟨g1, e1, _, hg1⟩ := hv1 (by omega)
      obtain ⟨g2, e2, _, hg2⟩ := hu1 (by omega)
      subst e1 e2
      obtain ⟨x, hx⟩ : ∃ x, zs[k]? = some x := ⟨_, List.getElem?_eq_getElem (by have := HZ.out; omega)⟩
      have x1 := (hbw.cell (p := ⟨g1, k, none⟩) hg1).trans (hv2 g1 k x rfl hx)
      have x2 := (hbw.cell (p := ⟨g2, k, none⟩) hg2).trans (hu2 g2 k x rfl hx)
      have l1 := Nat.lt_of_lt_of_le hg1 hbw.size
      have l2 := Nat.lt_of_lt_of_le hg2 hbw.size
      clear hx
      have q1 : (k : Int) < (n : Int) := by omega
      go_wp2_with (with_reducible refine at_end ?_)
      refine wp_region_after (by kernel_rfl) (by kernel_rfl) ?_
      repeat (refine wpQuiet_step (fun K hK => ?_); go_simp; refine hK _ ?_; clear hK K)
      refine wpQuiet_nil ?_
      intro w1 hb1
      have hbw1 := below_join hbw (hb1.mono (Nat.le_refl _))
      clear x1 x2
      go_wp2_with (with_reducible refine at_end ?_)
      go_roundw
      case rel => exact ⟨k + 1, by omega, by go_num, hbw1⟩
      case measure => simp [intOf]; omega
    · obtain rfl : k = n := by omega
      have q1 : ¬(k : Int) < (k : Int) := by omega
      go_wp2_with (with_reducible refine at_end ?_)
      unfold AtEnd
      go_returns
      exact ⟨rfl, hbw⟩
end Go.Proofs.Ytldacinldgjdcaa
