/- The walk of the reference's Groups: of each position the first one that is alike to it, in a row of the call's own. -/
import Derived.Test.YtldacinldgjdcaaGrpM
import Derived.Maps.GroupsBeside
namespace Go.Proofs.Ytldacinldgjdcaa
open Go.RowKit Go.Maps
attribute [local go_sem ↓] lv37 zero37 sv37
attribute [local go_sem] run_lv37 run_zero37 run_sv37 rowFree_new rowFree_alloc setRow_new setRow_alloc aggAt_newb aggAt_old aggAt_drew aggAt_drewN posA_size oneCells_pos After.cell After.frozen After.agg add_block

theorem info3 : (Try.prog.info? 3).map (fun i => (i.zero, i.size, i.bytes)) = some (some (.int .i64 0), 1, 8) := by kernel_rfl
theorem grown_of {w w' : World} (h : Below w.heap.size w w') : w.grownBy w' none := ⟨h.os, h.tape, h.output, h.size, fun k hk _ => h.block k hk⟩
theorem ints_below {w w' : World} {B : Nat} {v : Value} {zs : List Int} (h : w.ownsInts B 3 .i64 v zs) (hb : Below w.heap.size w w') : w'.ownsInts B 3 .i64 v zs :=
  h.kept (grown_of hb) (by cases v.ownBlock <;> simp)
set_option maxRecDepth 100000 in
set_option maxHeartbeats 1000000 in
theorem refgroups_any (A : Option Addr) (n cap : Nat) (ps : Nat → Nat → Int) (w : World) (hp : PosRow w A n ps) (hn : n ≤ 1000000) :
    Calls Try.prog 56 #[.slice A n cap] w fun e w' => ∃ v, e = .returned v ∧ w'.ownsInts w.heap.size 3 .i64 v (firstsL ps n) ∧ Below w.heap.size w w' := by
  obtain ⟨i0, hi, hz0, hz1, hz2⟩ := info_parts info3
  go_enter Try.func56, Try.ntmps56
  go_wp2_with (with_reducible refine at_end ?_)
  go_loopw [3, 4] (fun x i wr => ∃ k : Nat, k ≤ n ∧ i = .int .i64 k ∧ wr.ownsInts w.heap.size 3 .i64 x (firstsL ps k) ∧ Below w.heap.size w wr) (fun _ i _ => n - (intOf i).toNat)
  case atStart => exact ⟨0, by omega, rfl, World.ownsInts_nil _ _ _ _, Below.refl _ _⟩
  case round =>
    obtain ⟨k, hk, rfl, hoi, hbw⟩ := hrel
    by_cases hlt : k < n
    · have q1 : (k : Int) < (n : Int) := by omega
      go_wp2_with (with_reducible refine at_end ?_)
      go_loopw [5] (fun s wx => ∃ j : Nat, j ≤ firstOf ps k ∧ s = .int .i64 j ∧ Below wr.heap.size wr wx) (fun s _ => firstOf ps k - (intOf s).toNat)
      case atStart => exact ⟨0, by omega, rfl, Below.refl _ _⟩
      case round =>
        obtain ⟨j, hj, rfl, hbx⟩ := hrel
        have hfl := firstOf_le ps k
        obtain ⟨ad, rfl, had, hrow⟩ := ((hp.below hbw).below hbx).row (by omega)
        have h1 := hrow j (by omega)
        have h2 := hrow k hlt
        have o1 := hp.ok j (by omega)
        have o2 := hp.ok k hlt
        clear hrow
        have q2 : (j : Int) < (n : Int) := by omega
        by_cases hjf : j < firstOf ps k
        · have hs := firstOf_min ps k j hjf
          go_wp2_with (with_reducible refine at_end ?_)
          refine wp_region_after (by kernel_rfl) (by kernel_rfl) ?_
          repeat (refine wpQuiet_step (fun K hK => ?_); go_simp; first | (refine hK _ ?_; clear hK K) | (apply Exists.intro; refine ⟨fun p => ?_, hK _ ?_⟩; (go_at_call 60; exact After.call p (refsame_any _ _ _ o1 o2)); clear hK K))
          refine wpQuiet_nil ?_
          intro w1 hb1
          have hbx1 := below_join hbx (hb1.mono (Nat.le_refl _))
          go_wp2_with (with_reducible refine at_end ?_)
          go_roundw
          case rel => exact ⟨j + 1, by omega, by go_num, hbx1⟩
          case measure => simp [intOf]; omega
        · obtain rfl : j = firstOf ps k := by omega
          have hs := firstOf_same ps k
          go_wp2_with (with_reducible refine at_end ?_)
          refine wp_region_after (by kernel_rfl) (by kernel_rfl) ?_
          repeat (refine wpQuiet_step (fun K hK => ?_); go_simp; first | (refine hK _ ?_; clear hK K) | (apply Exists.intro; refine ⟨fun p => ?_, hK _ ?_⟩; (go_at_call 60; exact After.call p (refsame_any _ _ _ o1 o2)); clear hK K))
          refine wpQuiet_nil ?_
          intro w1 hb1
          have hbx1 := below_join hbx (hb1.mono (Nat.le_refl _))
          have hoi1 := ints_below hoi hbx1
          have hbw1 := below_join hbw hbx1
          clear q2 h1 h2 hs
          go_wp2_with (first | (at_builtin; refine wpList_append_own_at _ rfl _ _ 73 rfl w.heap.size 3 i0 (.int .i64 0) 1 8 Try.underlying73 hi hz0 hz1 hz2 rfl (by decide) _ _ _ rfl (hoi1.1.alloc _) ⟨w1.heap.size, 0, none⟩ 1 1 [.int .i64 (firstOf ps k)] rfl rfl (cell_one_new _ _ _) (ints_oneCell .i64 [(firstOf ps k : Int)]) (by simp only [firstsL_len]; unfold maxLen; omega) (by simp only [firstsL_len]; omega) (by simp; have := hbw1.size; omega) ?_; intro v' w2 hown' hgrow hnil hloc) | (with_reducible refine at_end ?_))
          go_roundw
          case rel =>
            refine ⟨k + 1, by omega, by go_num, ?_, ?_⟩
            · rw [firstsL_succ]
              exact hoi1.appended hown' (WalkArith.wf_i64 (by omega))
            · exact (hbw1.alloc hbw1.size _).grown hgrow (by simp; have := hbw1.size; omega) (fun g hg => (hoi1.1.lt g hg).1)
          case measure => simp [intOf]; omega
    · obtain rfl : k = n := by omega
      have q1 : ¬(k : Int) < (k : Int) := by omega
      go_wp2_with (with_reducible refine at_end ?_)
      unfold AtEnd
      go_returns
      exact ⟨_, rfl, hoi, hbw⟩
end Go.Proofs.Ytldacinldgjdcaa
