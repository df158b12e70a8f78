/- The walk of the law RepeatsTimes: it returns true; of what was in memory nothing turns. -/
import Derived.Test.YtldacinldgjdcaaRow
namespace Go.Proofs.Ytldacinldgjdcaa
open Go.RowKit
attribute [local go_sem ↓] lv37 zero37 sv37
attribute [local go_sem] run_lv37 run_zero37 run_sv37 rowFree_new rowFree_alloc setRow_new setRow_alloc aggAt_newb aggAt_old aggAt_drew aggAt_drewN posA_size oneCells_pos posA_set After.cell After.frozen After.agg add_block
attribute [local go_sem high] run_eql37 run_neq37

/-- What is known of a slice of positions that came in. -/
structure PosSl (w : World) (A : Option Addr) (n cap : Nat) (ps : Nat → Nat → Int) : Prop where
  rows : PosRow w A n ps
  le : n ≤ cap
  max : cap ≤ maxLen
  nil : A = none → n = 0 ∧ cap = 0
theorem eqSeg_refl (a : Nat → Int) (off n : Nat) : eqSeg a a off n = true := eqSeg_iff.2 fun _ _ => rfl
theorem run_neq25 (n : Nat) (w : World) : (binOp .neq 25 (.agg (ofV n)) (.agg (ofV n))).run Try.prog w = .ok (.bool false) w := by
  unfold ofV
  split <;> simp [go_sem]
attribute [local go_sem high] run_neq25
theorem psJoin0 (qs ps : Nat → Nat → Int) : psJoin 0 qs ps = ps := by funext i; simp [psJoin]
set_option maxRecDepth 100000 in
set_option maxHeartbeats 1000000 in
theorem repeatsTimes_walk (A : Option Addr) (n cap : Nat) (ps : Nat → Nat → Int) (w : World) (hp : PosSl w A n cap ps) :
    Calls Try.prog 3 #[.slice A n cap] w fun e w' => e = .returned (.bool true) ∧ Below w.heap.size w w' := by
  obtain ⟨hr, hle, hmax, hnil⟩ := hp
  unfold maxLen at hmax
  by_cases hbig : 100 < n
  · go_enter Try.func3, Try.ntmps3
    go_wp2_with (with_reducible refine at_end ?_)
    unfold AtEnd
    go_returns
    exact ⟨rfl, Below.refl _ _⟩
  · have HN := Lib.hid hnil
    clear hnil
    go_enter Try.func3, Try.ntmps3
    go_wp2_with (first | (with_reducible refine at_end ?_) | (at_builtin; refine append_ps _ rfl _ _ rfl w.heap.size (.slice none 0 0) 0 ps rfl (World.ownsRow_nil _ _ _ _) A n cap ps rfl HN.out hr (by omega) (Nat.le_refl _) ?_))
    intro v1 w1 hown hgrow hat
    rw [psJoin0] at hown
    obtain ⟨A1, cap1, rfl, hnil1, m1⟩ := PosRow.of_own hown hr.ok
    have hb1 : Below w.heap.size w w1 := (Below.refl _ _).grown hgrow (Nat.le_refl _) (by simp [Value.ownBlock])
    have r1 := hr.below hb1
    have ok := hr.ok
    have OK := Lib.hid ok
    clear hown hgrow hat hnil1 hr ok
    have hq : n ≤ 1000000 := by omega
    go_wp2_with (first | (with_reducible refine at_end ?_) | (go_at_call 21; refine (reftimes_any _ _ _ ps _ r1 hq).mono ?_; rintro e w2 ⟨rfl, hb2⟩; have r2 := r1.below hb2; have m2 := m1.below hb2) | (go_at_call 22; refine (times_any _ _ _ ps _ m2 hq).mono ?_; rintro e w3 ⟨rfl, hb3⟩; have r3 := r2.below hb3; have m3 := m2.below hb3) | (go_at_call 23; refine (of_any _ _ _ ps _ m3 hq).mono ?_; rintro e w4 ⟨rfl, hb4⟩; have r4 := r3.below hb4; have m4 := m3.below hb4) | (go_at_call 24; refine (refof_any _ _ _ ps _ r4 hq).mono ?_; rintro e w5 ⟨rfl, hb5⟩; have r5 := r4.below hb5; have m5 := m4.below hb5) | (go_at_call 25; refine (claim_any _ _ _ ps _ m5 hq).mono ?_; rintro e w6 ⟨rfl, hb6⟩; have r6 := r5.below hb6; have m6 := m5.below hb6))
    have hbw6 := below_join hb1 (below_join hb2 (below_join hb3 (below_join hb4 (below_join hb5 hb6))))
    clear r1 m1 r2 m2 r3 m3 r4 m4 r5 m5
    go_loopw [5] (fun i wr => ∃ k : Nat, k ≤ n ∧ i = .int .i64 k ∧ Below w6.heap.size w6 wr) (fun i _ => n - (intOf i).toNat)
    case atStart => exact ⟨0, by omega, rfl, Below.refl _ _⟩
    case round =>
      obtain ⟨k, hk, rfl, hbr⟩ := hrel
      by_cases hlt : k < n
      · obtain ⟨a0, rfl, ha0, hrow0⟩ := (r6.below hbr).row (by omega)
        obtain ⟨a1, rfl, ha1, hrow1⟩ := (m6.below hbr).row (by omega)
        have e0 := hrow0 k hlt
        have e1 := hrow1 k hlt
        have o0 := OK.out k hlt
        have heq := eqSeg_refl (ps k) 0 88
        have q1 : (k : Int) < (n : Int) := by omega
        clear hrow0 hrow1
        go_wp2_with (with_reducible refine at_end ?_)
        refine wp_region_after (by kernel_rfl) (by kernel_rfl) ?_
        repeat (refine wpQuiet_step (fun K hK => ?_); go_simp; (refine hK _ ?_; clear hK K))
        refine wpQuiet_nil ?_
        intro w7 hb7
        go_wp2_with (with_reducible refine at_end ?_)
        go_roundw
        case rel => exact ⟨k + 1, by omega, by go_num, below_join hbr hb7⟩
        case measure => simp [intOf]; omega
      · go_wp2_with (with_reducible refine at_end ?_)
        unfold AtEnd
        go_returns
        exact ⟨rfl, below_join hbw6 hbr⟩
end Go.Proofs.Ytldacinldgjdcaa
