/- The walks of Times, Of, Claim and of their references: how often a row's last position has come. -/
import Derived.Test.YtldacinldgjdcaaSameC
namespace Go.Proofs.Ytldacinldgjdcaa
open Go.RowKit
attribute [local go_sem ↓] lv37 zero37 sv37 sv25
attribute [local go_sem] run_lv37 run_zero37 run_sv37 run_sv25 rowFree_new rowFree_alloc setRow_new setRow_alloc aggAt_newb aggAt_old aggAt_drew aggAt_drewN posA_size oneCells_pos posA_set After.cell After.frozen After.agg add_block

/-- A slice of positions: its elements lie one behind the other. -/
structure PosRow (w : World) (A : Option Addr) (n : Nat) (ps : Nat → Nat → Int) : Prop where
  ok : ∀ i, i < n → PosOk (ps i)
  row : 0 < n → ∃ ad, A = some ad ∧ ad.block < w.heap.size ∧ ∀ i, i < n → aggAt w (ad.add (i * 88)) 88 = some (posA (ps i))
theorem PosRow.below {w w' : World} {A : Option Addr} {n : Nat} {ps : Nat → Nat → Int} (h : PosRow w A n ps) (hb : Below w.heap.size w w') : PosRow w' A n ps :=
  ⟨h.ok, fun hn => by
    obtain ⟨ad, h1, h2, h3⟩ := h.row hn
    exact ⟨ad, h1, Nat.lt_of_lt_of_le h2 hb.size, fun i hi => aggAt_below (h3 i hi) hb (by rw [add_block]; exact h2)⟩⟩
def timesTo (ps : Nat → Nat → Int) (n k : Nat) : Nat := ((List.range k).filter fun i => sameB (ps i) (ps (n - 1))).length
theorem timesTo_yes (ps : Nat → Nat → Int) (n k : Nat) (h : sameB (ps k) (ps (n - 1)) = true) : timesTo ps n (k + 1) = timesTo ps n k + 1 := by
  simp [timesTo, List.range_succ, h]
theorem timesTo_no (ps : Nat → Nat → Int) (n k : Nat) (h : sameB (ps k) (ps (n - 1)) = false) : timesTo ps n (k + 1) = timesTo ps n k := by
  simp [timesTo, List.range_succ, h]
theorem timesTo_le (ps : Nat → Nat → Int) (n k : Nat) : timesTo ps n k ≤ k := by
  have := List.length_filter_le (fun i => sameB (ps i) (ps (n - 1))) (List.range k); simpa [timesTo] using this
set_option maxRecDepth 100000 in
set_option maxHeartbeats 1000000 in
theorem reftimes_any (A : Option Addr) (n cap : Nat) (ps : Nat → Nat → Int) (w : World) (hp : PosRow w A n ps) (hn : n ≤ 1000000) :
    Calls Try.prog 21 #[.slice A n cap] w fun e w' => e = .returned (.int .i64 (timesTo ps n n)) ∧ Below w.heap.size w w' := by
  go_enter Try.func21, Try.ntmps21
  go_wp2_with (with_reducible refine at_end ?_)
  go_loopw [3, 4] (fun x i wr => ∃ k : Nat, k ≤ n ∧ i = .int .i64 k ∧ x = .int .i64 (timesTo ps n k : Nat) ∧ Below w.heap.size w wr) (fun _ i _ => n - (intOf i).toNat)
  case atStart => exact ⟨0, by omega, rfl, rfl, Below.refl _ _⟩
  case round =>
    obtain ⟨k, hk, rfl, rfl, hbw⟩ := hrel
    by_cases hlt : k < n
    · obtain ⟨ad, rfl, had, hrow⟩ := (hp.below hbw).row (by omega)
      have h1 := hrow k hlt
      have h2 := hrow (n - 1) (by omega)
      have o1 := hp.ok k hlt
      have o2 := hp.ok (n - 1) (by omega)
      clear hrow
      have q1 : (k : Int) < (n : Int) := by omega
      have q2 : IntKind.i64.wrap ((n : Int) - 1) = (n : Int) - 1 := IntWalk.i64_in _ (by omega)
      have q3 : (1 : Int) ≤ (n : Int) := by omega
      have q4 : ((n : Int) - 1).toNat = n - 1 := by omega
      have q5 : (0 : Int) ≤ (n : Int) - 1 := by omega
      have q6 : (n : Int) - 1 < (n : Int) := by omega
      have htl := timesTo_le ps n k
      go_wp2_with (with_reducible refine at_end ?_)
      refine wp_region_after (by kernel_rfl) (by kernel_rfl) ?_
      repeat (refine wpQuiet_step (fun K hK => ?_); go_simp; first | (refine hK _ ?_; clear hK K) | (apply Exists.intro; refine ⟨fun p => ?_, hK _ ?_⟩; (go_at_call 60; exact After.call p (refsame_any _ _ _ o1 o2)); clear hK K))
      refine wpQuiet_nil ?_
      intro w1 hb1
      have hbw1 := below_join hbw (hb1.mono (Nat.le_refl _))
      clear q2 q3 q4 q5 q6
      go_wp2_with (with_reducible refine at_end ?_)
      · have HT := timesTo_yes ps n k (by assumption)
        go_roundw
        case rel => exact ⟨k + 1, by omega, by go_num, by rw [HT]; go_num, hbw1⟩
        case measure => simp [intOf]; omega
      · have HT := timesTo_no ps n k (by assumption)
        go_roundw
        case rel => exact ⟨k + 1, by omega, by go_num, by rw [HT], hbw1⟩
        case measure => simp [intOf]; omega
    · obtain rfl : k = n := by omega
      go_wp2_with (with_reducible refine at_end ?_)
      unfold AtEnd
      go_returns
      exact ⟨rfl, hbw⟩

set_option maxRecDepth 100000 in
set_option maxHeartbeats 1000000 in
theorem times_any (A : Option Addr) (n cap : Nat) (ps : Nat → Nat → Int) (w : World) (hp : PosRow w A n ps) (hn : n ≤ 1000000) :
    Calls Try.prog 22 #[.slice A n cap] w fun e w' => e = .returned (.int .i64 (timesTo ps n n)) ∧ Below w.heap.size w w' := by
  go_enter Try.func22, Try.ntmps22
  go_wp2_with (with_reducible refine at_end ?_)
  go_loopw [3, 5, 8] (fun x _ i wr => ∃ k : Nat, k ≤ n ∧ i = .int .i64 k ∧ x = .int .i64 (timesTo ps n k : Nat) ∧ Below w.heap.size w wr) (fun _ _ i _ => n - (intOf i).toNat)
  case atStart => exact ⟨0, by omega, rfl, rfl, Below.refl _ _⟩
  case round =>
    obtain ⟨k, hk, rfl, rfl, hbw⟩ := hrel
    by_cases hlt : k < n
    · obtain ⟨ad, rfl, had, hrow⟩ := (hp.below hbw).row (by omega)
      have h1 := hrow k hlt
      have h2 := hrow (n - 1) (by omega)
      have o1 := hp.ok k hlt
      have o2 := hp.ok (n - 1) (by omega)
      clear hrow
      have htl := timesTo_le ps n k
      have hsz := hbw.size
      go_wp2_with (with_reducible refine at_end ?_)
      have q1 : (k : Int) < (n : Int) := by omega
      have q2 : IntKind.i64.wrap ((n : Int) - 1) = (n : Int) - 1 := IntWalk.i64_in _ (by omega)
      have q3 : (1 : Int) ≤ (n : Int) := by omega
      have q4 : ((n : Int) - 1).toNat = n - 1 := by omega
      have q5 : (0 : Int) ≤ (n : Int) - 1 := by omega
      have q6 : (n : Int) - 1 < (n : Int) := by omega
      have had' : ad.block < wr.heap.size + 1 := by omega
      refine wp_region_after (by kernel_rfl) (by kernel_rfl) ?_
      repeat (refine wpQuiet_step (fun K hK => ?_); go_simp; first | (refine hK _ ?_; clear hK K) | (apply Exists.intro; refine ⟨fun p => ?_, hK _ ?_⟩; (go_at_call 59; exact After.call p (same_any _ _ _ o1 o2)); clear hK K))
      refine wpQuiet_nil ?_
      intro w1 hb1
      have hbw1 : Below w.heap.size w w1 := (hbw.alloc hsz _).trans (hb1.mono (by simp; omega))
      clear q2 q3 q4 q5 q6
      go_wp2_with (with_reducible refine at_end ?_)
      · have HT := timesTo_yes ps n k (by assumption)
        go_roundw
        case rel => exact ⟨k + 1, by omega, by go_num, by rw [HT]; go_num, hbw1⟩
        case measure => simp [intOf]; omega
      · have HT := timesTo_no ps n k (by assumption)
        go_roundw
        case rel => exact ⟨k + 1, by omega, by go_num, by rw [HT], hbw1⟩
        case measure => simp [intOf]; omega
    · obtain rfl : k = n := by omega
      go_wp2_with (with_reducible refine at_end ?_)
      unfold AtEnd
      go_returns
      exact ⟨rfl, hbw⟩

theorem bcell {W w1 : World} (hb : Below W.heap.size W w1) : (∀ b o, b < W.heap.size → w1.cell? ⟨b, o, none⟩ = W.cell? ⟨b, o, none⟩) ∧ (∀ b o, b < W.heap.size → w1.frozen? ⟨b, o, none⟩ = W.frozen? ⟨b, o, none⟩) :=
  ⟨fun b o h => hb.cell (p := ⟨b, o, none⟩) h, fun b o h => hb.frozen (p := ⟨b, o, none⟩) h⟩
def ofV (n : Nat) : Array Value := if n < 5 then #[.int .u8 0, .int .u8 0] else #[.int .u8 3, .int .u8 5]
theorem oc00 : OneCells #[.int .u8 0, .int .u8 0] := by simp [OneCells, Value.oneCell']
theorem oc35 : OneCells #[.int .u8 3, .int .u8 5] := by simp [OneCells, Value.oneCell']
attribute [local go_sem] oc00 oc35
set_option maxHeartbeats 400000 in
theorem of_any (A : Option Addr) (n cap : Nat) (ps : Nat → Nat → Int) (w : World) (hp : PosRow w A n ps) (hn : n ≤ 1000000) :
    Calls Try.prog 23 #[.slice A n cap] w fun e w' => e = .returned (.agg (ofV (timesTo ps n n))) ∧ Below w.heap.size w w' := by
  have htl := timesTo_le ps n n
  by_cases h5 : timesTo ps n n < 5
  · have hv := Lib.hid (show ofV (timesTo ps n n) = #[.int .u8 0, .int .u8 0] from if_pos h5)
    go_enter Try.func23, Try.ntmps23
    go_wp2_with (first | (with_reducible refine at_end ?_) | (go_at_call 22; refine (times_any A n cap ps _ (hp.below (by go_grown)) hn).mono ?_; rintro e w1 ⟨rfl, hb⟩; have hr := rowFree_below (g := w.heap.size) (n := 2) (rowFree_newT _ _ _ rfl) hb (by simp))) 
    exact end_of (bodyPost_ret (results_agg ld25 rfl _ _ ⟨w.heap.size, 0, none⟩ #[.int .u8 0, .int .u8 0] rfl (aggAt_put hr rfl)) rfl ⟨by rw [hv.out], Below.setRow (((Below.refl _ _).alloc (Nat.le_refl _) _).trans (hb.mono (by simp))) (Nat.le_refl _) _⟩)
  · have hv := Lib.hid (show ofV (timesTo ps n n) = #[.int .u8 3, .int .u8 5] from if_neg h5)
    go_enter Try.func23, Try.ntmps23
    go_wp2_with (first | (with_reducible refine at_end ?_) | (go_at_call 22; refine (times_any A n cap ps _ (hp.below (by go_grown)) hn).mono ?_; rintro e w1 ⟨rfl, hb⟩; have hr := rowFree_below (g := w.heap.size) (n := 2) (rowFree_newT _ _ _ rfl) hb (by simp))) 
    exact end_of (bodyPost_ret (results_agg ld25 rfl _ _ ⟨w.heap.size, 0, none⟩ #[.int .u8 3, .int .u8 5] rfl (aggAt_put hr rfl)) rfl ⟨by rw [hv.out], Below.setRow (((Below.refl _ _).alloc (Nat.le_refl _) _).trans (hb.mono (by simp))) (Nat.le_refl _) _⟩)
set_option maxHeartbeats 400000 in
theorem refof_any (A : Option Addr) (n cap : Nat) (ps : Nat → Nat → Int) (w : World) (hp : PosRow w A n ps) (hn : n ≤ 1000000) :
    Calls Try.prog 24 #[.slice A n cap] w fun e w' => e = .returned (.agg (ofV (timesTo ps n n))) ∧ Below w.heap.size w w' := by
  have htl := timesTo_le ps n n
  by_cases h5 : timesTo ps n n < 5
  · have hv := Lib.hid (show ofV (timesTo ps n n) = #[.int .u8 0, .int .u8 0] from if_pos h5)
    go_enter Try.func24, Try.ntmps24
    go_wp2_with (first | (with_reducible refine at_end ?_) | (go_at_call 21; refine (reftimes_any A n cap ps _ (hp.below (by go_grown)) hn).mono ?_; rintro e w1 ⟨rfl, hb⟩; have hr := rowFree_below (g := w.heap.size) (n := 2) (rowFree_newT _ _ _ rfl) hb (by simp))) 
    exact end_of (bodyPost_ret (results_agg ld25 rfl _ _ ⟨w.heap.size, 0, none⟩ #[.int .u8 0, .int .u8 0] rfl (aggAt_put hr rfl)) rfl ⟨by rw [hv.out], Below.setRow (((Below.refl _ _).alloc (Nat.le_refl _) _).trans (hb.mono (by simp))) (Nat.le_refl _) _⟩)
  · have hv := Lib.hid (show ofV (timesTo ps n n) = #[.int .u8 3, .int .u8 5] from if_neg h5)
    go_enter Try.func24, Try.ntmps24
    go_wp2_with (first | (with_reducible refine at_end ?_) | (go_at_call 21; refine (reftimes_any A n cap ps _ (hp.below (by go_grown)) hn).mono ?_; rintro e w1 ⟨rfl, hb⟩; have hr := rowFree_below (g := w.heap.size) (n := 2) (rowFree_newT _ _ _ rfl) hb (by simp))) 
    exact end_of (bodyPost_ret (results_agg ld25 rfl _ _ ⟨w.heap.size, 0, none⟩ #[.int .u8 3, .int .u8 5] rfl (aggAt_put hr rfl)) rfl ⟨by rw [hv.out], Below.setRow (((Below.refl _ _).alloc (Nat.le_refl _) _).trans (hb.mono (by simp))) (Nat.le_refl _) _⟩)
theorem claim_any (A : Option Addr) (n cap : Nat) (ps : Nat → Nat → Int) (w : World) (hp : PosRow w A n ps) (hn : n ≤ 1000000) :
    Calls Try.prog 25 #[.slice A n cap] w fun e w' => e = .returned (.bool (decide (3 ≤ (timesTo ps n n : Int)))) ∧ Below w.heap.size w w' := by
  go_enter Try.func25, Try.ntmps25
  go_wp2_with (first | (with_reducible refine at_end ?_) | (go_at_call 22; refine (times_any A n cap ps _ hp hn).mono ?_; rintro e w1 ⟨rfl, hb⟩))
  unfold AtEnd
  go_returns
  exact ⟨rfl, hb⟩
end Go.Proofs.Ytldacinldgjdcaa
