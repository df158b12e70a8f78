/- The walk of the law RepeatsGroups: it returns true; of what was in memory nothing turns. -/
import Derived.Test.YtldacinldgjdcaaGrpS
import Derived.Test.YtldacinldgjdcaaSameB
namespace Go.Proofs.Ytldacinldgjdcaa
open Go.RowKit Go.Maps
attribute [local go_sem ↓] lv37 zero37 sv37
attribute [local go_sem] run_lv37 run_zero37 run_sv37 rowFree_new rowFree_alloc setRow_new setRow_alloc aggAt_newb aggAt_old aggAt_drew aggAt_drewN posA_size oneCells_pos After.cell After.frozen After.agg add_block
theorem ints_row {w : World} {B : Nat} {v : Value} {zs : List Int} (h : w.ownsInts B 3 .i64 v zs) :
    ∃ (A : Option Addr) (cap : Nat), v = .slice A zs.length cap ∧ (0 < zs.length → ∃ g cur, A = some ⟨g, 0, none⟩ ∧ B ≤ g ∧ w.heap[g]? = some (.cells cur 3 (0, 0)) ∧ zs.length ≤ cur.size) := by
  rcases h.1.2 with ⟨e1, e2⟩ | ⟨g, cap, cur, e1, e2, e3, e4, _, e5, _⟩
  · exact ⟨none, 0, by rw [e1, e2], fun hz => by omega⟩
  · exact ⟨some ⟨g, 0, none⟩, cap, e1, fun _ => ⟨g, cur, rfl, e2, e3, by omega⟩⟩
/-- A row of n numbers of the call's own, whatever they are. -/
def RowSt (B n : Nat) (A : Option Addr) (w : World) : Prop := 0 < n → ∃ g cur, A = some ⟨g, 0, none⟩ ∧ B ≤ g ∧ w.heap[g]? = some (.cells cur 3 (0, 0)) ∧ n ≤ cur.size
theorem RowSt.after {B n : Nat} {A : Option Addr} {w w' : World} (h : RowSt B n A w) (hb : Below w.heap.size w w') : RowSt B n A w' := fun hn => by
  obtain ⟨g, cur, h1, h2, h3, h4⟩ := h hn
  exact ⟨g, cur, h1, h2, (hb.block g (Array.getElem?_eq_some_iff.1 h3).1).trans h3, h4⟩
set_option maxRecDepth 100000 in
set_option maxHeartbeats 1000000 in
theorem repeatsGroups_walk (A : Option Addr) (n cap : Nat) (ps : Nat → Nat → Int) (w : World) (hp : PosSl w A n cap ps) :
    Calls Try.prog 13 #[.slice A n cap] w fun e w' => e = .returned (.bool true) ∧ Below w.heap.size w w' := by
  obtain ⟨hr, _, _, _⟩ := hp
  by_cases hbig : 100 < n
  · go_enter Try.func13, Try.ntmps13
    go_wp2_with (with_reducible refine at_end ?_)
    unfold AtEnd
    go_returns
    exact ⟨rfl, Below.refl _ _⟩
  · go_enter Try.func13, Try.ntmps13
    go_wp2_with (first | (with_reducible refine at_end ?_) | (go_at_call 56; refine (refgroups_any A n cap ps _ hr (by omega)).mono ?_; rintro e w1 ⟨want, rfl, how, hb1⟩))
    go_loopw [4] (fun t wr => ∃ k : Nat, k ≤ 2 ∧ t = .int .i64 k ∧ Below w.heap.size w wr ∧ wr.ownsInts w.heap.size 3 .i64 want (firstsL ps n)) (fun t _ => 2 - (intOf t).toNat)
    case atStart => exact ⟨0, by omega, rfl, hb1, how⟩
    case round =>
      obtain ⟨t, ht, rfl, hbw, how1⟩ := hrel
      by_cases hlt : t < 2
      · have q1 : (t : Int) < 2 := by omega
        go_wp2_with (first | (with_reducible refine at_end ?_) | (go_at_call 57; refine (groups_any A n cap ps _ (hr.below hbw) (by omega)).mono ?_; rintro e w2 ⟨out, rfl, hou, hb2⟩; obtain ⟨oA, oc, e, horow⟩ := ints_row hou; rw [firstsL_len] at e horow; subst e) | (go_at_call 58; refine (same01_any _ _ _ _ _ _ hou (ints_below how1 hb2) (by simp; omega)).mono ?_; rintro e w3 ⟨rfl, hb3⟩))
        have hR : RowSt wr.heap.size n oA w3 := RowSt.after (w := w2) horow hb3
        have hbx := below_join hb2 hb3
        clear hou horow hb2 hb3
        go_loopw [6] (fun i wx => ∃ k : Nat, k ≤ n ∧ i = .int .i64 k ∧ Below wr.heap.size wr wx ∧ RowSt wr.heap.size n oA wx) (fun i _ => n - (intOf i).toNat)
        case atStart => exact ⟨0, by omega, rfl, hbx, hR⟩
        case round =>
          obtain ⟨k, hk, rfl, hby, hR2⟩ := hrel
          by_cases hkn : k < n
          · obtain ⟨g, cur, hA, hgB, hcur, hsz⟩ := hR2 (by omega)
            subst hA
            have c1 : wr.cell? ⟨g, k, none⟩ = some cur[k] := by rw [cell_of_row _ _ _ _ _ _ hcur]; simp
            have c2 : wr.frozen? ⟨g, k, none⟩ = false := frozen_of_row _ _ _ _ _ hcur
            have q2 : (k : Int) < (n : Int) := by omega
            go_wp2_with (with_reducible refine at_end ?_)
            go_roundw
            case rel => exact ⟨k + 1, by omega, by go_num, hby.setCell (p := ⟨g, k, none⟩) hgB _, fun _ => ⟨g, _, rfl, hgB, heap_setCell_same _ _ _ _ _ _ hcur, by simp; omega⟩⟩
            case measure => simp [intOf]; omega
          · obtain rfl : k = n := by omega
            have q2 : ¬(k : Int) < (k : Int) := by omega
            go_wp2_with (with_reducible refine at_end ?_)
            go_roundw
            case rel => exact ⟨t + 1, by omega, by go_num, hbw.trans (hby.mono hbw.size), ints_below how1 hby⟩
            case measure => simp [intOf]; omega
      · have q1 : ¬(t : Int) < 2 := by omega
        go_wp2_with (with_reducible refine at_end ?_)
        go_loopw [7] (fun i wx => ∃ k : Nat, 1 ≤ k ∧ i = .int .i64 k ∧ k ≤ n + 1 ∧ Below wr.heap.size wr wx) (fun i _ => n + 1 - (intOf i).toNat)
        case atStart => exact ⟨1, by omega, rfl, by omega, Below.refl _ _⟩
        case round =>
          obtain ⟨k, hk1, rfl, hk, hby⟩ := hrel
          by_cases hkn : k < n
          · obtain ⟨ad, rfl, had, hrow⟩ := ((hr.below hbw).below hby).row (by omega)
            have h1 := hrow (k - 1) (by omega)
            have h2 := hrow k hkn
            have o1 := Lib.hid (hr.ok (k - 1) (by omega))
            have o2 := Lib.hid (hr.ok k hkn)
            clear hrow
            have q2 : (k : Int) < (n : Int) := by omega
            have q3 : IntKind.i64.wrap ((k : Int) - 1) = (k : Int) - 1 := IntWalk.i64_in _ (by omega)
            have q4 : ((k : Int) - 1).toNat = k - 1 := by omega
            have q5 : (0 : Int) ≤ (k : Int) - 1 := by omega
            have q6 : (k : Int) - 1 < (n : Int) := by omega
            have q7 : (1 : Int) ≤ (k : Int) := by omega
            go_wp2_with (with_reducible refine at_end ?_)
            refine wp_region_after (by kernel_rfl) (by kernel_rfl) ?_
            repeat (refine wpQuiet_step (fun K hK => ?_); go_simp; first | (refine hK _ ?_; clear hK K) | (apply Exists.intro; refine ⟨fun p => ?_, hK _ ?_⟩; (first | (go_at_call 59; exact After.call p (same_any _ _ _ o1.out o2.out)) | (go_at_call 60; exact After.call p (refsame_any _ _ _ o1.out o2.out))); clear hK K))
            refine wpQuiet_nil ?_
            intro w2 hb2
            have hby2 := below_join hby (hb2.mono (Nat.le_refl _))
            clear q3 q4 q5 q6 q7 h1 h2 had
            go_wp2_with (with_reducible refine at_end ?_)
            go_roundw
            case rel => exact ⟨k + 1, by omega, by go_num, by omega, hby2⟩
            case measure => simp [intOf]; omega
          · have q2 : ¬(k : Int) < (n : Int) := by omega
            go_wp2_with (with_reducible refine at_end ?_)
            unfold AtEnd
            go_returns
            exact ⟨rfl, hbw.trans (hby.mono hbw.size)⟩
end Go.Proofs.Ytldacinldgjdcaa
