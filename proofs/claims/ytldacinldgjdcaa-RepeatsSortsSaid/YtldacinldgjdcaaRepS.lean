/- The walk of the law RepeatsSorts: it returns true; of what was in memory nothing turns. -/
import Derived.Test.YtldacinldgjdcaaRepB
import Derived.Test.YtldacinldgjdcaaKeyX
namespace Go.Proofs.Ytldacinldgjdcaa
open Go.RowKit
attribute [local go_sem ↓] lv37 zero37 sv37
attribute [local go_sem] run_lv37 run_zero37 run_sv37 rowFree_new rowFree_alloc setRow_new setRow_alloc aggAt_newb aggAt_old aggAt_drew aggAt_drewN posA_size oneCells_pos posA_set After.cell After.frozen After.agg add_block

theorem boxes3 {w w1 : World} {a b c : Nat → Int} (hb : Below (((w.alloc (.cells (posA a) 37)).alloc (.cells (posA b) 37)).alloc (.cells (posA c) 37)).heap.size (((w.alloc (.cells (posA a) 37)).alloc (.cells (posA b) 37)).alloc (.cells (posA c) 37)) w1) :
    aggAt w1 ⟨w.heap.size, 0, none⟩ 88 = some (posA a) ∧ aggAt w1 ⟨w.heap.size + 1, 0, none⟩ 88 = some (posA b) ∧ aggAt w1 ⟨w.heap.size + 1 + 1, 0, none⟩ 88 = some (posA c) ∧ w.heap.size + 3 ≤ w1.heap.size ∧ Below w.heap.size w w1 := by
  have hz := hb.size
  simp only [World.alloc, Array.size_push] at hz
  refine ⟨aggAt_below ?_ hb (by simp; omega), aggAt_below ?_ hb (by simp), aggAt_below ?_ hb (by simp), hz, ?_⟩
  · exact aggAt_alloc (aggAt_alloc (aggAt_new w (posA a) 37 88 (posA_size a)) (by simp) _) (by simp; omega) _
  · have := aggAt_new (w.alloc (.cells (posA a) 37)) (posA b) 37 88 (posA_size b)
    have := aggAt_alloc this (by simp) (.cells (posA c) 37)
    simpa using this
  · have := aggAt_new ((w.alloc (.cells (posA a) 37)).alloc (.cells (posA b) 37)) (posA c) 37 88 (posA_size c)
    simpa using this
  · exact (by go_grown : Below w.heap.size w (((w.alloc (.cells (posA a) 37)).alloc (.cells (posA b) 37)).alloc (.cells (posA c) 37))).trans (hb.mono (by simp; omega))
set_option maxRecDepth 100000 in
set_option maxHeartbeats 1000000 in
theorem repeatsSorts_walk (a b c : Nat → Int) (w : World) (ha : PosOk a) (hb : PosOk b) (hc : PosOk c) :
    Calls Try.prog 16 #[.agg (posA a), .agg (posA b), .agg (posA c)] w fun e w' => e = .returned (.bool true) ∧ Below w.heap.size w w' := by
  have OA := Lib.hid ha
  have OB := Lib.hid hb
  have OC := Lib.hid hc
  clear ha hb hc
  have haa : sameB a a = true := sameB_refl a
  have hba : sameB b a = sameB a b := sameB_comm b a
  have HK := Lib.hid (fun h : sameB a b = true => sameB_key h)
  have HT := Lib.hid (fun (h : sameB a b = true) (k : sameB b c = true) => sameB_trans h k)
  have H3 : (sameB a b = true ∧ keyV a = keyV b ∧ sameB b c = true ∧ sameB a c = true) ∨ (sameB a b = true ∧ keyV a = keyV b ∧ sameB b c = false ∧ True) ∨ (sameB a b = false ∧ True ∧ True ∧ True) := by
    rcases Bool.eq_false_or_eq_true (sameB a b) with hab | hab
    · rcases Bool.eq_false_or_eq_true (sameB b c) with hbc | hbc
      · exact Or.inl ⟨hab, HK.out hab, hbc, HT.out hab hbc⟩
      · exact Or.inr (Or.inl ⟨hab, HK.out hab, hbc, trivial⟩)
    · exact Or.inr (Or.inr ⟨hab, trivial, trivial, trivial⟩)
  rcases H3 with ⟨hab, hk, hbc, hac⟩ | ⟨hab, hk, hbc, hac⟩ | ⟨hab, hk, hbc, hac⟩
  all_goals
    go_enter Try.func16, Try.ntmps16
    go_wp2_with (with_reducible refine at_end ?_)
    refine (awake21_any _).mono ?_
    rintro e w1 ⟨rfl, hb⟩
    obtain ⟨h1, h2, h3, hz, hbw⟩ := boxes3 hb
    have l1 : w.heap.size < w1.heap.size := by omega
    have l2 : w.heap.size + 1 < w1.heap.size := by omega
    have l3 : w.heap.size + 1 + 1 < w1.heap.size := by omega
    clear hb hz
    go_wp2_with (with_reducible refine at_end ?_)
    refine wp_region_after (by kernel_rfl) (by kernel_rfl) ?_
    repeat (refine wpQuiet_step (fun K hK => ?_); go_simp; first | (refine hK _ ?_; clear hK K) | (apply Exists.intro; refine ⟨fun p => ?_, hK _ ?_⟩; (go_at_call 59; exact After.call p (same_any _ _ _ (by with_reducible first | exact OA.out | exact OB.out | exact OC.out) (by with_reducible first | exact OA.out | exact OB.out | exact OC.out))); clear hK K))
    refine wpQuiet_nil ?_
    intro w2 hb2
    have k1 := aggAt_below h1 hb2 l1
    have k2 := aggAt_below h2 hb2 l2
    replace l1 := Nat.lt_of_lt_of_le l1 hb2.size
    replace l2 := Nat.lt_of_lt_of_le l2 hb2.size
    have hbx := below_join hbw hb2
    clear h1 h2 h3 l3 hb2 hbw
    go_wp2_with (with_reducible refine at_end ?_)
    refine wp_region_after (by kernel_rfl) (by kernel_rfl) ?_
    repeat (refine wpQuiet_step (fun K hK => ?_); go_simp; first | (refine hK _ ?_; clear hK K) | (apply Exists.intro; refine ⟨fun p => ?_, hK _ ?_⟩; (first | (go_at_call 59; exact After.call p (same_any _ _ _ (by with_reducible first | exact OA.out | exact OB.out | exact OC.out) (by with_reducible first | exact OA.out | exact OB.out | exact OC.out))) | (go_at_call 42; exact After.call p (key_any _ (by with_reducible first | exact OA.out | exact OB.out) _))); clear hK K))
    refine wpQuiet_nil ?_
    intro w3 hb3
    have hby := below_join hbx hb3
    go_wp2_with (with_reducible refine at_end ?_)
    unfold AtEnd
    go_returns
    exact ⟨rfl, hby⟩
end Go.Proofs.Ytldacinldgjdcaa
