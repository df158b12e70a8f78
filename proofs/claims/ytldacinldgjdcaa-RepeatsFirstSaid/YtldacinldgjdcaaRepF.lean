/- The walk of the law RepeatsFirst: it returns true; of what was in memory nothing turns. -/
import Derived.Test.YtldacinldgjdcaaRepB
namespace Go.Proofs.Ytldacinldgjdcaa
open Go.RowKit Go.Maps
attribute [local go_sem ↓] lv37 zero37 sv37
attribute [local go_sem] run_lv37 run_zero37 run_sv37 rowFree_new rowFree_alloc setRow_new setRow_alloc aggAt_newb aggAt_old aggAt_drew aggAt_drewN posA_size oneCells_pos After.cell After.frozen After.agg add_block

/-- How many of the first k positions are of the last one's group. -/
def grpTo (ps : Nat → Nat → Int) (n k : Nat) : Nat := ((List.range k).filter fun i => firstOf ps i == firstOf ps (n - 1)).length
theorem grpTo_yes (ps : Nat → Nat → Int) (n k : Nat) (h : firstOf ps k = firstOf ps (n - 1)) : grpTo ps n (k + 1) = grpTo ps n k + 1 := by simp [grpTo, List.range_succ, h]
theorem grpTo_no (ps : Nat → Nat → Int) (n k : Nat) (h : ¬firstOf ps k = firstOf ps (n - 1)) : grpTo ps n (k + 1) = grpTo ps n k := by simp [grpTo, List.range_succ, h]
theorem grpTo_le (ps : Nat → Nat → Int) (n k : Nat) : grpTo ps n k ≤ k := by
  have := List.length_filter_le (fun i => firstOf ps i == firstOf ps (n - 1)) (List.range k); simpa [grpTo] using this
theorem grpTo_times (ps : Nat → Nat → Int) (n : Nat) : timesTo ps n n = grpTo ps n n := by
  unfold timesTo grpTo
  congr 1
  apply List.filter_congr
  intro i _
  rw [Bool.eq_iff_iff, firstOf_iff, beq_iff_eq]
/-- The row of the first ones, and the row of positions, are still there. -/
structure FstSt (w0 : World) (A : Option Addr) (n : Nat) (ps : Nat → Nat → Int) (g : Nat) (w : World) : Prop where
  below : Below w0.heap.size w0 w
  row : PosRow w A n ps
  cell : ∀ i, i < n → w.cell? ⟨g, i, none⟩ = some (.int .i64 (firstOf ps i))
  lt : 0 < n → g < w.heap.size
theorem FstSt.step {w0 : World} {A : Option Addr} {n : Nat} {ps : Nat → Nat → Int} {g : Nat} {w w' : World} (h : FstSt w0 A n ps g w) (hb : Below w.heap.size w w') : FstSt w0 A n ps g w' :=
  ⟨below_join h.below hb, h.row.below hb, fun i hi => (hb.cell (p := ⟨g, i, none⟩) (h.lt (by omega))).trans (h.cell i hi), fun hn => Nat.lt_of_lt_of_le (h.lt hn) hb.size⟩
set_option maxRecDepth 100000 in
set_option maxHeartbeats 1000000 in
theorem repeatsFirst_walk (A : Option Addr) (n cap : Nat) (ps : Nat → Nat → Int) (w : World) (hp : PosSl w A n cap ps) :
    Calls Try.prog 18 #[.slice A n cap] w fun e w' => e = .returned (.bool true) ∧ Below w.heap.size w w' := by
  obtain ⟨hr, _, _, _⟩ := hp
  by_cases hbig : 60 < n
  · have q1 : (60 : Int) < (n : Int) := by omega
    go_enter Try.func18, Try.ntmps18
    go_wp2_with (with_reducible refine at_end ?_)
    refine (awake21_any _).mono ?_
    rintro e w1 ⟨rfl, hb⟩
    go_wp2_with (with_reducible refine at_end ?_)
    unfold AtEnd
    go_returns
    exact ⟨rfl, hb⟩
  · have q1 : ¬(60 : Int) < (n : Int) := by omega
    have OK := Lib.hid hr.ok
    go_enter Try.func18, Try.ntmps18
    go_wp2_with (with_reducible refine at_end ?_)
    refine (awake21_any _).mono ?_
    rintro e w1 ⟨rfl, hb⟩
    go_wp2_with (with_reducible refine at_end ?_)
    refine (groups_any A n cap ps _ (hr.below hb) (by omega)).mono ?_
    rintro e w2 ⟨out, rfl, hou, hb2⟩
    obtain ⟨oA, oc, rfl, hov, hoc⟩ := ints_shape hou
    rw [firstsL_len] at hov ⊢
    obtain ⟨g, st⟩ : ∃ g, FstSt w A n ps g w2 ∧ (0 < n → oA = some ⟨g, 0, none⟩) := by
      by_cases h0 : 0 < n
      · obtain ⟨g, rfl, _, hg⟩ := hov h0
        exact ⟨g, ⟨below_join hb hb2, (hr.below hb).below hb2, fun i hi => hoc g i _ rfl (firstsL_get ps n i hi), fun _ => hg⟩, fun _ => rfl⟩
      · exact ⟨0, ⟨below_join hb hb2, (hr.below hb).below hb2, fun i hi => absurd hi (by omega), fun hn => absurd hn h0⟩, fun hn => absurd hn h0⟩
    obtain ⟨st, hg⟩ := st
    clear hou hov hoc hr hb hb2 hbig
    go_wp2_with (with_reducible refine at_end ?_)
    go_loopw [4, 5] (fun x i wr => ∃ k : Nat, k ≤ n ∧ i = .int .i64 k ∧ x = .int .i64 (grpTo ps n k : Nat) ∧ FstSt w A n ps g wr) (fun _ i _ => n - (intOf i).toNat)
    case atStart => exact ⟨0, by omega, rfl, rfl, st⟩
    case round =>
      clear st
      obtain ⟨k, hk, rfl, rfl, st⟩ := hrel
      by_cases hlt : k < n
      · have hA := hg (by omega)
        subst hA
        have hgl := Lib.hid (grpTo_le ps n k)
        have lg := st.lt (by omega)
        have c1 := st.cell k hlt
        have hfk := firstOf_le ps k
        have c2 := st.cell (firstOf ps k) (by omega)
        rw [firstOf_idem] at c2
        have q2 : (k : Int) < (n : Int) := by omega
        have q3 : ¬(firstOf ps k : Int) < 0 := by omega
        have q4 : ¬(k : Int) < (firstOf ps k : Int) := by omega
        have q5 : (firstOf ps k : Int) < (n : Int) := by omega
        have q6 : (0 : Int) ≤ (firstOf ps k : Int) := by omega
        have q7 : firstOf ps k < n := by omega
        go_wp2_with (with_reducible refine at_end ?_)
        refine wp_region_after (by kernel_rfl) (by kernel_rfl) ?_
        repeat (refine wpQuiet_step (fun K hK => ?_); go_simp; (refine hK _ ?_; clear hK K))
        refine wpQuiet_nil ?_
        intro w3 hb3
        have st3 := st.step hb3
        clear c1 c2 q5 q6 q7 lg hb3
        go_wp2_with (with_reducible refine at_end ?_)
        rename_i hx _ _
        clear q3 q4 hfk hx
        go_loopw [6] (fun i wx => ∃ m : Nat, m ≤ k ∧ i = .int .i64 m ∧ FstSt w A n ps g wx) (fun i _ => k - (intOf i).toNat)
        case atStart => exact ⟨0, by omega, rfl, st3⟩
        case round =>
          clear st3 st
          obtain ⟨m, hm, rfl, st⟩ := hrel
          by_cases hml : m < k
          · obtain ⟨ad, rfl, had, hrow⟩ := st.row.row (by omega)
            have h1 := hrow k hlt
            have h2 := hrow m (by omega)
            have o1 := OK.out k hlt
            have o2 := OK.out m (by omega)
            have lg := st.lt (by omega)
            have c1 := st.cell k hlt
            have c2 := st.cell m (by omega)
            have hs : sameB (ps k) (ps m) = ((firstOf ps k : Int) == (firstOf ps m : Int)) := by rw [Bool.eq_iff_iff, firstOf_iff, beq_iff_eq]; omega
            have q3 : (m : Int) < (k : Int) := by omega
            have q4 : (m : Int) < (n : Int) := by omega
            have q5 : m < n := by omega
            clear hrow
            go_wp2_with (with_reducible refine at_end ?_)
            refine wp_region_after (by kernel_rfl) (by kernel_rfl) ?_
            repeat (refine wpQuiet_step (fun K hK => ?_); go_simp; first | (refine hK _ ?_; clear hK K) | (apply Exists.intro; refine ⟨fun p => ?_, hK _ ?_⟩; (go_at_call 59; exact After.call p (same_any _ _ _ o1 o2)); clear hK K))
            refine wpQuiet_nil ?_
            intro w4 hb4
            have st4 := st.step hb4
            clear c1 c2 q4 q5 lg hb4 h1 h2 had o1 o2
            go_wp2_with (with_reducible refine at_end ?_)
            go_roundw
            case rel => exact ⟨m + 1, by omega, by go_num, st4⟩
            case measure => simp [intOf]; omega
          · obtain rfl : m = k := by omega
            have q3 : ¬(m : Int) < (m : Int) := by omega
            have lg := st.lt (by omega)
            have c1 := st.cell m hlt
            have c2 := st.cell (n - 1) (by omega)
            have z2 : IntKind.i64.wrap ((n : Int) - 1) = (n : Int) - 1 := IntWalk.i64_in _ (by omega)
            have z3 : (1 : Int) ≤ (n : Int) := by omega
            have z4 : ((n : Int) - 1).toNat = n - 1 := by omega
            have z5 : (0 : Int) ≤ (n : Int) - 1 := by omega
            have z6 : (n : Int) - 1 < (n : Int) := by omega
            by_cases he : firstOf ps m = firstOf ps (n - 1)
            · have he2 : ((firstOf ps m : Int) == (firstOf ps (n - 1) : Int)) = true := by rw [he]; simp
              have HE := Lib.hid (grpTo_yes ps n m he)
              clear he
              go_wp2_with (with_reducible refine at_end ?_)
              refine wp_region_after (by kernel_rfl) (by kernel_rfl) ?_
              repeat (refine wpQuiet_step (fun K hK => ?_); go_simp; (refine hK _ ?_; clear hK K))
              refine wpQuiet_nil ?_
              intro w4 hb4
              have st4 := st.step hb4
              clear c1 c2 z2 z3 z4 z5 z6 lg hb4
              go_wp2_with (with_reducible refine at_end ?_)
              go_roundw
              case rel => exact ⟨m + 1, by omega, by go_num, by rw [HE.out]; have := hgl.out; rw [IntWalk.wrap64_in _ (by omega)]; simp, st4⟩
              case measure => simp [intOf]; omega
            · have he2 : ((firstOf ps m : Int) == (firstOf ps (n - 1) : Int)) = false := by rw [beq_eq_false_iff_ne]; omega
              have HE := Lib.hid (grpTo_no ps n m he)
              clear he
              go_wp2_with (with_reducible refine at_end ?_)
              refine wp_region_after (by kernel_rfl) (by kernel_rfl) ?_
              repeat (refine wpQuiet_step (fun K hK => ?_); go_simp; (refine hK _ ?_; clear hK K))
              refine wpQuiet_nil ?_
              intro w4 hb4
              have st4 := st.step hb4
              clear c1 c2 z2 z3 z4 z5 z6 lg hb4
              go_wp2_with (with_reducible refine at_end ?_)
              go_roundw
              case rel => exact ⟨m + 1, by omega, by go_num, by rw [HE.out], st4⟩
              case measure => simp [intOf]; omega
      · obtain rfl : k = n := by omega
        have q2 : ¬(k : Int) < (k : Int) := by omega
        go_wp2_with (with_reducible refine at_end ?_)
        refine (times_any A k cap ps _ st.row (by omega)).mono ?_
        rintro e w3 ⟨rfl, hb3⟩
        have HT := Lib.hid (grpTo_times ps k)
        go_wp2_with (with_reducible refine at_end ?_)
        unfold AtEnd
        go_returns
        exact ⟨ret_bool (by rw [HT.out]; simp), (st.step hb3).below⟩
end Go.Proofs.Ytldacinldgjdcaa
