/- The walk of the law TableOwn: it returns true; of what was in memory nothing turns. -/
import Derived.Test.YtldacinldgjdcaaTabL
namespace Go.Proofs.Ytldacinldgjdcaa
open Go.RowKit Go.Maps
attribute [local go_sem] entA_ne slotA_ne
attribute [local go_sem ↓] lv37 zero37 sv37 lv61 zero61 sv61
attribute [local go_sem] run_lv37 run_zero37 run_sv37 run_lv61 run_sv61 run_zeroEnt rowFree_new rowFree_alloc setRow_new setRow_alloc aggAt_newb aggAt_old aggAt_drew aggAt_drewN posA_size oneCells_pos entA_size oneCells_ent After.cell After.frozen After.agg add_block run_b0
attribute [local go_sem high] run_eql61 run_neq61

/-- All that lies in the slots was put by one of the first i acts. -/
def FromT (ac : Nat → ActD) (i : Nat) (f : Tab) : Prop := ∀ j e c, f j = some (e, c) → ∃ m, m < i ∧ (ac m).k < 2 ∧ (ac m).x = e ∧ (ac m).p = c
theorem FromT0 (ac : Nat → ActD) : FromT ac 0 tabE := fun _ _ _ h => by cases h
theorem FromT.mono {ac : Nat → ActD} {i : Nat} {f : Tab} (h : FromT ac i f) : FromT ac (i + 1) f := fun j e c hj => by
  obtain ⟨m, h1, h2⟩ := h j e c hj
  exact ⟨m, by omega, h2⟩
theorem FromT.put {ac : Nat → ActD} {i : Nat} {f : Tab} (h : FromT ac i f) (sz : Nat) (hk : (ac i).k < 2) : FromT ac (i + 1) (putT f sz (ac i).p (ac i).x) := fun j e c hj => by
  unfold putT at hj
  split at hj
  · unfold setT at hj
    split at hj
    · cases hj
      exact ⟨i, by omega, hk, rfl, rfl⟩
    · exact h.mono j e c hj
  · exact h.mono j e c hj
def isB (ac : Nat → ActD) (i : Nat) (x : Ent) (m : Nat) : Bool := (decide ((ac m).k < 2) && decide ((ac m).x = x)) && sameB (ac m).p (ac i).p
def anyB (ac : Nat → ActD) (i : Nat) (x : Ent) (k : Nat) : Bool := (List.range k).any (isB ac i x)
theorem anyB_succ (ac : Nat → ActD) (i : Nat) (x : Ent) (k : Nat) : anyB ac i x (k + 1) = (anyB ac i x k || isB ac i x k) := by simp [anyB, List.range_succ]
theorem any_of {ac : Nat → ActD} {i sz : Nat} {f : Tab} (h : FromT ac (i + 1) f) (hb : getB f sz (ac i).p = true) : anyB ac i (getE f sz (ac i).p) (i + 1) = true := by
  unfold getB getE at *
  rcases hf : f (idxOf sz (ac i).p) with _ | ⟨e, c⟩
  · rw [hf] at hb; cases hb
  · rw [hf] at hb
    simp only at hb ⊢
    obtain ⟨m, h1, h2, h3, h4⟩ := h _ e c hf
    rw [if_pos hb]
    unfold anyB
    rw [List.any_eq_true]
    exact ⟨m, by simpa using h1, by simp [isB, h2, h3, h4, hb]⟩
theorem getE_ok {f : Tab} (h : TabOk f) (sz : Nat) (c : Nat → Int) : EntOk (getE f sz c) := by
  unfold getE
  rcases hf : f (idxOf sz c) with _ | ⟨e, c'⟩
  · exact EntOk0
  · simp only
    split
    · exact (h _ _ _ hf).1
    · exact EntOk0
theorem getE_no {f : Tab} {sz : Nat} {c : Nat → Int} (h : getB f sz c = false) : getE f sz c = ent0 := by
  unfold getB at h
  unfold getE
  rcases hf : f (idxOf sz c) with _ | ⟨e, c'⟩
  · rfl
  · rw [hf] at h
    simp only at h ⊢
    rw [h]
    rfl
theorem wpQuiet_skip {P : Program} {ops : Array Oper} {C : World → Prop} {Q : Act → Prop} {o : Oper} {rest : List Oper} {a : Act} (h : Region.wanted o (yielded ops a.tmps) = false) (k : wpQuiet P ops C Q rest (a.put o.dst undef)) : wpQuiet P ops C Q (o :: rest) a := by
  unfold wpQuiet
  rw [h]
  exact k
set_option maxRecDepth 100000 in
set_option maxHeartbeats 40000000 in
theorem tableOwn_walk (z : Int) (A : Option Addr) (n cap : Nat) (ac : Nat → ActD) (w : World) (_ : (Lit.int .i64 z).wf = true) (hp : ActSl w A n cap ac) :
    Calls Try.prog 20 #[.int .i64 z, .slice A n cap] w fun e w' => e = .returned (.bool true) ∧ Below w.heap.size w w' := by
  obtain ⟨hr, _, _, _⟩ := hp
  by_cases hno : z < 1 ∨ 4096 < z ∨ 60 < n
  · have H : z < 1 ∨ (¬z < 1 ∧ 4096 < z) ∨ (¬z < 1 ∧ ¬4096 < z ∧ 60 < (n : Int)) := by omega
    clear hno
    rcases H with h1 | ⟨h1, h2⟩ | ⟨h1, h2, h3⟩
    all_goals
      go_enter Try.func20, Try.ntmps20
      go_wp2_with (first | (with_reducible refine at_end ?_) | (go_at_call 55; refine (awake26_any _).mono ?_; rintro r w2 ⟨rfl, hb⟩))
      unfold AtEnd
      go_returns
      exact ⟨rfl, hb⟩
  · obtain ⟨sz, rfl, hs1, hs2⟩ : ∃ sz : Nat, z = (sz : Int) ∧ 1 ≤ sz ∧ sz ≤ 4096 := ⟨z.toNat, by omega, by omega, by omega⟩
    have hn : n ≤ 60 := by omega
    have q1 : ¬(sz : Int) < 1 := by omega
    have q2 : ¬(4096 : Int) < sz := by omega
    have q3 : ¬(60 : Int) < n := by omega
    have OK := Lib.hid hr.ok
    clear hno
    go_enter Try.func20, Try.ntmps20
    go_wp2_with (first | (with_reducible refine at_end ?_) | (go_at_call 55; refine (awake26_any _).mono ?_; rintro r w2 ⟨rfl, hbw⟩) | (go_at_call 44; refine (new_any hs1 hs2 _).mono ?_; rintro r w3 ⟨tb, bm, rfl, ht, hb, htb, hbm⟩))
    have st0 : Stb w tb bm sz tabE (fun _ => True) w3 := ⟨ht, below_join hbw hb, Nat.le_trans hbw.size hbm, trivial, fun _ _ _ h => h⟩
    clear ht hb htb hbm hbw
    go_loopw [7] (fun s7 wr => ∃ (k : Nat) (f : Tab), k ≤ n ∧ s7 = .int .i64 k ∧ Stb w tb bm sz f (fun _ => True) wr ∧ FromT ac k f ∧ heldN f sz ≤ k) (fun i _ => n - (intOf i).toNat)
    case atStart => exact ⟨0, tabE, by omega, rfl, st0, FromT0 _, by rw [heldN_tabE]; omega⟩
    case round =>
      clear st0
      obtain ⟨k, f, hk, rfl, st, hF, hH⟩ := hrel
      by_cases hlt : k < n
      · obtain ⟨ad, rfl, had, hrow⟩ := (hr.below st.below).row (by omega)
        obtain ⟨c1, c2, c3⟩ := act_at (hrow k hlt)
        have ok := OK.out k hlt
        have q4 : (k : Int) < (n : Int) := by omega
        clear hrow
        by_cases hk2 : (ac k).k < 2
        case' pos =>
          have hput := held_put f sz hs1 (ac k).p (ac k).x
          have hF2 := Lib.hid (hF.put sz hk2)
          have hH2 : heldN (putT f sz (ac k).p (ac k).x) sz ≤ k + 1 := by omega
          clear hput hF hH
          obtain ⟨f', hf'⟩ : ∃ f', putT f sz (ac k).p (ac k).x = f' := ⟨_, rfl⟩
          rw [hf'] at hF2 hH2
          have HF := Lib.hid hf'
          clear hf'
          go_upto_region 12 with (fail)
          go_still_tail 11, (by kernel_rfl)
          change wpList _ _ _ _ _ (World.drew wr)
          replace st := st.drew
          clear c1 c2 c3 had
          go_upto_region 13 with (go_at_call 47; refine (put_is st.tab ok.p ok.x rfl HF.out).mono ?_; rintro r w4 ⟨rfl, ht, hg⟩; replace st := st.put ht hg; clear ht hg)
        case' neg =>
          have hF2 := Lib.hid hF.mono
          have hH2 : heldN f sz ≤ k + 1 := by omega
          clear hF hH
          go_upto_region 13 with (fail)
        all_goals
          obtain ⟨F, st, hF, hH⟩ : ∃ F : Tab, Stb w tb bm sz F (fun _ => True) _ ∧ FromT ac (k + 1) F ∧ heldN F sz ≤ k + 1 := ⟨_, st, hF2.out, hH2⟩
          clear hF2 hH2
          obtain ⟨ad', e', had, hrow⟩ := (hr.below st.below).row (by omega)
          obtain rfl := Option.some.inj e'
          clear e'
          obtain ⟨d1, d2, d3⟩ := act_at (hrow k hlt)
          clear hrow
          obtain ⟨x, hx⟩ : ∃ x, getE F sz (ac k).p = x := ⟨_, rfl⟩
          obtain ⟨b, hb⟩ : ∃ b, getB F sz (ac k).p = b := ⟨_, rfl⟩
          have ox : EntOk x := hx ▸ getE_ok st.tab.ok sz _
          have HY := Lib.hid (show b = true → anyB ac k x (k + 1) = true from fun h => by rw [← hx]; exact any_of hF (hb.trans h))
          have HN := Lib.hid (show b = false → x = ent0 from fun h => by rw [← hx]; exact getE_no (hb.trans h))
          have HX := Lib.hid (⟨hx, hb⟩ : _ ∧ _)
          have HF' := Lib.hid hF
          clear hx hb hF
          go_upto_region 14 with (go_at_call 49; refine (get_is st.tab ok.p HX.out.1 HX.out.2).mono ?_; rintro r w5 ⟨rfl, hb5⟩; replace st := st.step hb5; clear hb5)
          have st := (st.room (.cells (entA x) 61)).agg (g := w5.heap.size) (ent_cells (heap_alloc_new w5 _)).2.2 (by have := st.tab.lt.2.1; omega)
          have lg : w5.heap.size < (w5.alloc (.cells (entA x) 61)).heap.size := by simp
          generalize w5.alloc (.cells (entA x) 61) = w6 at st lg ⊢
          generalize w5.heap.size = g8 at st lg ⊢
          clear d1 d2 d3 had
          have hr6 := Lib.hid (hr.below st.below)
          have o0 := EntOk0
          go_wp2_with (with_reducible refine at_end ?_)
          go_loopw [10, 11] (fun s10 s11 wx => ∃ m : Nat, m ≤ k + 1 ∧ s11 = .int .i64 m ∧ s10 = .bool (anyB ac k x m) ∧ Below w6.heap.size w6 wx) (fun _ i _ => k + 1 - (intOf i).toNat)
          case atStart => exact ⟨0, by omega, rfl, rfl, Below.refl _ _⟩
          case round =>
            obtain ⟨m, hm, rfl, rfl, hbx⟩ := hrel
            by_cases hmk : m < k + 1
            · obtain ⟨ad', e', had, hrow⟩ := (hr6.out.below hbx).row (by omega)
              obtain rfl := Option.some.inj e'
              clear e'
              obtain ⟨d1, d2, d3⟩ := act_at (hrow k hlt)
              obtain ⟨m1, m2, m3⟩ := act_at (hrow m (by omega))
              have ex := aggAt_below st.fact.2 hbx lg
              have lx := Nat.lt_of_lt_of_le lg hbx.size
              have om := OK.out m (by omega)
              have omx := om.x
              have q5 : (m : Int) ≤ (k : Int) := by omega
              have q6 : (m : Int) < (n : Int) := by omega
              have HA := Lib.hid (anyB_succ ac k x m)
              clear hrow
              have HC : anyB ac k x m = true ∨ (anyB ac k x m = false ∧ ¬(ac m).k < 2) ∨ (anyB ac k x m = false ∧ (ac m).k < 2 ∧ ¬(ac m).x = x) ∨ (anyB ac k x m = false ∧ (ac m).k < 2 ∧ (ac m).x = x) := by
                rcases Bool.eq_false_or_eq_true (anyB ac k x m) with h1 | h1
                · exact Or.inl h1
                · by_cases h2 : (ac m).k < 2
                  · by_cases h3 : (ac m).x = x
                    · exact Or.inr (Or.inr (Or.inr ⟨h1, h2, h3⟩))
                    · exact Or.inr (Or.inr (Or.inl ⟨h1, h2, h3⟩))
                  · exact Or.inr (Or.inl ⟨h1, h2⟩)
              rcases HC with h1 | ⟨h1, h2⟩ | ⟨h1, h2, h3⟩ | ⟨h1, h2, h3⟩
              · have HR := Lib.hid (show anyB ac k x (m + 1) = true from by rw [HA.out, h1]; rfl)
                clear HA
                go_wp2_with (with_reducible refine at_end ?_)
                try simp only [h1]
                clear h1
                refine wp_region_after (by kernel_rfl) (by kernel_rfl) ?_
                iterate 2 ((with_reducible refine wpQuiet_step (fun K hK => ?_)); go_simp; (with_reducible refine hK _ ?_); clear hK K)
                iterate 28 ((with_reducible refine wpQuiet_skip ?_ ?_); (· kernel_rfl))
                iterate 2 ((with_reducible refine wpQuiet_step (fun K hK => ?_)); go_simp; (with_reducible refine hK _ ?_); clear hK K)
                with_reducible refine wpQuiet_nil ?_
                intro w7 hb7
                have hbx7 := below_join hbx hb7
                clear hb7 m1 m2 m3 d1 d2 d3 ex
                go_wp2_with (with_reducible refine at_end ?_)
                go_roundw
                case rel => exact ⟨m + 1, by omega, by go_num, by rw [HR.out] <;> first | rfl | simp, hbx7⟩
                case measure => simp [intOf]; omega
              · have HR := Lib.hid (show anyB ac k x (m + 1) = false from by rw [HA.out, h1]; simp [isB, h2])
                clear HA
                go_wp2_with (with_reducible refine at_end ?_)
                try simp only [h1]
                clear h1
                have q9 : ((ac m).k < 2) = False := eq_false (by omega)
                have q8 : decide ((ac m).k < 2) = false := decide_eq_false (by omega)
                refine wp_region_after (by kernel_rfl) (by kernel_rfl) ?_
                iterate 9 ((with_reducible refine wpQuiet_step (fun K hK => ?_)); go_simp; (with_reducible refine hK _ ?_); clear hK K)
                iterate 7 ((with_reducible refine wpQuiet_skip ?_ ?_); (· kernel_rfl))
                iterate 2 ((with_reducible refine wpQuiet_step (fun K hK => ?_)); go_simp; (with_reducible refine hK _ ?_); clear hK K)
                iterate 11 ((with_reducible refine wpQuiet_skip ?_ ?_); (· kernel_rfl))
                iterate 3 ((with_reducible refine wpQuiet_step (fun K hK => ?_)); go_simp; (with_reducible refine hK _ ?_); clear hK K)
                with_reducible refine wpQuiet_nil ?_
                intro w7 hb7
                have hbx7 := below_join hbx hb7
                clear hb7 m1 m2 m3 d1 d2 d3 ex
                go_wp2_with (with_reducible refine at_end ?_)
                go_roundw
                case rel => exact ⟨m + 1, by omega, by go_num, by rw [HR.out] <;> first | rfl | simp, hbx7⟩
                case measure => simp [intOf]; omega
              · have HR := Lib.hid (show anyB ac k x (m + 1) = false from by rw [HA.out, h1]; simp [isB, h3])
                clear HA
                go_wp2_with (with_reducible refine at_end ?_)
                try simp only [h1]
                clear h1
                refine wp_region_after (by kernel_rfl) (by kernel_rfl) ?_
                iterate 18 ((with_reducible refine wpQuiet_step (fun K hK => ?_)); go_simp; (with_reducible refine hK _ ?_); clear hK K)
                iterate 11 ((with_reducible refine wpQuiet_skip ?_ ?_); (· kernel_rfl))
                iterate 3 ((with_reducible refine wpQuiet_step (fun K hK => ?_)); go_simp; (with_reducible refine hK _ ?_); clear hK K)
                with_reducible refine wpQuiet_nil ?_
                intro w7 hb7
                have hbx7 := below_join hbx hb7
                clear hb7 m1 m2 m3 d1 d2 d3 ex
                go_wp2_with (with_reducible refine at_end ?_)
                go_roundw
                case rel => exact ⟨m + 1, by omega, by go_num, by rw [HR.out] <;> first | rfl | simp, hbx7⟩
                case measure => simp [intOf]; omega
              · have HR := Lib.hid (show anyB ac k x (m + 1) = sameB (ac m).p (ac k).p from by rw [HA.out, h1]; simp [isB, h2, h3])
                clear HA
                go_wp2_with (with_reducible refine at_end ?_)
                try simp only [h1]
                clear h1
                refine wp_region_after (by kernel_rfl) (by kernel_rfl) ?_
                repeat (refine wpQuiet_step (fun K hK => ?_); go_simp; first | (refine hK _ ?_; clear hK K) | (apply Exists.intro; refine ⟨fun p => ?_, hK _ ?_⟩; (go_at_call 59; exact After.call p (same_any _ _ _ om.p ok.p)); clear hK K))
                refine wpQuiet_nil ?_
                intro w7 hb7
                have hbx7 := below_join hbx hb7
                clear hb7 m1 m2 m3 d1 d2 d3 ex
                go_wp2_with (with_reducible refine at_end ?_)
                go_roundw
                case rel => exact ⟨m + 1, by omega, by go_num, by rw [HR.out] <;> first | rfl | simp, hbx7⟩
                case measure => simp [intOf]; omega
            · obtain rfl : m = k + 1 := by omega
              have q5 : ¬(((k + 1 : Nat) : Int) ≤ (k : Int)) := by omega
              have ex := aggAt_below st.fact.2 hbx lg
              have lx := Nat.lt_of_lt_of_le lg hbx.size
              have st9 : Stb w tb bm sz F (fun _ => True) _ := ⟨st.tab.below hbx, below_join st.below hbx, st.hbm, trivial, fun _ _ _ h => h⟩
              rcases Bool.eq_false_or_eq_true b with hbt | hbt
              · have hy := HY.out hbt
                clear HY
                go_wp2_with (with_reducible refine at_end ?_)
                go_roundw
                case rel => exact ⟨k + 1, F, by omega, by go_num, st9, HF'.out, hH⟩
                case measure => simp [intOf]; omega
              · have hy := HN.out hbt
                rw [hy] at ex
                clear HY
                go_wp2_with (with_reducible refine at_end ?_)
                go_roundw
                case rel => exact ⟨k + 1, F, by omega, by go_num, st9, HF'.out, hH⟩
                case measure => simp [intOf]; omega
      · obtain rfl : k = n := by omega
        have q4 : ¬(k : Int) < (k : Int) := by omega
        have g1 : heldN f sz ≤ sz := heldN_le _ _
        have g2 : (heldN f sz : Int) ≤ (sz : Int) := by omega
        have g3 : (heldN f sz : Int) ≤ (k : Int) := by omega
        go_wp2_with (first | (with_reducible refine at_end ?_) | (go_at_call 52; refine (held_any st.tab).mono ?_; rintro r w5 ⟨rfl, hb⟩; replace st := st.step hb; clear hb))
        unfold AtEnd
        go_returns
        exact ⟨ret_bool (by simp), st.below⟩
end Go.Proofs.Ytldacinldgjdcaa
