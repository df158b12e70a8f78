/- The walk of the law TableFound: it returns true; of what was in memory nothing turns. -/
import Derived.Test.YtldacinldgjdcaaTabN
namespace Go.Proofs.Ytldacinldgjdcaa
open Go.RowKit Go.Maps
attribute [local go_sem] entA_ne slotA_ne
attribute [local go_sem ↓] lv37 zero37 sv37 lv61 zero61 sv61
attribute [local go_sem] run_lv37 run_zero37 run_sv37 run_lv61 run_sv61 run_zeroEnt rowFree_new rowFree_alloc setRow_new setRow_alloc aggAt_newb aggAt_old aggAt_drew aggAt_drewN posA_size oneCells_pos posA_set kindAt entA_size oneCells_ent After.cell After.frozen After.agg add_block run_b0
attribute [local go_sem high] run_eql61 run_neq61

def clk (c : Nat → Int) (half full : Int) : Nat → Int := upd (upd c 86 half) 87 full
theorem clk_same (c : Nat → Int) (half full : Int) (i : Nat) (hi : i < 86) : clk c half full i = c i := by
  unfold clk
  rw [upd_other _ _ _ _ (by omega), upd_other _ _ _ _ (by omega)]
theorem clk_idx (c : Nat → Int) (half full : Int) (sz : Nat) : idxOf sz (clk c half full) = idxOf sz c := by
  unfold idxOf
  rw [keyV_congr (clk_same c half full)]
theorem clk_get {f : Tab} {sz : Nat} {c : Nat → Int} {e : Ent} (h : putB f sz c e = true) (half full : Int) :
    getE (putT f sz c e) sz (clk c half full) = e ∧ getB (putT f sz c e) sz (clk c half full) = true := by
  have hs : sameB c (clk c half full) = true := sameB_iff.2 fun i hi => (clk_same c half full i hi).symm
  rw [putT_yes h]
  unfold getE getB
  rw [clk_idx]
  simp [setT, hs]
set_option maxRecDepth 100000 in
set_option maxHeartbeats 8000000 in
theorem tableFound_walk (z : Int) (A : Option Addr) (n cap : Nat) (ac : Nat → ActD) (half full : Int) (w : World) (_ : (Lit.int .i64 z).wf = true) (hp : ActSl w A n cap ac)
    (wh : (Lit.int .i64 half).wf = true) (wf : (Lit.int .i64 full).wf = true) :
    Calls Try.prog 14 #[.int .i64 z, .slice A n cap, .int .i64 half, .int .i64 full] w fun e w' => e = .returned (.bool true) ∧ Below w.heap.size w w' := by
  obtain ⟨hr, _, _, _⟩ := hp
  by_cases hno : z < 1 ∨ 4096 < z ∨ 60 < n
  · have H : z < 1 ∨ (¬z < 1 ∧ 4096 < z) ∨ (¬z < 1 ∧ ¬4096 < z ∧ 60 < (n : Int)) := by omega
    clear hno
    rcases H with h1 | ⟨h1, h2⟩ | ⟨h1, h2, h3⟩
    all_goals
      go_enter Try.func14, Try.ntmps14
      go_wp2_with (first | (with_reducible refine at_end ?_) | (go_at_call 55; refine (awake26_any _).mono ?_; rintro r w2 ⟨rfl, hb⟩))
      unfold AtEnd
      go_returns
      exact ⟨rfl, hb⟩
  · obtain ⟨sz, rfl, hs1, hs2⟩ : ∃ sz : Nat, z = (sz : Int) ∧ 1 ≤ sz ∧ sz ≤ 4096 := ⟨z.toNat, by omega, by omega, by omega⟩
    have hn : n ≤ 60 := by omega
    have q1 : ¬(sz : Int) < 1 := by omega
    have q2 : ¬(4096 : Int) < sz := by omega
    have q3 : ¬(60 : Int) < n := by omega
    have OK := Lib.hid hr.ok
    have WH := Lib.hid wh
    have WF := Lib.hid wf
    clear hno wh wf
    go_enter Try.func14, Try.ntmps14
    go_wp2_with (first | (with_reducible refine at_end ?_) | (go_at_call 55; refine (awake26_any _).mono ?_; rintro r w2 ⟨rfl, hbw⟩) | (go_at_call 44; refine (new_any hs1 hs2 _).mono ?_; rintro r w3 ⟨tb, bm, rfl, ht, hb, htb, hbm⟩))
    have st0 : Stb w tb bm sz tabE (fun _ => True) w3 := ⟨ht, below_join hbw hb, Nat.le_trans hbw.size hbm, trivial, fun _ _ _ h => h⟩
    clear ht hb htb hbm hbw
    go_loopw [11] (fun s11 wr => ∃ (k : Nat) (f : Tab), k ≤ n ∧ s11 = .int .i64 k ∧ Stb w tb bm sz f (fun _ => True) wr) (fun i _ => n - (intOf i).toNat)
    case atStart => exact ⟨0, tabE, by omega, rfl, st0⟩
    case round =>
      clear st0
      obtain ⟨k, f, hk, rfl, st⟩ := hrel
      by_cases hlt : k < n
      · obtain ⟨ad, rfl, had, hrow⟩ := (hr.below st.below).row (by omega)
        obtain ⟨c1, c2, c3⟩ := act_at (hrow k hlt)
        have ok := OK.out k hlt
        have q4 : (k : Int) < (n : Int) := by omega
        clear hrow
        have HG := Lib.hid (fun h => clk_get (f := f) (sz := sz) (c := (ac k).p) (e := (ac k).x) h half full)
        obtain ⟨f', hf'⟩ : ∃ f', putT f sz (ac k).p (ac k).x = f' := ⟨_, rfl⟩
        obtain ⟨b, hb⟩ : ∃ b, putB f sz (ac k).p (ac k).x = b := ⟨_, rfl⟩
        rw [hf', hb] at HG
        have HF := Lib.hid (⟨hf', hb⟩ : _ ∧ _)
        clear hf' hb
        go_upto_region 11 with (fail)
        go_still_tail 11, (by kernel_rfl)
        change wpList _ _ _ _ _ (World.drew wr)
        replace st := st.drew
        clear c1 c2 c3 had
        rcases Bool.eq_false_or_eq_true b with hbt | hbt
        · go_upto_region 12 with (go_at_call 47; refine (put_is st.tab ok.p ok.x HF.out.2 HF.out.1).mono ?_; rintro r w4 ⟨rfl, ht, hg⟩; replace st := st.put ht hg; clear ht hg)
          obtain ⟨g1, g2⟩ := HG.out hbt
          have G := Lib.hid (⟨g1, g2⟩ : _ ∧ _)
          clear g1 g2 HG HF
          obtain ⟨ad', e', had, hrow⟩ := (hr.below st.below).row (by omega)
          obtain rfl := Option.some.inj e'
          clear e'
          obtain ⟨d1, d2, d3⟩ := act_at (hrow k hlt)
          clear hrow
          go_wp2_with (with_reducible refine at_end ?_)
          have oq : PosOk (clk (ac k).p half full) := (ok.p.upd 86 half WH.out).upd 87 full WF.out
          have OQ := Lib.hid oq
          have pq : aggAt (w4.alloc (.cells (posA (clk (ac k).p half full)) 37)) ⟨w4.heap.size, 0, none⟩ 88 = some (posA (clk (ac k).p half full)) := by have := aggAt_row (heap_alloc_new w4 (.cells (posA (clk (ac k).p half full)) 37)); rwa [posA_size] at this
          have lq : w4.heap.size < (w4.alloc (.cells (posA (clk (ac k).p half full)) 37)).heap.size := by simp
          have nq : w4.heap.size ≠ bm := by have := st.tab.lt.2.1; omega
          replace st := st.step ((Below.refl _ _).alloc (Nat.le_refl _) (.cells (posA (clk (ac k).p half full)) 37))
          clear oq d1 d2 d3 had
          change Code.wp _ _ _ _ (w4.alloc (.cells (posA (clk (ac k).p half full)) 37))
          generalize w4.alloc (.cells (posA (clk (ac k).p half full)) 37) = w6 at st pq lq ⊢
          generalize w4.heap.size = g12 at pq lq nq ⊢
          have hix := clk_idx (ac k).p half full sz
          clear hix
          generalize clk (ac k).p half full = q at pq OQ G ⊢
          have ox := ok.x
          obtain ⟨x, hx⟩ : ∃ x, (ac k).x = x := ⟨_, rfl⟩
          have HX := Lib.hid hx
          rw [hx] at G ox
          clear hx
          go_loopw [13] (fun s13 wx => ∃ m : Nat, k + 1 ≤ m ∧ m ≤ n + 1 ∧ s13 = .int .i64 m ∧ Stb w tb bm sz f' (fun _ => True) wx ∧ aggAt wx ⟨g12, 0, none⟩ 88 = some (posA q) ∧ g12 < wx.heap.size) (fun i _ => n + 1 - (intOf i).toNat)
          case atStart => exact ⟨k + 1, by omega, by omega, by go_num, st, pq, lq⟩
          case round =>
            clear st pq lq
            obtain ⟨m, hkm, hm, rfl, st, pq, lq⟩ := hrel
            by_cases hmn : m < n + 1
            · have q5 : (m : Int) ≤ (n : Int) := by omega
              go_upto_region 18 with (go_at_call 49; refine (get_is st.tab OQ.out G.out.1 G.out.2).mono ?_; rintro r w7 ⟨rfl, hb7⟩; replace st := st.step hb7; replace pq := aggAt_below pq hb7 lq; replace lq := Nat.lt_of_lt_of_le lq hb7.size; clear hb7)
              have e1 := (ent_cells (heap_alloc_new w7 (.cells (entA x) 61))).2.2
              have l1 : w7.heap.size < (w7.alloc (.cells (entA x) 61)).heap.size := by simp
              have hb8 : Below w7.heap.size w7 (w7.alloc (.cells (entA x) 61)) := (Below.refl _ _).alloc (Nat.le_refl _) (.cells (entA x) 61)
              replace st := st.step hb8
              replace pq := aggAt_below pq hb8 lq
              replace lq := Nat.lt_of_lt_of_le lq hb8.size
              clear hb8
              generalize w7.alloc (.cells (entA x) 61) = w8 at st e1 l1 pq lq ⊢
              generalize w7.heap.size = g14 at e1 l1 ⊢
              obtain ⟨ad', e', had, hrow⟩ := (hr.below st.below).row (by omega)
              obtain rfl := Option.some.inj e'
              clear e'
              obtain ⟨d1, d2, d3⟩ := act_at (hrow k hlt)
              rw [HX.out] at d3
              refine wp_region_after (by kernel_rfl) (by kernel_rfl) ?_
              iterate 11 ((with_reducible refine wpQuiet_step (fun K hK => ?_)); go_simp; (with_reducible refine hK _ ?_); clear hK K)
              with_reducible refine wpQuiet_nil ?_
              intro w9 hb9
              replace st := st.step hb9
              replace pq := aggAt_below pq hb9 lq
              replace lq := Nat.lt_of_lt_of_le lq hb9.size
              clear hb9 d1 d2 d3 had hrow e1 l1
              go_upto_region 20 with (fail)
              by_cases hml : m < n
              · obtain ⟨ad', e', had, hrow⟩ := (hr.below st.below).row (by omega)
                obtain rfl := Option.some.inj e'
                clear e'
                obtain ⟨d1, d2, d3⟩ := act_at (hrow m hml)
                have om := OK.out m hml
                have q6 : (m : Int) < (n : Int) := by omega
                have q7 : IntKind.u64.wrap (sz : Int) = sz := by rw [IntKind.wrap_u64]; omega
                have q8 : ¬(sz : Int) = 0 := by omega
                have q9 : ¬sz = 0 := by omega
                obtain ⟨ia, hia⟩ : ∃ ia, idxOf sz (ac m).p = ia := ⟨_, rfl⟩
                obtain ⟨iq, hiq⟩ : ∃ iq, idxOf sz q = iq := ⟨_, rfl⟩
                have t1 : (keyV (ac m).p).tmod (sz : Int) = (ia : Int) := by rw [← hia]; exact idxOf_int hs1 _
                have t2 : (keyV q).tmod (sz : Int) = (iq : Int) := by rw [← hiq]; exact idxOf_int hs1 _
                clear hia hiq hrow d1 d3
                by_cases hi : ia = iq
                · subst hi
                  refine wp_region_after (by kernel_rfl) (by kernel_rfl) ?_
                  iterate 21 ((with_reducible refine wpQuiet_step (fun K hK => ?_)); go_simp; first | ((with_reducible refine hK _ ?_); clear hK K) | (apply Exists.intro; refine ⟨fun p => ?_, hK _ ?_⟩; (go_at_call 42; exact After.call p (key_any _ (by with_reducible first | exact om.p | exact OQ.out) _)); clear hK K))
                  with_reducible refine wpQuiet_nil ?_
                  intro w10 hb10
                  replace st := st.step hb10
                  clear hb10 d2 had pq lq
                  go_wp2_with (with_reducible refine at_end ?_)
                  go_roundw
                  case rel => exact ⟨k + 1, f', by omega, by go_num, st⟩
                  case measure => simp [intOf]; omega
                · have hi1 : ((ia : Int) == (iq : Int)) = false := by simp; omega
                  have hi2 : ¬(ia : Int) = (iq : Int) := by omega
                  refine wp_region_after (by kernel_rfl) (by kernel_rfl) ?_
                  iterate 21 ((with_reducible refine wpQuiet_step (fun K hK => ?_)); go_simp; first | ((with_reducible refine hK _ ?_); clear hK K) | (apply Exists.intro; refine ⟨fun p => ?_, hK _ ?_⟩; (go_at_call 42; exact After.call p (key_any _ (by with_reducible first | exact om.p | exact OQ.out) _)); clear hK K))
                  with_reducible refine wpQuiet_nil ?_
                  intro w10 hb10
                  replace st := st.step hb10
                  replace pq := aggAt_below pq hb10 lq
                  replace lq := Nat.lt_of_lt_of_le lq hb10.size
                  clear hb10 d2 had
                  obtain ⟨ad', e', had, hrow⟩ := (hr.below st.below).row (by omega)
                  obtain rfl := Option.some.inj e'
                  clear e'
                  obtain ⟨d1, d2, d3⟩ := act_at (hrow m hml)
                  clear hrow d1 d3
                  go_wp2_with (first | (with_reducible refine at_end ?_) | (go_at_call 49; refine (get_any _ st.tab om.p).mono ?_; rintro r w11 ⟨rfl, hb11⟩; replace st := st.step hb11; replace pq := aggAt_below pq hb11 lq; replace lq := Nat.lt_of_lt_of_le lq hb11.size; clear hb11))
                  go_roundw
                  case rel => exact ⟨m + 1, by omega, by omega, by go_num, st, pq, lq⟩
                  case measure => simp [intOf]; omega
              · obtain rfl : m = n := by omega
                have q6 : ¬(m : Int) < (m : Int) := by omega
                refine wp_region_after (by kernel_rfl) (by kernel_rfl) ?_
                iterate 5 ((with_reducible refine wpQuiet_step (fun K hK => ?_)); go_simp; (with_reducible refine hK _ ?_); clear hK K)
                iterate 15 ((with_reducible refine wpQuiet_skip ?_ ?_); (· kernel_rfl))
                (with_reducible refine wpQuiet_step (fun K hK => ?_)); go_simp; (with_reducible refine hK _ ?_); clear hK K
                with_reducible refine wpQuiet_nil ?_
                intro w10 hb10
                replace st := st.step hb10
                replace pq := aggAt_below pq hb10 lq
                replace lq := Nat.lt_of_lt_of_le lq hb10.size
                clear hb10
                go_wp2_with (with_reducible refine at_end ?_)
                go_roundw
                case rel => exact ⟨m + 1, by omega, by omega, by go_num, st, pq, lq⟩
                case measure => simp [intOf]
            · obtain rfl : m = n + 1 := by omega
              have q5 : ¬(((n + 1 : Nat) : Int) ≤ (n : Int)) := by omega
              go_wp2_with (with_reducible refine at_end ?_)
              go_roundw
              case rel => exact ⟨k + 1, f', by omega, by go_num, st⟩
              case measure => simp [intOf]; omega
        · go_wp2_with (first | (with_reducible refine at_end ?_) | (go_at_call 47; refine (put_is st.tab ok.p ok.x HF.out.2 HF.out.1).mono ?_; rintro r w4 ⟨rfl, ht, hg⟩; replace st := st.put ht hg; clear ht hg))
          go_roundw
          case rel => exact ⟨k + 1, f', by omega, by go_num, st⟩
          case measure => simp [intOf]; omega
      · obtain rfl : k = n := by omega
        have q4 : ¬(k : Int) < (k : Int) := by omega
        go_wp2_with (with_reducible refine at_end ?_)
        unfold AtEnd
        go_returns
        exact ⟨rfl, st.below⟩
end Go.Proofs.Ytldacinldgjdcaa
