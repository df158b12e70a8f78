/- The walk of the law RepeatsMore: it returns true; of what was in memory nothing turns. -/
import Derived.Test.YtldacinldgjdcaaRepB
namespace Go.Proofs.Ytldacinldgjdcaa
open Go.RowKit
attribute [local go_sem ↓] lv37 zero37 sv37
attribute [local go_sem] run_lv37 run_zero37 run_sv37 rowFree_new rowFree_alloc setRow_new setRow_alloc aggAt_newb aggAt_old aggAt_drew aggAt_drewN posA_size oneCells_pos posA_set kindAt After.cell After.frozen After.agg add_block

theorem sameB_right {a b c : Nat → Int} (h : ∀ i, i < 86 → b i = c i) : sameB a b = sameB a c := by
  rw [Bool.eq_iff_iff, sameB_iff, sameB_iff]
  exact ⟨fun k i hi => (k i hi).trans (h i hi), fun k i hi => (k i hi).trans (h i hi).symm⟩
theorem times_more (n : Nat) (ps : Nat → Nat → Int) (q : Nat → Int) (hq : ∀ i, i < 86 → q i = ps (n - 1) i) :
    timesTo (psJoin n ps (psOf [q])) (n + 1) (n + 1) = timesTo ps n n + 1 := by
  have e : psJoin n ps (psOf [q]) n = q := by simp [psJoin, psOf]
  unfold timesTo
  rw [Nat.add_sub_cancel, e, List.range_succ, List.filter_append, List.length_append]
  have h1 : (List.range n).filter (fun i => sameB (psJoin n ps (psOf [q]) i) q) = (List.range n).filter fun i => sameB (ps i) (ps (n - 1)) := by
    apply List.filter_congr
    intro i hi
    have hi' : i < n := by simpa using hi
    rw [show psJoin n ps (psOf [q]) i = ps i by simp [psJoin, hi']]
    exact sameB_right hq
  rw [h1]
  simp [e, sameB_refl]
theorem times_ahead (n : Nat) (ps : Nat → Nat → Int) (p : Nat → Int) (hn : 1 ≤ n) :
    timesTo (psJoin 1 (psOf [p]) ps) (1 + n) (1 + n) = timesTo ps n n + (if sameB p (ps (n - 1)) then 1 else 0) := by
  have e : psJoin 1 (psOf [p]) ps (1 + n - 1) = ps (n - 1) := by
    unfold psJoin
    rw [if_neg (by omega), show 1 + n - 1 - 1 = n - 1 by omega]
  unfold timesTo
  rw [e, List.range_add, List.filter_append, List.length_append, List.filter_map, List.length_map]
  have h1 : (fun i => sameB (psJoin 1 (psOf [p]) ps i) (ps (n - 1))) ∘ (fun x => 1 + x) = fun i => sameB (ps i) (ps (n - 1)) := by
    funext i
    have : psJoin 1 (psOf [p]) ps (1 + i) = ps i := by
      unfold psJoin
      rw [if_neg (by omega), show 1 + i - 1 = i by omega]
    simp [this]
  rw [h1, Nat.add_comm]
  have h0 : psJoin 1 (psOf [p]) ps 0 = p := by simp [psJoin, psOf]
  congr 1
  simp only [List.range_one, List.filter_cons, h0, List.filter_nil]
  split <;> rfl
theorem times_is {A : Option Addr} {n cap : Nat} {ps : Nat → Nat → Int} {w : World} (hp : PosRow w A n ps) (hn : n ≤ 1000000) {z : Int} (hz : (timesTo ps n n : Int) = z) :
    Calls Try.prog 22 #[.slice A n cap] w fun e w' => e = .returned (.int .i64 z) ∧ Below w.heap.size w w' := hz ▸ times_any A n cap ps w hp hn
theorem claim_is {A : Option Addr} {n cap : Nat} {ps : Nat → Nat → Int} {w : World} (hp : PosRow w A n ps) (hn : n ≤ 1000000) {b : Bool} (hb : decide (3 ≤ (timesTo ps n n : Int)) = b) :
    Calls Try.prog 25 #[.slice A n cap] w fun e w' => e = .returned (.bool b) ∧ Below w.heap.size w w' := hb ▸ claim_any A n cap ps w hp hn
theorem of_is {A : Option Addr} {n cap : Nat} {ps : Nat → Nat → Int} {w : World} (hp : PosRow w A n ps) (hn : n ≤ 1000000) {v : Array Value} (hv : ofV (timesTo ps n n) = v) :
    Calls Try.prog 23 #[.slice A n cap] w fun e w' => e = .returned (.agg v) ∧ Below w.heap.size w w' := hv ▸ of_any A n cap ps w hp hn
theorem own_below {w w' : World} {base : Nat} {v : Value} {n : Nat} {xs : List Value} (h : w.ownsRow base 37 88 v n xs) (hb : Below w.heap.size w w') : w'.ownsRow base 37 88 v n xs :=
  h.kept (grown_of hb) (by cases v.ownBlock <;> simp)
theorem Sta.agg {w0 : World} {F : World → Prop} {w : World} (h : Sta w0 F w) {g : Nat} {c : Nat → Int} (hc : aggAt w ⟨g, 0, none⟩ 88 = some (posA c)) : Sta w0 (fun u => F u ∧ aggAt u ⟨g, 0, none⟩ 88 = some (posA c)) w :=
  h.also hc fun u u' hb hu => aggAt_below hu hb (by
    obtain ⟨_, h2⟩ := aggAt_cell hu
    have h3 := h2 0 (by omega)
    rw [add0, posA_get _ _ (by omega)] at h3
    exact block_lt_of_cell h3)
theorem agg_lt {w : World} {g : Nat} {c : Nat → Int} (hu : aggAt w ⟨g, 0, none⟩ 88 = some (posA c)) : g < w.heap.size := by
  obtain ⟨_, h2⟩ := aggAt_cell hu
  have h3 := h2 0 (by omega)
  rw [add0, posA_get _ _ (by omega)] at h3
  exact block_lt_of_cell h3
theorem run_field3 (w : World) : (Instr.field 25 (Value.agg #[.int .u8 3, .int .u8 5]) 0).run Try.prog w = .ok (.int .u8 3) w := by kernel_rfl
theorem run_field0 (w : World) : (Instr.field 25 (Value.agg #[.int .u8 0, .int .u8 0]) 0).run Try.prog w = .ok (.int .u8 0) w := by kernel_rfl
attribute [local go_sem] run_field3 run_field0
set_option maxRecDepth 100000 in
set_option maxHeartbeats 1000000 in
theorem repeatsMore_walk (A : Option Addr) (n cap : Nat) (ps : Nat → Nat → Int) (p : Nat → Int) (half full : Int) (w : World) (hp : PosSl w A n cap ps) (hc : PosOk p) (wh : (Lit.int .i64 half).wf = true) (wf : (Lit.int .i64 full).wf = true) :
    Calls Try.prog 17 #[.slice A n cap, .agg (posA p), .int .i64 half, .int .i64 full] w fun e w' => e = .returned (.bool true) ∧ Below w.heap.size w w' := by
  obtain ⟨hr, hle, hmax, hnil⟩ := hp
  unfold maxLen at hmax
  have st : Sta w (fun _ => True) (w.alloc (.cells (posA p) 37)) := ⟨(Below.refl _ _).alloc (Nat.le_refl _) _, trivial, fun _ _ _ h => h⟩
  replace st := (st.row (hr.below st.below)).agg (aggAt_new w (posA p) 37 88 (posA_size p))
  by_cases hbig : n < 1 ∨ 100 < n
  · go_enter Try.func17, Try.ntmps17
    go_wp2_with (with_reducible refine at_end ?_)
    refine (awake21_any _).mono ?_
    rintro e w1 ⟨rfl, hb⟩
    replace st := st.step hb
    rcases hbig with hbig | hbig
    · have q1 : (n : Int) < 1 := by omega
      go_wp2_with (with_reducible refine at_end ?_)
      unfold AtEnd
      go_returns
      exact ⟨rfl, st.below⟩
    · have q1 : ¬(n : Int) < 1 := by omega
      have q2 : (100 : Int) < n := by omega
      go_wp2_with (with_reducible refine at_end ?_)
      unfold AtEnd
      go_returns
      exact ⟨rfl, st.below⟩
  · have q1 : ¬(n : Int) < 1 := by omega
    have q2 : ¬(100 : Int) < n := by omega
    have h100 : n ≤ 100 := by omega
    have h1n : 1 ≤ n := by omega
    clear hbig
    obtain ⟨T, hT⟩ : ∃ T, timesTo ps n n = T := ⟨_, rfl⟩
    have hTn : T ≤ n := by rw [← hT]; exact timesTo_le _ _ _
    have HT := Lib.hid hT
    have OK := Lib.hid hr.ok
    have HN := Lib.hid hnil
    have OP := Lib.hid hc
    clear hT hr hnil hc
    go_enter Try.func17, Try.ntmps17
    go_wp2_with (with_reducible refine at_end ?_)
    refine (awake21_any _).mono ?_
    rintro e w1 ⟨rfl, hb⟩
    replace st := st.step hb
    clear hb
    go_wp2_with (with_reducible refine at_end ?_)
    refine (times_is st.fact.1.2 (by omega) (z := T) (by rw [HT.out])).mono ?_
    rintro e w2 ⟨rfl, hb⟩
    replace st := st.step hb
    clear hb
    obtain ⟨ad, hA, had, hrow⟩ := st.fact.1.2.row (by omega)
    have hlast := hrow (n - 1) (by omega)
    subst hA
    clear hrow
    have q3 : IntKind.i64.wrap ((n : Int) - 1) = (n : Int) - 1 := IntWalk.i64_in _ (by omega)
    have q4 : ((n : Int) - 1).toNat = n - 1 := by omega
    have q5 : (0 : Int) ≤ (n : Int) - 1 := by omega
    have q6 : (n : Int) - 1 < (n : Int) := by omega
    have q7 : (1 : Int) ≤ (n : Int) := by omega
    go_wp2_with (first | (with_reducible refine at_end ?_) | (at_builtin; refine append_ps _ rfl _ _ rfl (w2.heap.size + 1) (.slice none 0 0) 0 ps rfl (World.ownsRow_nil _ _ _ _) (some ad) n cap ps rfl (fun e => by cases e) (st.fact.1.2.below ((Below.refl _ _).alloc (Nat.le_refl _) _)) (by omega) (by simp) ?_))
    intro v1 w3 hown hgrow _
    rw [psJoin0] at hown
    have hb3 := (Below.refl (w2.alloc (.cells (posA (upd (upd (ps (n - 1)) 86 half) 87 full)) 37)).heap.size (w2.alloc (.cells (posA (upd (upd (ps (n - 1)) 86 half) 87 full)) 37))).grown hgrow (Nat.le_refl _) (by simp [Value.ownBlock])
    have stW := (st.step ((Below.refl _ _).alloc (Nat.le_refl _) (.cells (posA (upd (upd (ps (n - 1)) 86 half) 87 full)) 37))).agg (aggAt_new w2 _ 37 88 (posA_size _))
    have hq86 : ∀ i, i < 86 → upd (upd (ps (n - 1)) 86 half) 87 full i = ps (n - 1) i := fun i hi => by rw [upd_other _ _ _ _ (by omega), upd_other _ _ _ _ (by omega)]
    have OQ : PosOk (upd (upd (ps (n - 1)) 86 half) 87 full) := ((OK.out (n - 1) (by omega)).upd 86 half wh).upd 87 full wf
    have hW : (w2.alloc (.cells (posA (upd (upd (ps (n - 1)) 86 half) 87 full)) 37)).heap.size = w2.heap.size + 1 := by simp
    clear st hlast hgrow had q3 q4 q5 q6 q7
    generalize upd (upd (ps (n - 1)) 86 half) 87 full = q at *
    generalize w2.alloc (.cells (posA q) 37) = W at *
    have st3 := stW.step hb3
    have a10 := st3.fact.2
    have HQ := Lib.hid hq86
    have OQ' := Lib.hid OQ
    have l10 := agg_lt a10
    clear hq86 OQ
    go_wp2_with (first | (with_reducible refine at_end ?_) | ((with_reducible refine wpList_buildPs _ rfl [q] 1 _ rfl ?_ ?_ ?_ ?_ ?_ ?_); (· rfl); (· omega); (· omega); (· simp [Act.eval]); (· intro c hc; rw [List.mem_singleton] at hc; rw [hc]; exact OQ'.out)))
    intro w4 hl4 hb4 hz4
    clear hz4
    have hown4 := own_below hown hb4
    have HB4 := hb3.trans (hb4.mono hb3.size)
    clear a10 l10
    go_wp2_with (first | (with_reducible refine at_end ?_) | (at_builtin; refine append_ps _ rfl _ _ rfl (w2.heap.size + 1) v1 n ps rfl hown4 (some ⟨w3.heap.size, 0, none⟩) 1 1 (psOf [q]) rfl (fun e => by cases e) hl4 (by omega) (by have := HB4.size; omega) ?_))
    intro v5 w5 hown5 hgrow5 _
    have HB5 := HB4.grown hgrow5 HB4.size (fun g hg => by have := (hown4.lt g hg).1; omega)
    obtain ⟨A1, cap1, rfl, _, hm⟩ := PosRow.of_own hown5 (fun i hi => by
      unfold psJoin
      split
      · exact OK.out i (by assumption)
      · exact psOf_ok (l := [q]) (fun c hc => by rw [List.mem_singleton] at hc; rw [hc]; exact OQ'.out) _ (by simp; omega))
    have st5 := (stW.step HB5).row hm
    clear hown hown4 hown5 hgrow5 HB4 HB5 hb3 hb4 hl4 hm st3 stW
    have a5 := st5.fact.1.1.2
    have l5 := agg_lt a5
    go_wp2_with (first | (with_reducible refine at_end ?_) | ((with_reducible refine wpList_buildPs _ rfl [p] 1 _ rfl ?_ ?_ ?_ ?_ ?_ ?_); (· rfl); (· omega); (· omega); (· simp [Act.eval]); (· intro c hc; rw [List.mem_singleton] at hc; rw [hc]; exact OP.out)))
    intro w6 hl6 hb6 hz6
    clear hz6
    have st6 := st5.step hb6
    clear st5 a5 l5 hb6
    go_wp2_with (first | (with_reducible refine at_end ?_) | (at_builtin; refine append_ps _ rfl _ _ rfl w6.heap.size (.slice none 0 0) 0 ps rfl (World.ownsRow_nil _ _ _ _) (some ⟨w5.heap.size, 0, none⟩) 1 1 (psOf [p]) rfl (fun e => by cases e) hl6 (by omega) (Nat.le_refl _) ?_))
    intro v7 w7 hown7 hgrow7 _
    rw [psJoin0] at hown7
    have hb7 := (Below.refl w6.heap.size w6).grown hgrow7 (Nat.le_refl _) (by simp [Value.ownBlock])
    have st7 := st6.step hb7
    clear hgrow7 hl6
    go_wp2_with (first | (with_reducible refine at_end ?_) | (at_builtin; refine append_ps _ rfl _ _ rfl w6.heap.size v7 1 (psOf [p]) rfl hown7 (some ad) n cap ps rfl (fun e => by cases e) st7.fact.1.1.1.2 (by omega) hb7.size ?_))
    intro v8 w8 hown8 hgrow8 _
    have HB8 := hb7.grown hgrow8 hb7.size (fun g hg => (hown7.lt g hg).1)
    obtain ⟨A2, cap2, rfl, _, hm⟩ := PosRow.of_own hown8 (fun i hi => by
      unfold psJoin
      split
      · exact psOf_ok (l := [p]) (fun c hc => by rw [List.mem_singleton] at hc; rw [hc]; exact OP.out) _ (by simp; omega)
      · exact OK.out _ (by omega))
    have st8 := (st6.step HB8).row hm
    clear hown7 hown8 hgrow8 HB8 hb7 st6 st7 hm
    have a5 := st8.fact.1.1.1.2
    have a10 := st8.fact.1.1.2
    have l5 := agg_lt a5
    have l10 := agg_lt a10
    have HM := Lib.hid (times_more n ps q HQ.out)
    have HA := Lib.hid (times_ahead n ps p h1n)
    have HS := Lib.hid (sameB_right (a := p) HQ.out)
    have z1 : IntKind.i64.wrap ((T : Int) + 1) = (T : Int) + 1 := IntWalk.i64_in _ (by omega)
    clear q1 q2
    go_wp2_with (with_reducible refine at_end ?_)
    refine (same_any p q _ OP.out OQ'.out).mono ?_
    rintro e w9 ⟨rfl, hb⟩
    have st := st8.step hb
    clear st8 hb a5 a10 l5 l10
    have hA : ((timesTo (psJoin 1 (psOf [p]) ps) (1 + n) (1 + n) : Nat) : Int) = if sameB p q then (T : Int) + 1 else (T : Int) := by
      rw [HA.out, HT.out, HS.out]
      split <;> simp
    have HM' := Lib.hid (show ((timesTo (psJoin n ps (psOf [q])) (n + 1) (n + 1) : Nat) : Int) = (T : Int) + 1 by rw [HM.out, HT.out]; rfl)
    have HC := Lib.hid (show decide (3 ≤ ((timesTo (psJoin n ps (psOf [q])) (n + 1) (n + 1) : Nat) : Int)) = decide (2 ≤ (T : Int)) by rw [HM.out, HT.out]; apply decide_eq_decide.2; omega)
    have hV : ofV (timesTo (psJoin n ps (psOf [q])) (n + 1) (n + 1)) = if 4 ≤ (T : Int) then #[.int .u8 3, .int .u8 5] else #[.int .u8 0, .int .u8 0] := by
      rw [HM.out, HT.out]
      unfold ofV
      by_cases h : T + 1 < 5
      · rw [if_pos h, if_neg (by omega)]
      · rw [if_neg h, if_pos (by omega)]
    have hX : (if sameB p q = true then (T : Int) + 1 else (T : Int)) = (if sameB p q = true then (T : Int) + 1 else (T : Int)) := rfl
    clear HA HS HM HT hX
    rcases Bool.eq_false_or_eq_true (sameB p q) with hs | hs
    all_goals
      simp only [hs, if_true, Bool.false_eq_true, if_false] at hA
      have HA' := Lib.hid hA
      clear hA
      by_cases h4 : 4 ≤ (T : Int)
      all_goals
        simp only [h4, if_true, if_false] at hV
        have HV := Lib.hid hV
        clear hV
        go_wp2_with (with_reducible refine at_end ?_)
        refine (times_is st.fact.1.2 (by omega) HM'.out).mono ?_
        rintro e w10 ⟨rfl, hb⟩
        replace st := st.step hb
        clear hb
        go_wp2_with (with_reducible refine at_end ?_)
        refine (times_is st.fact.2 (by omega) HA'.out).mono ?_
        rintro e w11 ⟨rfl, hb⟩
        replace st := st.step hb
        clear hb
        go_wp2_with (with_reducible refine at_end ?_)
        refine (claim_is st.fact.1.2 (by omega) HC.out).mono ?_
        rintro e w12 ⟨rfl, hb⟩
        replace st := st.step hb
        clear hb
        go_wp2_with (with_reducible refine at_end ?_)
        refine (of_is st.fact.1.2 (by omega) HV.out).mono ?_
        rintro e w13 ⟨rfl, hb⟩
        replace st := st.step hb
        clear hb
        go_wp2_with (with_reducible refine at_end ?_)
        unfold AtEnd
        go_returns
        exact ⟨ret_bool (by first | rfl | (simp; omega)), st.below⟩
end Go.Proofs.Ytldacinldgjdcaa
