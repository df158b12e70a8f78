/- The walk of the law HashOthers: it returns true; of what was in memory nothing turns. -/
import Derived.Test.YtldacinldgjdcaaKeyW
import Derived.Test.YtldacinldgjdcaaThree
import Derived.Deep.Cut
import Derived.BigRegion
import Derived.StillTailTactics
namespace Go.Proofs.Ytldacinldgjdcaa
open Go.RowKit
attribute [local go_sem ↓] lv37 zero37 sv37
attribute [local go_sem] run_lv37 run_zero37 run_sv37 rowFree_new rowFree_alloc setRow_new setRow_alloc aggAt_newb aggAt_old aggAt_drew aggAt_drewN posA_size oneCells_pos After.cell After.frozen After.agg add_block
theorem wrap_i8 {x : Int} (h : -128 ≤ x ∧ x ≤ 127) : IntKind.i64.wrap x = x := IntWalk.i64_in _ (by omega)
set_option maxRecDepth 100000 in
set_option maxHeartbeats 4000000 in
theorem hashOthers_walk (a b : Nat → Int) (color side kind : Int) (w : World) (ha : PosOk a) (hb : PosOk b) (wc : (Lit.int .u8 color).wf = true) (_ : (Lit.int .i64 side).wf = true) (wk : (Lit.int .u8 kind).wf = true) :
    Calls Try.prog 10 #[.agg (posA a), .agg (posA b), .int .u8 color, .int .i64 side, .int .u8 kind] w fun e w' => e = .returned (.bool true) ∧ Below w.heap.size w w' := by
  have HA := Lib.hid ha
  have HB := Lib.hid hb
  have HC := Lib.hid (u8_of wc)
  have HK := Lib.hid (u8_of wk)
  clear ha hb wc wk
  go_enter Try.func10, Try.ntmps10
  go_upto_region 5 with (first | (with_reducible refine at_end ?_) | (go_at_call 54; refine (awake9_any _).mono ?_; rintro e w1 ⟨rfl, hb⟩; obtain ⟨pa, pb, hbw⟩ := own_two hb; have hs : w.heap.size + 1 < w1.heap.size := pb.lt; clear hb; have fa := pa.agg))
  obtain ⟨ci, hci, e1⟩ : ∃ k : Nat, k < 2 ∧ wrap64 (color.tmod 2) = (k : Int) := by
    have h := HC.out
    have h2 : color.tmod 2 = color % 2 := Int.tmod_eq_emod_of_nonneg h.1
    exact ⟨(color % 2).toNat, by omega, by rw [h2, IntWalk.wrap64_in _ (by omega)]; omega⟩
  obtain ⟨di, hdi, e2⟩ : ∃ k : Nat, k < 2 ∧ wrap64 ((IntKind.u64.wrap side).tmod 2) = (k : Int) := by
    have h : 0 ≤ IntKind.u64.wrap side := by rw [IntKind.wrap_u64]; omega
    have h2 : (IntKind.u64.wrap side).tmod 2 = IntKind.u64.wrap side % 2 := Int.tmod_eq_emod_of_nonneg h
    exact ⟨(IntKind.u64.wrap side % 2).toNat, by omega, by rw [h2, IntWalk.wrap64_in _ (by omega)]; omega⟩
  obtain ⟨ki, hki, e3⟩ : ∃ k : Nat, k < 6 ∧ wrap64 (kind.tmod 6) = (k : Int) := by
    have h := HK.out
    have h2 : kind.tmod 6 = kind % 6 := Int.tmod_eq_emod_of_nonneg h.1
    exact ⟨(kind % 6).toNat, by omega, by rw [h2, IntWalk.wrap64_in _ (by omega)]; omega⟩
  simp only [e1, e2, e3]
  clear e1 e2 e3 HC HK fa
  have qa := pa.alloc (.cells (posA a) 37)
  have qb := pb.alloc (.cells (posA a) 37)
  have qq := OwnBlk.new w1 a
  have hbW := hbw.alloc (Nat.le_of_lt (Nat.lt_of_succ_lt hs)) (.cells (posA a) 37)
  clear pa pb hbw
  generalize hW : w1.alloc (.cells (posA a) 37) = W1 at qa qb qq hbW ⊢
  generalize hg : w1.heap.size = g at qq hs ⊢
  clear hW hg w1
  have HD := Lib.hid (⟨hci, hdi, hki⟩ : ci < 2 ∧ di < 2 ∧ ki < 6)
  clear hci hdi hki
  have F1 : ∀ j, a j = a j := fun _ => rfl
  -- who is to move
  have f1 := qb.cell (78) .u8 (by omega) (rfl)
  have f2 := qq.cell (78) .u8 (by omega) (rfl)
  have f3 := qq.frozen (78)
  go_upto_region 6 with (fail)
  have ra := qa.far g (78) (.int .u8 (b (78))) (by omega)
  have rb := qb.far g (78) (.int .u8 (b (78))) (by omega)
  have rq := qq.put (78) .u8 (b (78)) (by omega) (rfl)
  have hbX := hbW.setCell (p := ⟨g, 78, none⟩) (by simp; omega) (.int .u8 (b (78)))
  have HQ2 := Lib.hid (HA.out.upd (78) (b (78)) (HB.out _ (by omega)))
  have hx : xr (xr (keyV a) (turnV (a (78)))) (turnV (b (78))) = keyV (upd a (78) (b (78))) := by rw [keyV_upd _ _ (by omega), cellV_turn, cellV_turn, F1 _]
  have g3 := rq.cell (78) .u8 (by omega) (rfl)
  rw [upd_same] at g3
  have g2 := ra.cell (78) .u8 (by omega) (rfl)
  have F2 : ∀ j, j ≠ 78 → upd a (78) (b (78)) j = a j := fun j h => (upd_other _ _ _ _ h).trans (F1 j)
  clear f1 f2 f3 qa qb qq hbW F1
  obtain ⟨q2, hr⟩ : ∃ r, upd a (78) (b (78)) = r := ⟨_, rfl⟩
  rw [hr] at rq hx HQ2
  simp only [hr] at F2
  clear hr
  generalize hX : World.setCell W1 ⟨g, 78, none⟩ (.int .u8 (b (78))) = X at ra rb rq hbX g2 g3 ⊢
  clear hX W1
  have l1 := ra.lt
  have l2 := rq.lt
  have g1 := ra.agg
  have t1 := ok_u8 HA.out 78 (by omega) rfl
  have t2 := ok_u8 HB.out 78 (by omega) rfl
  refine wp_region_after (by kernel_rfl) (by kernel_rfl) ?_
  repeat (refine wpQuiet_step (fun K hK => ?_); go_simp; first | (refine hK _ ?_; clear hK K) | (apply Exists.intro; refine ⟨fun p => ?_, hK _ ?_⟩; (first | (go_at_call 42; exact After.call p (key_any _ (by with_reducible first | exact HA.out | exact HA.out) _)) | (go_at_call 30; exact After.call p (turn_any _ _ (by with_reducible first | exact t1.1 | exact t2.1) (by with_reducible first | exact t1.2 | exact t2.2))) | (go_at_call 32; exact After.call p (pass_any _ _)) | (go_at_call 34; exact After.call p (rook_any _ _ _ _ u0 u1)) | (go_at_call 36; exact After.call p (pock_any _ _ _ _ u0 u1 u2 u3 (by with_reducible first | exact t1.1 | exact t2.1) (by with_reducible first | exact t1.2 | exact t2.2))) | (go_at_call 38; exact After.call p (check_any _ _ _ u0 u1 (by with_reducible first | exact t1.1 | exact t2.1) (by with_reducible first | exact t1.2 | exact t2.2))) | (go_at_call 40; exact After.call p (prom_any _ _ u4))); clear hK K))
  refine wpQuiet_nil ?_
  intro w2 hb2
  have qa := ra.after hb2
  have qb := rb.after hb2
  have qq := rq.after hb2
  have hbW := hbX.trans (hb2.mono hbX.size)
  clear g1 l1 l2 t1 t2 g2 g3 ra rb rq hbX hb2 hx X
  have gq := qq.agg
  go_upto_region 9 with (go_at_call 42; refine (key_any _ HQ2.out _).mono ?_; rintro e W2 ⟨rfl, hb3⟩)
  replace qa := qa.after hb3
  replace qb := qb.after hb3
  replace qq := qq.after hb3
  replace hbW := hbW.trans (hb3.mono hbW.size)
  clear gq hb3 w2
  -- what was passed
  have f1 := qb.cell (83) .i8 (by omega) (rfl)
  have f2 := qq.cell (83) .i8 (by omega) (rfl)
  have f3 := qq.frozen (83)
  go_upto_region 10 with (fail)
  have ra := qa.far g (83) (.int .i8 (b (83))) (by omega)
  have rb := qb.far g (83) (.int .i8 (b (83))) (by omega)
  have rq := qq.put (83) .i8 (b (83)) (by omega) (rfl)
  have hbX := hbW.setCell (p := ⟨g, 83, none⟩) (by simp; omega) (.int .i8 (b (83)))
  have HQ3 := Lib.hid (HQ2.out.upd (83) (b (83)) (HB.out _ (by omega)))
  have hx : xr (xr (keyV q2) (passV (a (83)))) (passV (b (83))) = keyV (upd q2 (83) (b (83))) := by rw [keyV_upd _ _ (by omega), cellV_pass, cellV_pass, F2 _ (by omega)]
  have g3 := rq.cell (83) .i8 (by omega) (rfl)
  rw [upd_same] at g3
  have g2 := ra.cell (83) .i8 (by omega) (rfl)
  have F3 : ∀ j, j ≠ 78 → j ≠ 83 → upd q2 (83) (b (83)) j = a j := fun j h0 h => (upd_other _ _ _ _ h).trans (F2 j h0)
  clear f1 f2 f3 qa qb qq hbW F2
  obtain ⟨q3, hr⟩ : ∃ r, upd q2 (83) (b (83)) = r := ⟨_, rfl⟩
  rw [hr] at rq hx HQ3
  simp only [hr] at F3
  clear hr
  generalize hX : World.setCell W2 ⟨g, 83, none⟩ (.int .i8 (b (83))) = X at ra rb rq hbX g2 g3 ⊢
  clear hX W2
  have l1 := ra.lt
  have l2 := rq.lt
  have t1 := wrap_i8 (ok_i8 HA.out 83 (by omega) rfl)
  have t2 := wrap_i8 (ok_i8 HB.out 83 (by omega) rfl)
  refine wp_region_after (by kernel_rfl) (by kernel_rfl) ?_
  repeat (refine wpQuiet_step (fun K hK => ?_); go_simp; first | (refine hK _ ?_; clear hK K) | (apply Exists.intro; refine ⟨fun p => ?_, hK _ ?_⟩; (first | (go_at_call 42; exact After.call p (key_any _ (by with_reducible first | exact HA.out | exact HQ2.out) _)) | (go_at_call 30; exact After.call p (turn_any _ _ (by with_reducible first | exact t1.1 | exact t2.1) (by with_reducible first | exact t1.2 | exact t2.2))) | (go_at_call 32; exact After.call p (pass_any _ _)) | (go_at_call 34; exact After.call p (rook_any _ _ _ _ u0 u1)) | (go_at_call 36; exact After.call p (pock_any _ _ _ _ u0 u1 u2 u3 (by with_reducible first | exact t1.1 | exact t2.1) (by with_reducible first | exact t1.2 | exact t2.2))) | (go_at_call 38; exact After.call p (check_any _ _ _ u0 u1 (by with_reducible first | exact t1.1 | exact t2.1) (by with_reducible first | exact t1.2 | exact t2.2))) | (go_at_call 40; exact After.call p (prom_any _ _ u4))); clear hK K))
  refine wpQuiet_nil ?_
  intro w2 hb2
  have qa := ra.after hb2
  have qb := rb.after hb2
  have qq := rq.after hb2
  have hbW := hbX.trans (hb2.mono hbX.size)
  clear l1 l2 t1 t2 g2 g3 ra rb rq hbX hb2 hx X HQ2
  have gq := qq.agg
  go_upto_region 13 with (go_at_call 42; refine (key_any _ HQ3.out _).mono ?_; rintro e W3 ⟨rfl, hb3⟩)
  replace qa := qa.after hb3
  replace qb := qb.after hb3
  replace qq := qq.after hb3
  replace hbW := hbW.trans (hb3.mono hbW.size)
  clear gq hb3 w2
  -- a rook that may castle
  obtain ⟨v1, v2, v3⟩ := HD.out
  have v4 : (ci : Int) < 2 := by omega
  have v5 : (di : Int) < 2 := by omega
  have v6 : (ki : Int) < 6 := by omega
  have v7 : IntKind.u8.wrap (ci : Int) = ci := IntWalk.u8_in _ (by omega)
  have v8 : IntKind.u8.wrap (ki : Int) = ki := IntWalk.u8_in _ (by omega)
  have u0 : 0 ≤ (ci : Int) := by omega
  have u1 : (ci : Int) ≤ 255 := by omega
  have u2 : 0 ≤ (ki : Int) := by omega
  have u3 : (ki : Int) ≤ 255 := by omega
  have f1 := qb.cell (79 + ci * 2 + di) .i8 (by omega) (kind_i8 _ (by omega))
  have f2 := qq.cell (79 + ci * 2 + di) .i8 (by omega) (kind_i8 _ (by omega))
  have f3 := qq.frozen (79 + ci * 2 + di)
  go_still_tail 11, (by kernel_rfl)
  change wpList _ _ _ _ _ (World.drew W3)
  replace qa : OwnBlk (World.drew W3) w.heap.size a := qa
  replace qb : OwnBlk (World.drew W3) (w.heap.size + 1) b := qb
  replace qq : OwnBlk (World.drew W3) g q3 := qq
  replace hbW : Below w.heap.size w (World.drew W3) := hbW.drew
  generalize World.drew W3 = D3 at qa qb qq hbW ⊢
  clear f1 f2 f3 W3
  have f1 := qb.cell (79 + ci * 2 + di) .i8 (by omega) (kind_i8 _ (by omega))
  have f2 := qq.cell (79 + ci * 2 + di) .i8 (by omega) (kind_i8 _ (by omega))
  have f3 := qq.frozen (79 + ci * 2 + di)
  go_upto_region 14 with (fail)
  have ra := qa.far g (79 + ci * 2 + di) (.int .i8 (b (79 + ci * 2 + di))) (by omega)
  have rb := qb.far g (79 + ci * 2 + di) (.int .i8 (b (79 + ci * 2 + di))) (by omega)
  have rq := qq.put (79 + ci * 2 + di) .i8 (b (79 + ci * 2 + di)) (by omega) (kind_i8 _ (by omega))
  have hbX := hbW.setCell (p := ⟨g, 79 + ci * 2 + di, none⟩) (by simp; omega) (.int .i8 (b (79 + ci * 2 + di)))
  have HQ4 := Lib.hid (HQ3.out.upd (79 + ci * 2 + di) (b (79 + ci * 2 + di)) (HB.out _ (by omega)))
  have hx : xr (xr (keyV q3) (rookV (ci : Int) (di : Int) (a (79 + ci * 2 + di)))) (rookV (ci : Int) (di : Int) (b (79 + ci * 2 + di))) = keyV (upd q3 (79 + ci * 2 + di) (b (79 + ci * 2 + di))) := by rw [keyV_upd _ _ (by omega), cellV_rook ci di v1 v2, cellV_rook ci di v1 v2, F3 _ (by omega) (by omega)]
  have g3 := rq.cell (79 + ci * 2 + di) .i8 (by omega) (kind_i8 _ (by omega))
  rw [upd_same] at g3
  have g2 := ra.cell (79 + ci * 2 + di) .i8 (by omega) (kind_i8 _ (by omega))
  have F4 : ∀ j, j ≠ 78 → j ≠ 83 → j ≠ 79 + ci * 2 + di → upd q3 (79 + ci * 2 + di) (b (79 + ci * 2 + di)) j = a j := fun j h0 h1 h => (upd_other _ _ _ _ h).trans (F3 j h0 h1)
  clear f1 f2 f3 qa qb qq hbW F3
  obtain ⟨q4, hr⟩ : ∃ r, upd q3 (79 + ci * 2 + di) (b (79 + ci * 2 + di)) = r := ⟨_, rfl⟩
  rw [hr] at rq hx HQ4
  simp only [hr] at F4
  clear hr
  generalize hX : World.setCell D3 ⟨g, 79 + ci * 2 + di, none⟩ (.int .i8 (b (79 + ci * 2 + di))) = X at ra rb rq hbX g2 g3 ⊢
  clear hX D3
  have l1 := ra.lt
  have l2 := rq.lt
  have t1 := wrap_i8 (ok_i8 HA.out (79 + ci * 2 + di) (by omega) (kind_i8 _ (by omega)))
  have t2 := wrap_i8 (ok_i8 HB.out (79 + ci * 2 + di) (by omega) (kind_i8 _ (by omega)))
  refine wp_region_after (by kernel_rfl) (by kernel_rfl) ?_
  repeat (refine wpQuiet_step (fun K hK => ?_); go_simp; first | (refine hK _ ?_; clear hK K) | (apply Exists.intro; refine ⟨fun p => ?_, hK _ ?_⟩; (first | (go_at_call 42; exact After.call p (key_any _ (by with_reducible first | exact HA.out | exact HQ3.out) _)) | (go_at_call 30; exact After.call p (turn_any _ _ (by with_reducible first | exact t1.1 | exact t2.1) (by with_reducible first | exact t1.2 | exact t2.2))) | (go_at_call 32; exact After.call p (pass_any _ _)) | (go_at_call 34; exact After.call p (rook_any _ _ _ _ u0 u1)) | (go_at_call 36; exact After.call p (pock_any _ _ _ _ u0 u1 u2 u3 (by with_reducible first | exact t1.1 | exact t2.1) (by with_reducible first | exact t1.2 | exact t2.2))) | (go_at_call 38; exact After.call p (check_any _ _ _ u0 u1 (by with_reducible first | exact t1.1 | exact t2.1) (by with_reducible first | exact t1.2 | exact t2.2))) | (go_at_call 40; exact After.call p (prom_any _ _ u4))); clear hK K))
  refine wpQuiet_nil ?_
  intro w2 hb2
  have qa := ra.after hb2
  have qb := rb.after hb2
  have qq := rq.after hb2
  have hbW := hbX.trans (hb2.mono hbX.size)
  clear l1 l2 t1 t2 g2 g3 ra rb rq hbX hb2 hx X HQ3
  have gq := qq.agg
  go_upto_region 17 with (go_at_call 42; refine (key_any _ HQ4.out _).mono ?_; rintro e W4 ⟨rfl, hb3⟩)
  replace qa := qa.after hb3
  replace qb := qb.after hb3
  replace qq := qq.after hb3
  replace hbW := hbW.trans (hb3.mono hbW.size)
  clear gq hb3 w2
  -- a pocket
  have f1 := qb.cell (66 + ci * 6 + ki) .u8 (by omega) (kind_u8 _ (by omega))
  have f2 := qq.cell (66 + ci * 6 + ki) .u8 (by omega) (kind_u8 _ (by omega))
  have f3 := qq.frozen (66 + ci * 6 + ki)
  go_still_tail 11, (by kernel_rfl)
  change wpList _ _ _ _ _ (World.drew W4)
  replace qa : OwnBlk (World.drew W4) w.heap.size a := qa
  replace qb : OwnBlk (World.drew W4) (w.heap.size + 1) b := qb
  replace qq : OwnBlk (World.drew W4) g q4 := qq
  replace hbW : Below w.heap.size w (World.drew W4) := hbW.drew
  generalize World.drew W4 = D4 at qa qb qq hbW ⊢
  clear f1 f2 f3 W4
  have f1 := qb.cell (66 + ci * 6 + ki) .u8 (by omega) (kind_u8 _ (by omega))
  have f2 := qq.cell (66 + ci * 6 + ki) .u8 (by omega) (kind_u8 _ (by omega))
  have f3 := qq.frozen (66 + ci * 6 + ki)
  go_upto_region 18 with (fail)
  have ra := qa.far g (66 + ci * 6 + ki) (.int .u8 (b (66 + ci * 6 + ki))) (by omega)
  have rb := qb.far g (66 + ci * 6 + ki) (.int .u8 (b (66 + ci * 6 + ki))) (by omega)
  have rq := qq.put (66 + ci * 6 + ki) .u8 (b (66 + ci * 6 + ki)) (by omega) (kind_u8 _ (by omega))
  have hbX := hbW.setCell (p := ⟨g, 66 + ci * 6 + ki, none⟩) (by simp; omega) (.int .u8 (b (66 + ci * 6 + ki)))
  have HQ5 := Lib.hid (HQ4.out.upd (66 + ci * 6 + ki) (b (66 + ci * 6 + ki)) (HB.out _ (by omega)))
  have hx : xr (xr (keyV q4) (pockV (ci : Int) (ki : Int) (a (66 + ci * 6 + ki)))) (pockV (ci : Int) (ki : Int) (b (66 + ci * 6 + ki))) = keyV (upd q4 (66 + ci * 6 + ki) (b (66 + ci * 6 + ki))) := by rw [keyV_upd _ _ (by omega), cellV_pock ci ki v1 v3, cellV_pock ci ki v1 v3, F4 _ (by omega) (by omega) (by omega)]
  have g3 := rq.cell (66 + ci * 6 + ki) .u8 (by omega) (kind_u8 _ (by omega))
  rw [upd_same] at g3
  have g2 := ra.cell (66 + ci * 6 + ki) .u8 (by omega) (kind_u8 _ (by omega))
  have F5 : ∀ j, j ≠ 78 → j ≠ 83 → j ≠ 79 + ci * 2 + di → j ≠ 66 + ci * 6 + ki → upd q4 (66 + ci * 6 + ki) (b (66 + ci * 6 + ki)) j = a j := fun j h0 h1 h2 h => (upd_other _ _ _ _ h).trans (F4 j h0 h1 h2)
  clear f1 f2 f3 qa qb qq hbW F4
  obtain ⟨q5, hr⟩ : ∃ r, upd q4 (66 + ci * 6 + ki) (b (66 + ci * 6 + ki)) = r := ⟨_, rfl⟩
  rw [hr] at rq hx HQ5
  simp only [hr] at F5
  clear hr
  generalize hX : World.setCell D4 ⟨g, 66 + ci * 6 + ki, none⟩ (.int .u8 (b (66 + ci * 6 + ki))) = X at ra rb rq hbX g2 g3 ⊢
  clear hX D4
  have l1 := ra.lt
  have l2 := rq.lt
  have t1 := ok_u8 HA.out (66 + ci * 6 + ki) (by omega) (kind_u8 _ (by omega))
  have t2 := ok_u8 HB.out (66 + ci * 6 + ki) (by omega) (kind_u8 _ (by omega))
  refine wp_region_after (by kernel_rfl) (by kernel_rfl) ?_
  repeat (refine wpQuiet_step (fun K hK => ?_); go_simp; first | (refine hK _ ?_; clear hK K) | (apply Exists.intro; refine ⟨fun p => ?_, hK _ ?_⟩; (first | (go_at_call 42; exact After.call p (key_any _ (by with_reducible first | exact HA.out | exact HQ4.out) _)) | (go_at_call 30; exact After.call p (turn_any _ _ (by with_reducible first | exact t1.1 | exact t2.1) (by with_reducible first | exact t1.2 | exact t2.2))) | (go_at_call 32; exact After.call p (pass_any _ _)) | (go_at_call 34; exact After.call p (rook_any _ _ _ _ u0 u1)) | (go_at_call 36; exact After.call p (pock_any _ _ _ _ u0 u1 u2 u3 (by with_reducible first | exact t1.1 | exact t2.1) (by with_reducible first | exact t1.2 | exact t2.2))) | (go_at_call 38; exact After.call p (check_any _ _ _ u0 u1 (by with_reducible first | exact t1.1 | exact t2.1) (by with_reducible first | exact t1.2 | exact t2.2))) | (go_at_call 40; exact After.call p (prom_any _ _ u4))); clear hK K))
  refine wpQuiet_nil ?_
  intro w2 hb2
  have qa := ra.after hb2
  have qb := rb.after hb2
  have qq := rq.after hb2
  have hbW := hbX.trans (hb2.mono hbX.size)
  clear l1 l2 t1 t2 g2 g3 ra rb rq hbX hb2 hx X HQ4
  have gq := qq.agg
  go_upto_region 21 with (go_at_call 42; refine (key_any _ HQ5.out _).mono ?_; rintro e W5 ⟨rfl, hb3⟩)
  replace qa := qa.after hb3
  replace qb := qb.after hb3
  replace qq := qq.after hb3
  replace hbW := hbW.trans (hb3.mono hbW.size)
  clear gq hb3 w2
  -- checks, and what is promoted
  have v9 : ¬(65 : Nat) = 84 + ci := by omega
  have v10 : ¬(84 + ci : Nat) = 65 := by omega
  have v11 : ¬w.heap.size + 1 = g := by omega
  have v12 : ¬g = w.heap.size + 1 := by omega
  have f1 := qb.cell (84 + ci) .u8 (by omega) (kind_u8 _ (by omega))
  have f2 := qq.cell (84 + ci) .u8 (by omega) (kind_u8 _ (by omega))
  have f3 := qq.frozen (84 + ci)
  have f4 := qb.cell 65 .u64 (by omega) rfl
  have f5 := qq.cell 65 .u64 (by omega) rfl
  have f6 := qq.frozen 65
  go_region
  unfold Exit.then
  have ra := (qa.far g (84 + ci) (.int .u8 (b (84 + ci))) (by omega)).far g 65 (.int .u64 (b 65)) (by omega)
  have rq := (qq.put (84 + ci) .u8 (b (84 + ci)) (by omega) (kind_u8 _ (by omega))).put 65 .u64 (b 65) (by omega) rfl
  have hbX := (hbW.setCell (p := ⟨g, 84 + ci, none⟩) (by simp; omega) (.int .u8 (b (84 + ci)))).setCell (p := ⟨g, 65, none⟩) (by simp; omega) (.int .u64 (b 65))
  have HQ6 := Lib.hid ((HQ5.out.upd (84 + ci) (b (84 + ci)) (HB.out _ (by omega))).upd 65 (b 65) (HB.out _ (by omega)))
  have r1 := ok_u64 HA.out 65 (by omega) rfl
  have r2 := ok_u64 HB.out 65 (by omega) rfl
  have hx : xr (xr (xr (keyV q5) (checkV (ci : Int) (a (84 + ci)))) (checkV (ci : Int) (b (84 + ci)))) (promV (xr (a 65) (b 65))) = keyV (upd (upd q5 (84 + ci) (b (84 + ci))) 65 (b 65)) := by
    rw [keyV_upd _ 65 (by omega), keyV_upd _ (84 + ci) (by omega), upd_other _ _ _ 65 v9, F5 65 (by omega) (by omega) (by omega) (by omega), F5 (84 + ci) (by omega) (by omega) (by omega) (by omega), cellV_check ci v1, cellV_check ci v1, cellV_prom, cellV_prom, promV_xr _ _ r1 r2, ← xr_assoc]
  have g3 := rq.cell (84 + ci) .u8 (by omega) (kind_u8 _ (by omega))
  rw [upd_other _ _ _ _ v10, upd_same] at g3
  have g5 := rq.cell 65 .u64 (by omega) rfl
  rw [upd_same] at g5
  have g2 := ra.cell (84 + ci) .u8 (by omega) (kind_u8 _ (by omega))
  have g4 := ra.cell 65 .u64 (by omega) rfl
  clear f1 f2 f3 f4 f5 f6 qa qb qq hbW F5 r1 r2 v9 v10 v11 v12
  obtain ⟨q6, hr⟩ : ∃ r, upd (upd q5 (84 + ci) (b (84 + ci))) 65 (b 65) = r := ⟨_, rfl⟩
  rw [hr] at rq hx HQ6
  clear hr
  generalize hY : World.setCell (World.setCell W5 ⟨g, 84 + ci, none⟩ (.int .u8 (b (84 + ci)))) ⟨g, 65, none⟩ (.int .u64 (b 65)) = Y at ra rq hbX g2 g3 g4 g5 ⊢
  clear hY W5
  replace ra : OwnBlk (World.drew Y) w.heap.size a := ra
  replace rq : OwnBlk (World.drew Y) g q6 := rq
  replace hbX : Below w.heap.size w (World.drew Y) := hbX.drew
  replace g2 : (World.drew Y).cell? _ = _ := g2
  replace g3 : (World.drew Y).cell? _ = _ := g3
  replace g4 : (World.drew Y).cell? _ = _ := g4
  replace g5 : (World.drew Y).cell? _ = _ := g5
  generalize World.drew Y = X at ra rq hbX g2 g3 g4 g5 ⊢
  clear Y
  have l1 := ra.lt
  have l2 := rq.lt
  have t1 := ok_u8 HA.out (84 + ci) (by omega) (kind_u8 _ (by omega))
  have t2 := ok_u8 HB.out (84 + ci) (by omega) (kind_u8 _ (by omega))
  have u4 : R64 (xr (a 65) (b 65)) := R64_xr _ _
  go_upto_region 22 with (fail)
  refine wp_region_after (by kernel_rfl) (by kernel_rfl) ?_
  repeat (refine wpQuiet_step (fun K hK => ?_); go_simp; first | (refine hK _ ?_; clear hK K) | (apply Exists.intro; refine ⟨fun p => ?_, hK _ ?_⟩; (first | (go_at_call 42; exact After.call p (key_any _ (by with_reducible first | exact HA.out | exact HQ6.out) _)) | (go_at_call 30; exact After.call p (turn_any _ _ (by with_reducible first | exact t1.1 | exact t2.1) (by with_reducible first | exact t1.2 | exact t2.2))) | (go_at_call 32; exact After.call p (pass_any _ _)) | (go_at_call 34; exact After.call p (rook_any _ _ _ _ u0 u1)) | (go_at_call 36; exact After.call p (pock_any _ _ _ _ u0 u1 u2 u3 (by with_reducible first | exact t1.1 | exact t2.1) (by with_reducible first | exact t1.2 | exact t2.2))) | (go_at_call 38; exact After.call p (check_any _ _ _ u0 u1 (by with_reducible first | exact t1.1 | exact t2.1) (by with_reducible first | exact t1.2 | exact t2.2))) | (go_at_call 40; exact After.call p (prom_any _ _ u4))); clear hK K))
  refine wpQuiet_nil ?_
  intro w2 hb2
  have gq := (rq.after hb2).agg
  have hbW := hbX.trans (hb2.mono hbX.size)
  clear l1 l2 t1 t2 u4 g2 g3 g4 g5 ra rq hbX hb2 hx X
  go_wp2_with (first | (with_reducible refine at_end ?_) | (go_at_call 42; refine (key_any _ HQ6.out _).mono ?_; rintro e W6 ⟨rfl, hb3⟩))
  unfold AtEnd
  go_returns
  exact ⟨ret_bool (by simp), hbW.trans (hb3.mono hbW.size)⟩
end Go.Proofs.Ytldacinldgjdcaa
