/- The walk of the law RepeatsFields: it returns true; of what was in memory nothing turns. -/
import Derived.Test.YtldacinldgjdcaaRepB
import Derived.Test.YtldacinldgjdcaaThree
import Derived.Deep.Cut
import Derived.BigRegion
import Derived.StillTailTactics
namespace Go.Proofs.Ytldacinldgjdcaa
open Go.RowKit Go.Maps
attribute [local go_sem ↓] lv37 zero37 sv37
attribute [local go_sem] run_lv37 run_zero37 run_sv37 rowFree_new rowFree_alloc setRow_new setRow_alloc aggAt_newb aggAt_old aggAt_drew aggAt_drewN posA_size oneCells_pos posA_set kindAt After.cell After.frozen After.agg add_block
attribute [local go_sem high] run_eql37 run_neq37

/-- One cell of one position of a row changed. -/
def rowUpd (ps : Nat → Nat → Int) (i j : Nat) (v : Int) : Nat → Nat → Int := fun m => if m = i then upd (ps i) j v else ps m
theorem cellsL_upd (n : Nat) (ps : Nat → Nat → Int) (i j : Nat) (k : IntKind) (v : Int) (hi : i < n) (hj : j < 88) (hk : kindAt j = k) : (cellsL n ps).toArray.setIfInBounds (i * 88 + j) (.int k v) = (cellsL n (rowUpd ps i j v)).toArray := by
  subst hk
  apply Array.ext_getElem?
  intro m
  rw [Array.getElem?_setIfInBounds]
  simp only [List.getElem?_toArray, List.size_toArray, cellsL_len]
  by_cases hm : m < n * 88
  · rw [cellsL_get _ _ _ hm, cellsL_get _ _ _ hm]
    by_cases e : i * 88 + j = m
    · subst e
      have h1 : (i * 88 + j) / 88 = i := by omega
      have h2 : (i * 88 + j) % 88 = j := by omega
      rw [if_pos rfl, if_pos (by omega), h1, h2]
      simp [rowUpd, upd_same]
    · rw [if_neg e]
      unfold rowUpd
      by_cases h1 : m / 88 = i
      · rw [if_pos h1, upd_other _ _ _ _ (by omega), h1]
      · rw [if_neg h1]
  · rw [List.getElem?_eq_none (by simp; omega), List.getElem?_eq_none (by simp; omega)]
    rw [if_neg (by omega)]
/-- A row of n positions that is a block of its own. -/
def OwnRowB (w : World) (g n : Nat) (ps : Nat → Nat → Int) : Prop := w.heap[g]? = some (.cells (cellsL n ps).toArray 37 (0, 0))
theorem run_putCell (w : World) (ty : TypeId) (a : Addr) (k : IntKind) (v : Int) (hi : (Try.prog.info? ty).map (·.size) = some 1) (hc : (w.cell? a).isSome = true) (hf : w.frozen? a = false) :
    (storeVar ty a (.int k v)).run Try.prog w = .ok () (w.setCell a (.int k v)) := by
  obtain ⟨u, hu⟩ := Option.isSome_iff_exists.1 hc
  cases hq : Try.prog.info? ty with
  | none => simp [hq] at hi
  | some i =>
    have hs : i.size = 1 := by simpa [hq] using hi
    simp [storeVar, sizeOf, typeInfo, hq, hs, Value.cells, go_sem, hu, hf]
theorem OwnRowB.put {w : World} {g n : Nat} {ps : Nat → Nat → Int} (h : OwnRowB w g n ps) (i j : Nat) (k : IntKind) (v : Int) (hi : i < n) (hj : j < 88) (hk : kindAt j = k) : OwnRowB (w.setCell ⟨g, i * 88 + j, none⟩ (.int k v)) g n (rowUpd ps i j v) := by
  have := heap_setCell_same w g (i * 88 + j) (cellsL n ps).toArray 37 (.int k v) h
  rw [cellsL_upd n ps i j k v hi hj hk] at this
  exact this
/-- What the stores leave: the row, and all that lay there ahead of it. -/
structure FldSt (wB : World) (ps : Nat → Nat → Int) (w : World) : Prop where
  below : Below wB.heap.size wB w
  row : OwnRowB w wB.heap.size 8 ps
theorem FldSt.put {wB w : World} {ps : Nat → Nat → Int} (h : FldSt wB ps w) (i j : Nat) (k : IntKind) (v : Int) (hi : i < 8) (hj : j < 88) (hk : kindAt j = k) : FldSt wB (rowUpd ps i j v) (w.setCell ⟨wB.heap.size, i * 88 + j, none⟩ (.int k v)) :=
  ⟨h.below.setCell (p := ⟨wB.heap.size, i * 88 + j, none⟩) (Nat.le_refl _) _, h.row.put i j k v hi hj hk⟩
/-- A store into one cell of the row. -/
theorem wpList_putPs {ops : Array Oper} {rest : List Oper} {o : Oper} {a : Act} {Q : Exit → Act → World → Prop} (w : World) (hg : o.guard = none) (ty : TypeId) (x y : Operand) (ho : o.op = .store ty x y) (hd : o.dst = none) (hty : (Try.prog.info? ty).map (·.size) = some 1)
    (wB : World) (ps : Nat → Nat → Int) (st : FldSt wB ps w) (off : Nat) (hx : a.eval x = .pointer (some ⟨wB.heap.size, off, none⟩)) (k : IntKind) (v : Int) (hy : a.eval y = .int k v)
    (i j : Nat) (hoff : off = i * 88 + j) (hi : i < 8) (hj : j < 88) (hk : kindAt j = k) (h : ∀ w', FldSt wB (rowUpd ps i j v) w' → wpList Try.prog ops Q rest a w') : wpList Try.prog ops Q (o :: rest) a w := by
  subst hoff
  have hrun := run_putCell w ty ⟨wB.heap.size, i * 88 + j, none⟩ k v hty (by
    rw [cell_of_row _ _ _ _ _ _ st.row, List.getElem?_toArray, cellsL_get _ _ _ (by omega)]; rfl) (frozen_of_row _ _ _ _ _ st.row)
  refine wpList_plain hg fun K hK => ?_
  unfold Oper.wp execOp
  simp only [ho, hx, hy, Instr.storeAt, Instr.sureAddr, Sem.run_bind, Sem.run_pure, Result.andThen_ok, hrun]
  exact hK (a.put o.dst undef) _ (by rw [hd]; exact h _ (st.put i j k v hi hj hk))
/-- A slice literal of positions: the block that it lays. -/
theorem wpList_buildRow {ops : Array Oper} {rest : List Oper} {o : Oper} {a : Act} {Q : Exit → Act → World → Prop} (w : World) (hg : o.guard = .none) (l : List (Nat → Int)) (n : Nat) (parts : Array (Nat × Operand))
    (ho : o.op = .buildSlice 22 n parts) (hn : l.length = n) (hpos : 0 < n) (hsmall : n ≤ 1000)
    (hev : (parts.map fun (i, x) => (i, a.eval x)).toList = ((l.map fun c => Value.agg (posA c)).zipIdx 0).map fun x => (x.2, x.1))
    (h : ∀ w', OwnRowB w' w.heap.size n (psOf l) → Below w.heap.size w w' → wpList Try.prog ops Q rest (a.put o.dst (.slice (some ⟨w.heap.size, 0, .none⟩) n n)) w') : wpList Try.prog ops Q (o :: rest) a w := by
  obtain ⟨i0, hi, hz0, hz1, hz2⟩ := info_parts pos_info
  subst hn
  refine wpList_buildSlice hg 22 37 l.length parts ho (cellsL l.length (psOf l)).toArray i0 _ Try.underlying22 hi hz0 (by rw [hz1]; omega) (by rw [hz1]; omega) ?_ (h _ (heap_alloc_new w _) ((Below.refl _ _).alloc (Nat.le_refl _) _))
  rw [hev, hz1]
  have := Great.fill_whole (s := 88) (by omega) (l.map fun c => Value.agg (posA c)) ((Array.range (l.length * 88)).map ((Value.agg (posA pos0)).cells[· % (Value.agg (posA pos0)).cells.size]!)) (fun v hv => by
    obtain ⟨c, _, rfl⟩ := List.mem_map.1 hv
    exact posA_size c) (by simp)
  rw [flat_cells] at this
  exact this
theorem wpList_isStore {P : Program} {ops : Array Oper} {rest : List Oper} {o : Oper} {a : Act} {Q : Exit → Act → World → Prop} {w : World} (ty : TypeId) (x y : Operand) (_ : o.op = .store ty x y) (h : wpList P ops Q (o :: rest) a w) : wpList P ops Q (o :: rest) a w := h
/-- All of a row are well formed, and have this position's clocks. -/
def Near (c : Nat → Int) (ps : Nat → Nat → Int) : Prop := ∀ i, i < 8 → PosOk (ps i) ∧ ps i 86 = c 86 ∧ ps i 87 = c 87
theorem Near.start {c : Nat → Int} (hc : PosOk c) : Near c (psOf [c, c, c, c, c, c, c, c]) := by
  intro i hi
  have e : psOf [c, c, c, c, c, c, c, c] i = c := by
    unfold psOf
    rw [List.getD_eq_getElem?_getD, List.getElem?_eq_getElem (by simpa using hi)]
    have := List.getElem_mem (l := [c, c, c, c, c, c, c, c]) (n := i) (by simpa using hi)
    simp only [List.mem_cons, List.not_mem_nil, or_false, or_self] at this
    exact this
  rw [e]
  exact ⟨hc, rfl, rfl⟩
theorem Near.put {c : Nat → Int} {ps : Nat → Nat → Int} (h : Near c ps) (i j : Nat) (v : Int) (hj : j < 86) (hv : (Lit.int (kindAt j) v).wf = true) : Near c (rowUpd ps i j v) := by
  intro m hm
  unfold rowUpd
  split
  · rename_i e
    subst e
    obtain ⟨h1, h2, h3⟩ := h m hm
    exact ⟨h1.upd j v hv, by rw [upd_other _ _ _ _ (by omega), h2], by rw [upd_other _ _ _ _ (by omega), h3]⟩
  · exact h m hm
theorem near_same {a b : Nat → Int} (h6 : b 86 = a 86) (h7 : b 87 = a 87) : sameB a b = eqSeg a b 0 88 := by
  rw [Bool.eq_iff_iff, sameB_iff, eqSeg_iff]
  constructor
  · intro h i hi
    rw [Nat.zero_add]
    by_cases e6 : i = 86
    · rw [e6, h6]
    · by_cases e7 : i = 87
      · rw [e7, h7]
      · exact h i (by omega)
  · intro h i hi
    have := h i (by omega)
    rwa [Nat.zero_add] at this
set_option maxRecDepth 100000 in
set_option maxHeartbeats 1000000 in
theorem repeatsFields_walk (c : Nat → Int) (s half x : Int) (w : World) (hc : PosOk c) (_ : (Lit.int .i64 s).wf = true) (wh : (Lit.int .i64 half).wf = true) (wx : (Lit.int .u8 x).wf = true) :
    Calls Try.prog 19 #[.agg (posA c), .int .i64 s, .int .i64 half, .int .u8 x] w fun e w' => e = .returned (.bool true) ∧ Below w.heap.size w w' := by
  obtain ⟨k, hk, q1⟩ : ∃ k : Nat, k < 64 ∧ wrap64 ((IntKind.u64.wrap s).tmod 64) = (k : Int) := by
    have h1 : 0 ≤ IntKind.u64.wrap s := by rw [IntKind.wrap_u64]; omega
    have h2 : (IntKind.u64.wrap s).tmod 64 = IntKind.u64.wrap s % 64 := Int.tmod_eq_emod_of_nonneg h1
    refine ⟨(IntKind.u64.wrap s % 64).toNat, by omega, ?_⟩
    rw [h2, IntWalk.wrap64_in _ (by omega)]
    omega
  have HC := Lib.hid hc
  have HX := Lib.hid (u8_of wx)
  have HW := Lib.hid wx
  clear hc wx
  have HQ := Lib.hid ((HC.out.upd 86 half wh).upd 87 half wh)
  have hs1 : sameB c (upd (upd c 86 half) 87 half) = true := sameB_iff.2 fun i hi => by rw [upd_other _ _ _ _ (by omega), upd_other _ _ _ _ (by omega)]
  go_enter Try.func19, Try.ntmps19
  go_upto_region 3 with (go_at_call 61; refine (awake21_any _).mono ?_; rintro e w1 ⟨rfl, hb⟩)
  obtain ⟨hA, l1, hbw⟩ : aggAt w1 ⟨w.heap.size, 0, none⟩ 88 = some (posA c) ∧ w.heap.size < w1.heap.size ∧ Below w.heap.size w w1 :=
    ⟨aggAt_below (aggAt_new w (posA c) 37 88 (posA_size c)) hb (by simp), Nat.lt_of_lt_of_le (by simp) hb.size, ((Below.refl _ _).alloc (Nat.le_refl _) _).trans (hb.mono (by simp))⟩
  clear hb
  go_upto_region 6 with (fail)
  simp only [q1]
  clear q1
  have l2 : w.heap.size < w1.heap.size + 1 := by omega
  go_upto_region 8 with (go_at_call 59; refine (same_any _ _ _ HC.out HQ.out).mono ?_; rintro e w2 ⟨rfl, hb⟩)
  replace hA := aggAt_below (aggAt_alloc hA l1 _) hb (by simpa using l2)
  replace hbw := (hbw.alloc hbw.size _).trans (hb.mono (by simp; omega))
  have l1 : w.heap.size < w2.heap.size := Nat.lt_of_lt_of_le (by simpa using l2) hb.size
  clear hb l2
  go_upto_region 9 with ((with_reducible refine wpList_buildRow _ rfl [c, c, c, c, c, c, c, c] 8 _ rfl ?_ ?_ ?_ ?_ ?_); (· rfl); (· omega); (· omega); (· simp [Act.eval]); intro w3 hr3 hb3)
  have st : FldSt w2 (psOf [c, c, c, c, c, c, c, c]) w3 := ⟨hb3, hr3⟩
  clear hr3 hb3
  have k2 : (k : Int) < 64 := by omega
  have W64 := (IntWalk.wrap64_in (k : Int) (by omega))
  obtain ⟨ka, hka, m2⟩ : ∃ m : Nat, m < 2 ∧ (k : Int).tmod 2 = (m : Int) := ⟨k % 2, by omega, by rw [Int.tmod_eq_emod_of_nonneg (by omega)]; omega⟩
  obtain ⟨kc, hkc, m6⟩ : ∃ m : Nat, m < 6 ∧ (k : Int).tmod 6 = (m : Int) := ⟨k % 6, by omega, by rw [Int.tmod_eq_emod_of_nonneg (by omega)]; omega⟩
  have b2 : (ka : Int) < 2 := by omega
  have b6 : (kc : Int) < 6 := by omega
  go_upto_region 10 with ((with_reducible refine wpList_isStore _ _ _ rfl ?_); go_loud (refine wpList_putPs _ rfl _ _ _ rfl rfl (by kernel_rfl) w2 _ st _ rfl _ _ rfl 0 (1 + k) (by omega) (by omega) (by omega) (kind_u8 _ (by omega)) ?_); clear st; intro w4 st)
  go_upto_region 11 with ((with_reducible refine wpList_isStore _ _ _ rfl ?_); go_loud (refine wpList_putPs _ rfl _ _ _ rfl rfl (by kernel_rfl) w2 _ st _ rfl _ _ rfl 1 78 (by omega) (by omega) (by omega) (kind_u8 _ (by omega)) ?_); clear st; intro w4 st)
  go_upto_region 12 with ((with_reducible refine wpList_isStore _ _ _ rfl ?_); go_loud (refine wpList_putPs _ rfl _ _ _ rfl rfl (by kernel_rfl) w2 _ st _ rfl _ _ rfl 2 83 (by omega) (by omega) (by omega) (kind_i8 _ (by omega)) ?_); clear st; intro w4 st)
  go_upto_region 13 with ((with_reducible refine wpList_isStore _ _ _ rfl ?_); go_loud (refine wpList_putPs _ rfl _ _ _ rfl rfl (by kernel_rfl) w2 _ st _ rfl _ _ rfl 3 (79 + ka * 2 + k / 2 % 2) (by omega) (by omega) (by omega) (kind_i8 _ (by omega)) ?_); clear st; intro w4 st)
  go_upto_region 14 with ((with_reducible refine wpList_isStore _ _ _ rfl ?_); go_loud (refine wpList_putPs _ rfl _ _ _ rfl rfl (by kernel_rfl) w2 _ st _ rfl _ _ rfl 4 (66 + ka * 6 + kc) (by omega) (by omega) (by omega) (kind_u8 _ (by omega)) ?_); clear st; intro w4 st)
  go_upto_region 15 with ((with_reducible refine wpList_isStore _ _ _ rfl ?_); go_loud (refine wpList_putPs _ rfl _ _ _ rfl rfl (by kernel_rfl) w2 _ st _ rfl _ _ rfl 5 (84 + ka) (by omega) (by omega) (by omega) (kind_u8 _ (by omega)) ?_); clear st; intro w4 st)
  have l4 : w.heap.size < w4.heap.size := Nat.lt_of_lt_of_le l1 st.below.size
  have c65 : w4.cell? ⟨w.heap.size, 65, none⟩ = some (.int .u64 (c 65)) := by
    have h := (aggAt_cell (aggAt_below hA st.below l1)).2 65 (by omega)
    rw [add0, posA_get _ _ (by omega)] at h
    exact h
  go_still_tail 10, (by kernel_rfl)
  change wpList _ _ _ _ _ (World.drew w4)
  have st5 : FldSt w2 _ (World.drew w4) := ⟨st.below.drew, st.row⟩
  clear st c65 l4
  generalize World.drew w4 = w5 at st5 ⊢
  clear w4
  go_upto_region 16 with ((with_reducible refine wpList_isStore _ _ _ rfl ?_); (refine wpList_putPs _ rfl _ _ _ rfl rfl (by kernel_rfl) w2 _ st5 _ rfl _ _ rfl 6 65 (by omega) (by omega) (by omega) rfl ?_); clear st5; intro w4 st)
  go_upto_region 17 with ((with_reducible refine wpList_isStore _ _ _ rfl ?_); (refine wpList_putPs _ rfl _ _ _ rfl rfl (by kernel_rfl) w2 _ st _ rfl _ _ rfl 7 0 (by omega) (by omega) (by omega) rfl ?_); clear st; intro w6 st)
  have hN := Lib.hid (((((((((Near.start HC.out).put 0 (1 + k) x (by omega) (by rw [kind_u8 _ (by omega)]; exact HW.out)).put 1 78 x (by omega) HW.out).put 2 83 (IntKind.i8.wrap (x.tmod 64)) (by omega) (wf_wrap _ _)).put 3 (79 + ka * 2 + k / 2 % 2) (IntKind.i8.wrap (x.tmod 8)) (by omega) (by rw [kind_i8 _ (by omega)]; exact wf_wrap _ _)).put 4 (66 + ka * 6 + kc) x (by omega) (by rw [kind_u8 _ (by omega)]; exact HW.out)).put 5 (84 + ka) x (by omega) (by rw [kind_u8 _ (by omega)]; exact HW.out)).put 6 65 (bits .xor .u64 (c 65) (IntKind.u64.wrap (IntKind.u64.wrap x * 2 ^ k))) (by omega) (wf_bits _ _ _ _)).put 7 0 x (by omega) HW.out)
  obtain ⟨ps, hps⟩ : ∃ ps, rowUpd (rowUpd (rowUpd (rowUpd (rowUpd (rowUpd (rowUpd (rowUpd (psOf [c, c, c, c, c, c, c, c]) 0 (1 + k) x) 1 78 x) 2 83 (IntKind.i8.wrap (x.tmod 64))) 3 (79 + ka * 2 + k / 2 % 2) (IntKind.i8.wrap (x.tmod 8))) 4 (66 + ka * 6 + kc) x) 5 (84 + ka) x) 6 65 (bits .xor .u64 (c 65) (IntKind.u64.wrap (IntKind.u64.wrap x * 2 ^ k)))) 7 0 x = ps := ⟨_, rfl⟩
  rw [hps] at hN st
  clear hps W64 m2 m6 b2 b6 k2
  have hP := PosRow.of_row st.row (fun i hi => (hN.out i hi).1)
  have hA6 := aggAt_below hA st.below l1
  have l6 := Nat.lt_of_lt_of_le l1 st.below.size
  have hbw6 := hbw.trans (st.below.mono hbw.size)
  clear st hA hbw l1 hs1
  go_wp2_with (with_reducible refine at_end ?_)
  go_loopw [11] (fun i wr => ∃ m : Nat, m ≤ 8 ∧ i = .int .i64 m ∧ Below w6.heap.size w6 wr) (fun i _ => 8 - (intOf i).toNat)
  case atStart => exact ⟨0, by omega, rfl, Below.refl _ _⟩
  case round =>
    obtain ⟨m, hm, rfl, hbr⟩ := hrel
    by_cases hm8 : m < 8
    · obtain ⟨ad, had0, had, hrow⟩ := (hP.below hbr).row (by omega)
      obtain rfl := Option.some.inj had0
      clear had0
      have h1 := hrow m hm8
      rw [add0] at h1
      have h2 := aggAt_below hA6 hbr l6
      have l7 := Nat.lt_of_lt_of_le l6 hbr.size
      obtain ⟨o1, n6, n7⟩ := hN.out m hm8
      have hs := near_same n6 n7
      have o2 := HC.out
      have q2 : (m : Int) < 8 := by omega
      clear hrow n6 n7
      go_wp2_with (with_reducible refine at_end ?_)
      refine wp_region_after (by kernel_rfl) (by kernel_rfl) ?_
      repeat (refine wpQuiet_step (fun K hK => ?_); go_simp; first | (refine hK _ ?_; clear hK K) | (apply Exists.intro; refine ⟨fun p => ?_, hK _ ?_⟩; (go_at_call 59; exact After.call p (same_any _ _ _ o2 o1)); clear hK K))
      refine wpQuiet_nil ?_
      intro w7 hb7
      have hb8 := below_join hbr hb7
      clear h1 h2 l7 o1 o2 had
      go_wp2_with (with_reducible refine at_end ?_)
      go_roundw
      case rel => exact ⟨m + 1, by omega, by go_num, hb8⟩
      case measure => simp [intOf]; omega
    · obtain rfl : m = 8 := by omega
      go_wp2_with (with_reducible refine at_end ?_)
      unfold AtEnd
      go_returns
      exact ⟨rfl, hbw6.trans (hbr.mono hbw6.size)⟩
end Go.Proofs.Ytldacinldgjdcaa
