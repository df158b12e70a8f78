/- The reference's table in memory: a row of slots; its zero, a load, a store; the walks of New, at and Held. -/
import Derived.Test.YtldacinldgjdcaaTabC
import Derived.Test.YtldacinldgjdcaaSameC
import Derived.Test.YtldacinldgjdcaaKeyR
import Derived.Laws.CopyRow
import Derived.Laws.MakeOwn
namespace Go.Proofs.Ytldacinldgjdcaa
open Go.RowKit Go.Maps

/-- A slot of the reference: whether it is full, an entry, a position. -/
def rslotL (b : Bool) (e : Ent) (c : Nat → Int) : List Value := .bool b :: (entL e ++ seg c 0 88)
def rslotA (b : Bool) (e : Ent) (c : Nat → Int) : Array Value := ⟨rslotL b e c⟩
@[simp] theorem rslotL_len (b : Bool) (e : Ent) (c : Nat → Int) : (rslotL b e c).length = 97 := by simp [rslotL]
@[simp] theorem rslotA_size (b : Bool) (e : Ent) (c : Nat → Int) : (rslotA b e c).size = 97 := by simp [rslotA]
theorem oneCells_rslot (b : Bool) (e : Ent) (c : Nat → Int) : OneCells (rslotA b e c) := by
  unfold OneCells
  rw [Array.all_eq_true_iff_forall_mem]
  intro u hu
  simp only [rslotA, rslotL, List.mem_toArray, List.mem_cons, List.mem_append] at hu
  rcases hu with rfl | hu | hu
  · rfl
  · simp [entL] at hu
    rcases hu with rfl | rfl | rfl | rfl | rfl | rfl | rfl | rfl <;> rfl
  · exact seg_one c u hu
theorem rslot_ent (b : Bool) (e : Ent) (c : Nat → Int) (i : Nat) (h : i < 8) : (rslotA b e c)[1 + i]? = (entA e)[i]? := by
  simp only [rslotA, rslotL, entA, List.getElem?_toArray]
  rw [show 1 + i = i + 1 by omega, List.getElem?_cons_succ, List.getElem?_append_left (by simpa using h)]
theorem rslot_pos (b : Bool) (e : Ent) (c : Nat → Int) (i : Nat) : (rslotA b e c)[9 + i]? = (posA c)[i]? := by
  simp only [rslotA, rslotL, posA, segA, List.getElem?_toArray]
  rw [show 9 + i = (8 + i) + 1 by omega, List.getElem?_cons_succ, List.getElem?_append_right (by simp)]
  simp
def rV (x : Option (Ent × (Nat → Int))) : Array Value := match x with | none => rslotA false ent0 pos0 | some (e, c) => rslotA true e c
@[simp] theorem rV_size (x : Option (Ent × (Nat → Int))) : (rV x).size = 97 := by
  rcases x with _ | ⟨e, c⟩
  · exact rslotA_size _ _ _
  · exact rslotA_size _ _ _
theorem oneCells_rV (x : Option (Ent × (Nat → Int))) : OneCells (rV x) := by
  rcases x with _ | ⟨e, c⟩
  · exact oneCells_rslot _ _ _
  · exact oneCells_rslot _ _ _
theorem rV0 (x : Option (Ent × (Nat → Int))) : (rV x)[0]? = some (.bool x.isSome) := by
  rcases x with _ | ⟨e, c⟩ <;> rfl
theorem run_zero105 (w : World) : (zeroValue 105).run Try.prog w = .ok (.agg (rslotA false ent0 pos0)) w := by kernel_rfl
theorem run_b99 (r n : Nat) (w : World) : (Instr.build 99 #[(0, .slice (some ⟨r, 0, none⟩) n n)]).run Try.prog w = .ok (.agg #[.slice (some ⟨r, 0, none⟩) n n]) w := by kernel_rfl
theorem run_b105 (e : Ent) (c : Nat → Int) (w : World) : (Instr.build 105 #[(0, .bool true), (1, .agg (entA e)), (2, .agg (posA c))]).run Try.prog w = .ok (.agg (rslotA true e c)) w := by kernel_rfl
theorem built105 (e : Ent) (c : Nat → Int) : Try.prog.built 105 [(0, .bool true), (1, .agg (entA e)), (2, .agg (posA c))] = some (rslotA true e c) := by kernel_rfl
theorem info105 : (Try.prog.info? 105).map (fun i => (i.zero, i.size, decide (i.bytes ≤ 1000))) = some (some (.agg (rslotA false ent0 pos0)), 97, true) := by kernel_rfl
theorem run_make97 (n : Nat) (hn : n ≤ 4096) (w : World) : (Instr.makeSlice 97 (.int .i64 (n : Int)) (.int .i64 (n : Int))).run Try.prog w = .ok (.slice (some ⟨w.heap.size, 0, none⟩) n n) (w.alloc (.cells (madeCells (rslotA false ent0 pos0) (n * 97)) 105)) := by
  obtain ⟨i, hi, hzz⟩ := Option.map_eq_some_iff.1 info105
  simp only [Prod.mk.injEq, decide_eq_true_eq] at hzz
  obtain ⟨hz, hs, hb⟩ := hzz
  have h1 : (i.bytes : Int) * (n : Int) ≤ 281474976710656 := by
    have h2 : i.bytes * n ≤ 1000 * 4096 := Nat.mul_le_mul hb hn
    have h3 : ((i.bytes * n : Nat) : Int) ≤ 281474976710656 := by omega
    rwa [Int.natCast_mul] at h3
  have hr := run_make (P := Try.prog) w 97 105 i (.agg (rslotA false ent0 pos0)) Try.underlying97 hi hz .i64 .i64 n n (by omega) (Int.le_refl _) h1 (by omega)
  rw [hs] at hr
  exact hr
theorem made_at (A : Array Value) (hA : A.size = 97) (n i j : Nat) (hi : i < n) (hj : j < 97) : (madeCells A (n * 97))[i * 97 + j]? = A[j]? := by
  have h : i * 97 + j < n * 97 := by omega
  unfold madeCells
  simp [h, hA, Nat.mod_eq_of_lt hj, hj]
/-- The reference's table in memory: the struct in block rb, its slots in block rr. -/
structure RefSt (w : World) (rb rr sz : Nat) (f : Tab) : Prop where
  hd : w.heap[rb]? = some (.cells #[.slice (some ⟨rr, 0, none⟩) sz sz] 99 (0, 0))
  row : ∃ cs t, w.heap[rr]? = some (.cells cs t (0, 0)) ∧ cs.size = sz * 97 ∧ ∀ i j, i < sz → j < 97 → cs[i * 97 + j]? = (rV (f i))[j]?
  ne : rb ≠ rr
  ok : TabOk f
  pos : 1 ≤ sz
  max : sz ≤ 4096
theorem RefSt.lt {w : World} {rb rr sz : Nat} {f : Tab} (h : RefSt w rb rr sz f) : rb < w.heap.size ∧ rr < w.heap.size := by
  obtain ⟨cs, t, hr, _⟩ := h.row
  exact ⟨(Array.getElem?_eq_some_iff.1 h.hd).1, (Array.getElem?_eq_some_iff.1 hr).1⟩
theorem RefSt.kept {w w' : World} {rb rr sz : Nat} {f : Tab} {row : Option Nat} (h : RefSt w rb rr sz f) (hg : w.grownBy w' row) (h1 : some rb ≠ row) (h2 : some rr ≠ row) : RefSt w' rb rr sz f := by
  obtain ⟨cs, t, hr, hs, hc⟩ := h.row
  exact ⟨(hg.block rb h.lt.1 h1).trans h.hd, ⟨cs, t, (hg.block rr h.lt.2 h2).trans hr, hs, hc⟩, h.ne, h.ok, h.pos, h.max⟩
theorem RefSt.below {w w' : World} {rb rr sz : Nat} {f : Tab} (h : RefSt w rb rr sz f) (hb : Below w.heap.size w w') : RefSt w' rb rr sz f := h.kept (grown_of hb) (by simp) (by simp)
theorem RefSt.drew {w : World} {rb rr sz : Nat} {f : Tab} (h : RefSt w rb rr sz f) : RefSt w.drew rb rr sz f := ⟨h.hd, h.row, h.ne, h.ok, h.pos, h.max⟩
theorem RefSt.cell {w : World} {rb rr sz : Nat} {f : Tab} (h : RefSt w rb rr sz f) : w.cell? ⟨rb, 0, none⟩ = some (.slice (some ⟨rr, 0, none⟩) sz sz) := by
  rw [cell_of_row _ _ _ _ _ _ h.hd]; rfl
theorem off_add (rr i j : Nat) : (⟨rr, i * 97, none⟩ : Addr).add j = ⟨rr, i * 97 + j, none⟩ := by unfold Addr.add; split <;> simp_all
theorem RefSt.elem {w : World} {rb rr sz : Nat} {f : Tab} (h : RefSt w rb rr sz f) (i : Nat) (hi : i < sz) : aggAt w ⟨rr, i * 97, none⟩ 97 = some (rV (f i)) := by
  obtain ⟨cs, t, hr, hs, hc⟩ := h.row
  refine aggAt_of (rV_size _) fun j hj => ?_
  rw [off_add, cell_of_row _ _ _ _ _ _ hr, hc i j hi hj]
theorem RefSt.full {w : World} {rb rr sz : Nat} {f : Tab} (h : RefSt w rb rr sz f) (i : Nat) (hi : i < sz) : w.cell? ⟨rr, i * 97, none⟩ = some (.bool (f i).isSome) := by
  obtain ⟨cs, t, hr, hs, hc⟩ := h.row
  rw [cell_of_row _ _ _ _ _ _ hr]
  exact (hc i 0 hi (by omega)).trans (rV0 _)
/-- A slot of it is stored. -/
theorem RefSt.stored {w : World} {rb rr sz : Nat} {f : Tab} (h : RefSt w rb rr sz f) (i : Nat) (hi : i < sz) (e : Ent) (c : Nat → Int) (he : EntOk e) (hc : PosOk c) :
    ∃ w', (storeVar 105 ⟨rr, i * 97, none⟩ (.agg (rslotA true e c))).run Try.prog w = .ok () w' ∧ RefSt w' rb rr sz (setT f i (e, c)) ∧ w.grownBy w' (some rr) := by
  obtain ⟨cs, t, hr, hs, hat⟩ := h.row
  have hfit : i * 97 + 97 ≤ cs.size := by omega
  have hst := run_storeCells_at Try.prog rr (i * 97) t (rslotL true e c) 0 cs w hr (by simp; omega) (fun v hv => (Array.all_eq_true_iff_forall_mem.1 (oneCells_rslot true e c)) v (by simpa [rslotA] using hv))
  simp only [Nat.add_zero, rslotL_len] at hst
  have hi2 : (Try.prog.info? 105).map (·.size) = some 97 := by kernel_rfl
  obtain ⟨inf, hq, hsz⟩ := Option.map_eq_some_iff.1 hi2
  refine ⟨w.setRow rr (List.take (i * 97) cs.toList ++ rslotL true e c ++ List.drop (i * 97 + 97) cs.toList).toArray, ?_, ⟨?_, ⟨(List.take (i * 97) cs.toList ++ rslotL true e c ++ List.drop (i * 97 + 97) cs.toList).toArray, t, setRow_heap w rr cs _ t _ hr, ?_, ?_⟩, h.ne, h.ok.set i he hc, h.pos, h.max⟩, ?_⟩
  · rw [show (rslotA true e c) = ⟨rslotL true e c⟩ from rfl]
    simp [storeVar, sizeOf, typeInfo, hq, Value.cells, hsz, hst]
  · rw [setRow_other w rr rb _ h.ne]; exact h.hd
  · simp; omega
  · intro k j hk hj
    simp only [List.getElem?_toArray]
    by_cases e1 : k = i
    · subst e1
      rw [List.getElem?_append_left (by simp; omega), List.getElem?_append_right (by simp; omega)]
      simp only [List.length_take, Array.length_toList]
      rw [show k * 97 + j - min (k * 97) cs.size = j by omega]
      simp [setT, rV, rslotA]
    · have hv : rV (setT f i (e, c) k) = rV (f k) := by simp [setT, e1]
      rw [hv, ← hat k j hk hj]
      by_cases e2 : k < i
      · rw [List.getElem?_append_left (by simp; omega), List.getElem?_append_left (by simp; omega), List.getElem?_take, if_pos (by omega), Array.getElem?_toList]
      · rw [List.getElem?_append_right (by simp; omega)]
        simp only [List.length_append, List.length_take, Array.length_toList, rslotL_len, List.getElem?_drop]
        rw [show i * 97 + 97 + (k * 97 + j - (min (i * 97) cs.size + 97)) = k * 97 + j by omega, Array.getElem?_toList]
  · exact ⟨rfl, rfl, rfl, by simp [World.setRow], fun k _ hk => setRow_other w rr k _ (fun e => hk (by rw [e]))⟩
section
variable {ops : Array Oper} {rest : List Oper} {o : Oper} {a : Act} {Q : Exit → Act → World → Prop}
theorem wpList_store_ref (w : World) (hg : o.guard = none) (x y : Operand) (ho : o.op = Op.store 105 x y) {rb rr sz : Nat} {f : Tab} (st : RefSt w rb rr sz f) (i : Nat) (hi : i < sz) (hx : a.eval x = .pointer (some ⟨rr, i * 97, none⟩))
    (e : Ent) (c : Nat → Int) (hy : a.eval y = .agg (rslotA true e c)) (he : EntOk e) (hc : PosOk c)
    (h : ∀ w', RefSt w' rb rr sz (setT f i (e, c)) → w.grownBy w' (some rr) → wpList Try.prog ops Q rest (a.put o.dst undef) w') : wpList Try.prog ops Q (o :: rest) a w := by
  obtain ⟨w', hrun, st', hg'⟩ := st.stored i hi e c he hc
  refine wpList_plain hg fun K hK => ?_
  unfold Oper.wp execOp
  simp only [ho, hx, hy, Instr.storeAt, Instr.sureAddr, Sem.run_bind, Sem.run_pure, Result.andThen_ok, hrun]
  exact hK _ _ (h w' st' hg')
end
theorem lv105' (a : Addr) : loadVar 105 a = loadAgg 105 a := rfl
def zeroSl : Sem Value := zeroValue 105
theorem zero105 : zeroValue 105 = zeroSl := rfl
theorem run_zeroSl (w : World) : zeroSl.run Try.prog w = .ok (.agg (rslotA false ent0 pos0)) w := run_zero105 w
attribute [local go_sem] entA_ne slotA_ne
attribute [local go_sem ↓] lv37 zero37 sv37 lv61 zero61 sv61
attribute [local go_sem] run_lv37 run_zero37 run_sv37 run_lv61 run_sv61 run_zeroEnt rowFree_new rowFree_alloc setRow_new setRow_alloc aggAt_newb aggAt_old aggAt_drew aggAt_drewN posA_size oneCells_pos entA_size oneCells_ent After.cell After.frozen After.agg add_block run_b0 run_b99
set_option maxRecDepth 100000 in
theorem refnew_any {sz : Nat} (h1 : 1 ≤ sz) (h2 : sz ≤ 4096) (w : World) :
    Calls Try.prog 46 #[.int .i64 sz] w fun e w' => ∃ rb rr, e = .returned (.pointer (some ⟨rb, 0, none⟩)) ∧ RefSt w' rb rr sz tabE ∧ Below w.heap.size w w' ∧ w.heap.size ≤ rb ∧ w.heap.size ≤ rr := by
  have hmk := run_make97 sz h2
  go_enter Try.func46, Try.ntmps46
  go_wp2_with (with_reducible refine at_end ?_)
  unfold AtEnd
  go_returns
  refine ⟨w.heap.size + 1, w.heap.size, rfl, ⟨?_, ⟨_, 105, (Below.heap_alloc _ _ _ (by simp)).trans (heap_alloc_new _ _), size_madeCells _ _, fun i j hi hj => made_at _ (rslotA_size _ _ _) sz i j hi hj⟩, by omega, TabOk0, h1, h2⟩, by go_grown, by omega, Nat.le_refl _⟩
  have := heap_alloc_new (w.alloc (.cells (madeCells (rslotA false ent0 pos0) (sz * 97)) 105)) (.cells #[.slice (some ⟨w.heap.size, 0, none⟩) sz sz] 99)
  simpa using this
set_option maxRecDepth 100000 in
theorem refat_any {w : World} {rb rr sz : Nat} {f : Tab} (c : Nat → Int) (st : RefSt w rb rr sz f) (hc : PosOk c) :
    Calls Try.prog 71 #[.pointer (some ⟨rb, 0, none⟩), .agg (posA c)] w fun e w' => e = .returned (.int .i64 (idxOf sz c : Nat)) ∧ Below w.heap.size w w' := by
  have st1 := st.below (((Below.refl _ _).alloc (Nat.le_refl _) (.cells (posA c) 37)) : Below w.heap.size w _)
  have c0 := st1.cell
  have l := Nat.lt_succ_of_lt st.lt.1
  have q1 : IntKind.u64.wrap (sz : Int) = sz := by rw [IntKind.wrap_u64]; have := st.max; omega
  have q2 : ¬(sz : Int) = 0 := by have := st.pos; omega
  have q3 : ¬sz = 0 := by omega
  have q4 := idxOf_int st.pos c
  have q5 : IntKind.i64.wrap (idxOf sz c : Int) = (idxOf sz c : Int) := IntWalk.i64_in _ (by have := idxOf_lt st.pos c; have := st.max; omega)
  have OC := Lib.hid hc
  go_enter Try.func71, Try.ntmps71
  go_wp2_with (with_reducible refine at_end ?_)
  refine wp_region_after (by kernel_rfl) (by kernel_rfl) ?_
  repeat (refine wpQuiet_step (fun K hK => ?_); go_simp; first | (refine hK _ ?_; clear hK K) | (apply Exists.intro; refine ⟨fun p => ?_, hK _ ?_⟩; (go_at_call 43; exact After.call p (refkey_any _ OC.out _)); clear hK K))
  refine wpQuiet_nil ?_
  intro w1 hb1
  go_wp2_with (with_reducible refine at_end ?_)
  unfold AtEnd
  go_returns
  exact ⟨rfl, ((Below.refl _ _).alloc (Nat.le_refl _) _).trans (hb1.mono (by simp))⟩
end Go.Proofs.Ytldacinldgjdcaa
