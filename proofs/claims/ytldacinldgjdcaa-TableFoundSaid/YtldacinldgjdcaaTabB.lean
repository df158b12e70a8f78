/- A table: what it holds, told by its slots; the look-up, the store, the count and the clearing of its map. -/
import Derived.Test.YtldacinldgjdcaaTabA
import Derived.Test.YtldacinldgjdcaaGrpA
namespace Go.Proofs.Ytldacinldgjdcaa
open Go.RowKit Go.Maps
open Go.ChangeMaps Go.MapKept

/-- What a table's slots hold. -/
def Tab := Nat → Option (Ent × (Nat → Int))
def tabE : Tab := fun _ => none
def setT (f : Tab) (i : Nat) (x : Ent × (Nat → Int)) : Tab := fun j => if j = i then some x else f j
def slotV (x : Option (Ent × (Nat → Int))) : Array Value := match x with | none => slotA ent0 pos0 | some (e, c) => slotA e c
def heldN (f : Tab) (n : Nat) : Nat := ((List.range n).filter fun i => (f i).isSome).length
theorem heldN_le (f : Tab) (n : Nat) : heldN f n ≤ n := by
  have := List.length_filter_le (fun i => (f i).isSome) (List.range n); simpa [heldN] using this
theorem heldN_succ (f : Tab) (n : Nat) : heldN f (n + 1) = heldN f n + if (f n).isSome then 1 else 0 := by
  unfold heldN
  rw [List.range_succ, List.filter_append, List.length_append]
  congr 1
  by_cases h : (f n).isSome = true <;> simp [h]
theorem heldN_tabE (n : Nat) : heldN tabE n = 0 := by simp [heldN, tabE]
theorem setT_far (f : Tab) (i : Nat) (x : Ent × (Nat → Int)) (n : Nat) (h : n ≤ i) : heldN (setT f i x) n = heldN f n := by
  unfold heldN
  congr 1
  apply List.filter_congr
  intro j hj
  have : j < n := by simpa using hj
  unfold setT
  rw [if_neg (by omega)]
theorem heldN_set (f : Tab) (i : Nat) (x : Ent × (Nat → Int)) : ∀ n, i < n → heldN (setT f i x) n = if (f i).isSome then heldN f n else heldN f n + 1
  | 0, h => by omega
  | n + 1, h => by
    rw [heldN_succ, heldN_succ]
    by_cases e : i = n
    · subst e
      rw [setT_far f i x i (Nat.le_refl _)]
      have : (setT f i x i).isSome = true := by simp [setT]
      rw [this]
      by_cases h2 : (f i).isSome = true <;> simp [h2]
    · rw [heldN_set f i x n (by omega)]
      have : setT f i x n = f n := by unfold setT; rw [if_neg (fun h => e h.symm)]
      rw [this]
      by_cases h2 : (f i).isSome = true <;> simp [h2]
      omega
/-- Whatever lies in the slots is well formed. -/
def TabOk (f : Tab) : Prop := ∀ i e c, f i = some (e, c) → EntOk e ∧ PosOk c
theorem TabOk0 : TabOk tabE := fun _ _ _ h => by cases h
theorem TabOk.set {f : Tab} (h : TabOk f) (i : Nat) {e : Ent} {c : Nat → Int} (he : EntOk e) (hc : PosOk c) : TabOk (setT f i (e, c)) := by
  intro j e' c' hj
  unfold setT at hj
  split at hj
  · cases hj; exact ⟨he, hc⟩
  · exact h j e' c' hj

/-- An element of the map as it is. -/
def rawE (v : Value) : Option (DataW Value × List MemPlace) := some (.held v, [])
/-- The map reads as the table. -/
structure TabRel (D : DataW Value) (sz : Nat) (f : Tab) : Prop where
  has : ∀ i : Nat, i < sz → Maps.has D (.int .u64 i) = (f i).isSome
  at_ : ∀ i : Nat, i < sz → D.atKey (.int .u64 i) (.held (.agg (slotA ent0 pos0))) = .held (.agg (slotV (f i)))
  size : Maps.size D = heldN f sz
/-- A table in memory: the struct in block tb, the map in block bm. -/
structure TabSt (w : World) (tb bm sz : Nat) (f : Tab) : Prop where
  hd : w.heap[tb]? = some (.cells #[.int .i64 sz, .map (some bm)] 96 (0, 0))
  map : ∃ D, w.ownsMap Try.prog 29 rawE bm sz D ∧ TabRel D sz f
  ok : TabOk f
  pos : 1 ≤ sz
  max : sz ≤ 4096
theorem owns_tight {w : World} {b n m : Nat} {D : DataW Value} (h : w.ownsMap Try.prog 29 rawE b n D) (hm : Maps.size D ≤ m) : w.ownsMap Try.prog 29 rawE b m D := by
  obtain ⟨es, clock, hb, F, hs, rfl⟩ := h
  exact ⟨es, clock, hb, F, by simpa [Maps.size, length_sorted] using hm, rfl⟩
theorem TabRel.set {D : DataW Value} {sz : Nat} {f : Tab} (h : TabRel D sz f) (hT : Tidy D) (i : Nat) (hi : i < sz) (e : Ent) (c : Nat → Int) : TabRel (D.put (.int .u64 i) (.held (.agg (slotA e c)))) sz (setT f i (e, c)) := by
  have hk : WideAt.IsKeyLit (.int .u64 i) := trivial
  refine ⟨fun j hj => ?_, fun j hj => ?_, ?_⟩
  · by_cases e1 : j = i
    · subst e1
      rw [has_put_same hT.isMap hk]
      simp [setT]
    · rw [has_put_other (by intro e2; simp at e2; omega), h.has j hj]
      simp [setT, e1]
  · by_cases e1 : j = i
    · subst e1
      rw [atKey_put_same hT.isMap hk]
      simp [setT, slotV]
    · rw [atKey_put_other (by intro e2; simp at e2; omega), h.at_ j hj]
      simp [setT, e1]
  · rw [size_put hT, heldN_set f i (e, c) sz hi, h.has i hi, h.size]
theorem TabSt.lt {w : World} {tb bm sz : Nat} {f : Tab} (h : TabSt w tb bm sz f) : tb < w.heap.size ∧ bm < w.heap.size ∧ tb ≠ bm := by
  obtain ⟨D, hm, _⟩ := h.map
  refine ⟨(Array.getElem?_eq_some_iff.1 h.hd).1, hm.lt, fun e => ?_⟩
  obtain ⟨es, clock, hb, _⟩ := hm
  have := h.hd
  rw [e, hb] at this
  cases this
theorem TabSt.kept {w w' : World} {tb bm sz : Nat} {f : Tab} {row : Option Nat} (h : TabSt w tb bm sz f) (hg : w.grownBy w' row) (h1 : some tb ≠ row) (h2 : some bm ≠ row) : TabSt w' tb bm sz f := by
  obtain ⟨D, hm, hr⟩ := h.map
  exact ⟨(hg.block tb h.lt.1 h1).trans h.hd, ⟨D, hm.kept hg h2, hr⟩, h.ok, h.pos, h.max⟩
theorem TabSt.below {w w' : World} {tb bm sz : Nat} {f : Tab} (h : TabSt w tb bm sz f) (hb : Below w.heap.size w w') : TabSt w' tb bm sz f := h.kept (grown_of hb) (by simp) (by simp)
theorem TabSt.drew {w : World} {tb bm sz : Nat} {f : Tab} (h : TabSt w tb bm sz f) : TabSt w.drew tb bm sz f := ⟨h.hd, h.map, h.ok, h.pos, h.max⟩
theorem TabSt.cells {w : World} {tb bm sz : Nat} {f : Tab} (h : TabSt w tb bm sz f) : w.cell? ⟨tb, 0, none⟩ = some (.int .i64 sz) ∧ w.cell? ⟨tb, 1, none⟩ = some (.map (some bm)) :=
  ⟨by rw [cell_of_row _ _ _ _ _ _ h.hd]; rfl, by rw [cell_of_row _ _ _ _ _ _ h.hd]; rfl⟩
theorem wf_idx {i : Nat} (h : i < 4096) : (Lit.int .u64 (i : Int)).wf = true := wf_u64 ⟨by omega, by omega⟩

section
variable {ops : Array Oper} {rest : List Oper} {o : Oper} {a : Act} {Q : Exit → Act → World → Prop}
theorem wpList_lookup_tab (w : World) (hg : o.guard = none) (m x : Operand) (ho : o.op = Op.lookup 94 m x true) {tb bm sz : Nat} {f : Tab} (st : TabSt w tb bm sz f) (hm : a.eval m = .map (some bm)) (i : Nat) (hi : i < sz) (hx : a.eval x = .int .u64 i)
    (h : wpList Try.prog ops Q rest (a.put o.dst (.tuple #[.agg (slotV (f i)), .bool (f i).isSome])) w) : wpList Try.prog ops Q (o :: rest) a w := by
  obtain ⟨D, hD, hr⟩ := st.map
  have hmax := st.max
  refine wpList_lookup_own_ok w hg m x 94 ho 29 101 keyLaw29 Try.underlying94 rawE (run_zero101 w) (.held (.agg (slotA ent0 pos0))) [] rfl bm sz D hm hD _ _ hx (keyOf_int_mk Try.underlying29 (wf_idx (by omega))) fun v ps hv => ?_
  rw [hr.at_ i hi] at hv
  have e : v = .agg (slotV (f i)) := by
    simp only [rawE, Option.some.injEq, Prod.mk.injEq, DataW.held.injEq] at hv
    exact hv.1
  rw [e, hr.has i hi]
  exact h
theorem wpList_store_tab (w : World) (hg : o.guard = none) (m x v : Operand) (ho : o.op = Op.mapUpdate 94 m x v) {tb bm sz : Nat} {f : Tab} (st : TabSt w tb bm sz f) (hm : a.eval m = .map (some bm)) (i : Nat) (hi : i < sz) (hx : a.eval x = .int .u64 i)
    (e : Ent) (c : Nat → Int) (hv : a.eval v = .agg (slotA e c)) (he : EntOk e) (hc : PosOk c)
    (h : ∀ w', TabSt w' tb bm sz (setT f i (e, c)) → w.grownBy w' (some bm) → wpList Try.prog ops Q rest (a.put o.dst undef) w') : wpList Try.prog ops Q (o :: rest) a w := by
  obtain ⟨D, hD, hr⟩ := st.map
  have hmax := st.max
  refine wpList_mapUpdate_own w hg m x v 94 ho 29 101 keyLaw29 Try.underlying94 rawE bm sz D hm hD (by unfold maxLen; omega) _ _ _ hx hv (keyOf_int_mk Try.underlying29 (wf_idx (by omega))) (.held (.agg (slotA e c))) [] rfl fun w' hD' hg' => ?_
  have hr' := hr.set (hD.tidy keyLaw29) i hi e c
  refine h w' ⟨(hg'.block tb st.lt.1 (by simp; exact st.lt.2.2)).trans st.hd, ⟨_, owns_tight hD' (by rw [hr'.size]; exact heldN_le _ _), hr'⟩, st.ok.set i he hc, st.pos, st.max⟩ hg'
theorem wpList_len_tab (w : World) (hg : o.guard = none) (m : Operand) (ho : o.op = Op.call { callee := Callee.builtin Builtin.len, args := #[m], argTypes := #[94] }) {tb bm sz : Nat} {f : Tab} (st : TabSt w tb bm sz f) (hm : a.eval m = .map (some bm))
    (h : wpList Try.prog ops Q rest (a.put o.dst (.int .i64 (heldN f sz : Nat))) w) : wpList Try.prog ops Q (o :: rest) a w := by
  obtain ⟨D, hD, hr⟩ := st.map
  refine wpList_len_own w hg m 94 ho 29 101 Try.underlying94 rawE bm sz D hm hD ?_
  rw [hr.size]
  exact h
theorem wpList_clear_tab (w : World) (hg : o.guard = none) (m : Operand) (ho : o.op = Op.call { callee := Callee.builtin Builtin.clear, args := #[m], argTypes := #[94] }) {tb bm sz : Nat} {f : Tab} (st : TabSt w tb bm sz f) (hm : a.eval m = .map (some bm))
    (h : ∀ w', TabSt w' tb bm sz tabE → w.grownBy w' (some bm) → wpList Try.prog ops Q rest (a.put o.dst (.tuple #[])) w') : wpList Try.prog ops Q (o :: rest) a w := by
  obtain ⟨D, hD, hr⟩ := st.map
  have hlt := st.lt
  obtain ⟨es, clock, hb, F, hs, rfl⟩ := hD
  have hrun : (Builtin.clear_ #[94] o.type #[.map (some bm)]).run Try.prog w = .ok (.tuple #[]) (setBlock w bm (.map #[] clock)) := by
    simp [Builtin.clear_, run_underlying Try.underlying94, MapKept.run_getObj_map hb, MapKept.run_setObj_map _ hb, Result.andThen, setBlock]
  have hg' : w.grownBy (setBlock w bm (.map #[] clock)) (some bm) := ⟨rfl, rfl, rfl, by simp [setBlock], fun i _ hi => heap_setBlock_other hb _ (fun e => hi (by rw [e]))⟩
  refine wpList_plain hg fun K hK => ?_
  unfold Oper.wp
  simp [execOp, ho, resolve, invoke, builtin, hm, hrun, Result.andThen]
  refine hK _ _ (h _ ⟨(hg'.block tb hlt.1 (by simp; exact hlt.2.2)).trans st.hd, ⟨.map [], ⟨#[], clock, heap_setBlock_same hb _, ⟨by simp, stamped_empty clock, by simp⟩, by simp, rfl⟩, ?_⟩, TabOk0, st.pos, st.max⟩ hg')
  exact ⟨fun i _ => rfl, fun i _ => rfl, (heldN_tabE sz).symm⟩
end
end Go.Proofs.Ytldacinldgjdcaa
