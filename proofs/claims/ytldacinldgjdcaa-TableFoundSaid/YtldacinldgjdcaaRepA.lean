/- A slice literal of positions; the position that the chapter's examples are made of. -/
import Derived.Test.YtldacinldgjdcaaSameB
import Derived.Great.BuildSlice
namespace Go.Proofs.Ytldacinldgjdcaa
open Go.RowKit
attribute [local go_sem ↓] lv37 zero37 sv37
attribute [local go_sem] run_lv37 run_zero37 run_sv37 rowFree_new rowFree_alloc setRow_new setRow_alloc aggAt_newb aggAt_old aggAt_drew aggAt_drewN posA_size oneCells_pos posA_set After.cell After.frozen After.agg add_block

/-- The positions of a list, told by their places. -/
def psOf (l : List (Nat → Int)) : Nat → Nat → Int := fun i => l.getD i pos0
theorem psOf_cons (c : Nat → Int) (l : List (Nat → Int)) : psJoin 1 (fun _ => c) (psOf l) = psOf (c :: l) := by
  funext i
  unfold psJoin psOf
  by_cases h : i < 1
  · obtain rfl : i = 0 := by omega
    simp
  · obtain ⟨j, rfl⟩ : ∃ j, i = j + 1 := ⟨i - 1, by omega⟩
    simp
theorem posA_cells (c : Nat → Int) : (posA c).toList = cellsL 1 (fun _ => c) := by
  apply List.ext_getElem?
  intro i
  by_cases hi : i < 88
  · rw [cellsL_get _ _ _ (by omega), Array.getElem?_toList, posA_get _ _ hi, Nat.mod_eq_of_lt hi]
  · rw [List.getElem?_eq_none (by simp; omega), List.getElem?_eq_none (by simp; omega)]
theorem flat_cells : ∀ l : List (Nat → Int), (l.map fun c => Value.agg (posA c)).flatMap (fun v => v.cells.toList) = cellsL l.length (psOf l)
  | [] => by simp [cellsL]
  | c :: l => by
    rw [List.map_cons, List.flatMap_cons, flat_cells l]
    show (posA c).toList ++ _ = _
    rw [posA_cells, cellsL_append, psOf_cons, List.length_cons, Nat.add_comm]
theorem PosRow.of_row {w : World} {g n : Nat} {ps : Nat → Nat → Int} {t : TypeId} {fr : Nat × Nat} (h : w.heap[g]? = some (.cells (cellsL n ps).toArray t fr)) (ok : ∀ i, i < n → PosOk (ps i)) : PosRow w (some ⟨g, 0, none⟩) n ps :=
  ⟨ok, fun _ => ⟨⟨g, 0, none⟩, rfl, (Array.getElem?_eq_some_iff.1 h).1, fun i hi => aggAt_of (posA_size _) fun k hk => by
    rw [add_add, add0, cell_of_row _ _ _ _ _ _ h, List.getElem?_toArray, cellsL_at _ _ _ _ hi hk]⟩⟩
theorem PosRow.take {w : World} {A : Option Addr} {n : Nat} {ps : Nat → Nat → Int} (h : PosRow w A n ps) (m : Nat) (hm : m ≤ n) : PosRow w A m ps :=
  ⟨fun i hi => h.ok i (by omega), fun h0 => by
    obtain ⟨ad, h1, h2, h3⟩ := h.row (by omega)
    exact ⟨ad, h1, h2, fun i hi => h3 i (by omega)⟩⟩
theorem PosRow.none (w : World) (ps : Nat → Nat → Int) : PosRow w .none 0 ps := ⟨fun i hi => absurd hi (by omega), fun hi => absurd hi (by omega)⟩
theorem psOf_ok {l : List (Nat → Int)} (h : ∀ c ∈ l, PosOk c) (i : Nat) (hi : i < l.length) : PosOk (psOf l i) := by
  unfold psOf
  rw [List.getD_eq_getElem?_getD, List.getElem?_eq_getElem hi]
  exact h _ (List.getElem_mem hi)
/-- A slice literal of positions: a row of its own. -/
theorem wpList_buildPs {ops : Array Oper} {rest : List Oper} {o : Oper} {a : Act} {Q : Exit → Act → World → Prop} (w : World) (hg : o.guard = .none) (l : List (Nat → Int)) (n : Nat) (parts : Array (Nat × Operand))
    (ho : o.op = .buildSlice 22 n parts) (hn : l.length = n) (hpos : 0 < n) (hsmall : n ≤ 1000)
    (hev : (parts.map fun (i, x) => (i, a.eval x)).toList = ((l.map fun c => Value.agg (posA c)).zipIdx 0).map fun x => (x.2, x.1)) (hok : ∀ c ∈ l, PosOk c)
    (h : ∀ w', PosRow w' (some ⟨w.heap.size, 0, .none⟩) n (psOf l) → Below w.heap.size w w' → w'.heap.size = w.heap.size + 1 → wpList Try.prog ops Q rest (a.put o.dst (.slice (some ⟨w.heap.size, 0, .none⟩) n n)) w') : wpList Try.prog ops Q (o :: rest) a w := by
  obtain ⟨i0, hi, hz0, hz1, hz2⟩ := info_parts pos_info
  subst hn
  refine wpList_buildSlice hg 22 37 l.length parts ho (cellsL l.length (psOf l)).toArray i0 _ Try.underlying22 hi hz0 (by rw [hz1]; omega) (by rw [hz1]; omega) ?_ (h _ (PosRow.of_row (heap_alloc_new w _) (psOf_ok hok)) ((Below.refl _ _).alloc (Nat.le_refl _) _) (by simp))
  rw [hev, hz1]
  have := Great.fill_whole (s := 88) (by omega) (l.map fun c => Value.agg (posA c)) ((Array.range (l.length * 88)).map ((Value.agg (posA pos0)).cells[· % (Value.agg (posA pos0)).cells.size]!)) (fun v hv => by
    obtain ⟨c, _, rfl⟩ := List.mem_map.1 hv
    exact posA_size c) (by simp)
  rw [flat_cells] at this
  exact this

/-- A king on a square, and a clock. -/
def atC (s : Nat) (h : Int) : Nat → Int := upd (upd pos0 (1 + s) 6) 86 h
theorem atC_ok (s : Nat) (h : Int) (hs : s < 64) (hh : (Lit.int .i64 h).wf = true) : PosOk (atC s h) := (PosOk0.upd (1 + s) 6 (by rw [kind_u8 _ (by omega)]; rfl)).upd 86 h hh
set_option maxRecDepth 100000 in
set_option maxHeartbeats 400000 in
theorem at_any (s : Nat) (h : Int) (hs : s < 64) (w : World) :
    Calls Try.prog 74 #[.int .i64 s, .int .i64 h] w fun e w' => e = .returned (.agg (posA (atC s h))) ∧ Below w.heap.size w w' := by
  have q2 : (s : Int) < 64 := by omega
  have q3 : 1 + s < 88 := by omega
  have kk : kindAt (1 + s) = .u8 := kind_u8 _ (by omega)
  have k2 : kindAt 86 = .i64 := rfl
  go_enter Try.func74, Try.ntmps74
  go_wp2_with (with_reducible refine at_end ?_)
  refine end_of (bodyPost_ret (results_agg ld37 rfl _ _ ⟨w.heap.size, 0, .none⟩ (posA (atC s h)) rfl (by go_simp; rfl)) rfl ⟨rfl, by go_grown⟩)
theorem at_lit (s h : Int) (h0 : 0 ≤ s) (h1 : s < 64) (w : World) :
    Calls Try.prog 74 #[.int .i64 s, .int .i64 h] w fun e w' => e = .returned (.agg (posA (atC s.toNat h))) ∧ Below w.heap.size w w' := by
  obtain ⟨k, rfl⟩ := Int.eq_ofNat_of_zero_le h0
  exact at_any k h (by omega) w
end Go.Proofs.Ytldacinldgjdcaa
