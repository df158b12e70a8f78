/- Three positions in three blocks of memory: what calls and stores leave of them. -/
import Derived.Test.YtldacinldgjdcaaKeyX
import Derived.Test.YtldacinldgjdcaaKeyK
namespace Go.Proofs.Ytldacinldgjdcaa
open Go.RowKit
/-- A position that is a variable's own block. -/
def OwnBlk (w : World) (g : Nat) (c : Nat → Int) : Prop := w.heap[g]? = some (.cells (posA c) 37 (0, 0))
theorem OwnBlk.lt {w : World} {g : Nat} {c : Nat → Int} (h : OwnBlk w g c) : g < w.heap.size := (Array.getElem?_eq_some_iff.1 h).1
theorem OwnBlk.new (w : World) (c : Nat → Int) : OwnBlk (w.alloc (.cells (posA c) 37)) w.heap.size c := heap_alloc_new w _
theorem OwnBlk.below {w w' : World} {B g : Nat} {c : Nat → Int} (h : OwnBlk w g c) (hb : Below B w w') (hg : g < B) : OwnBlk w' g c := (hb.block g hg).trans h
theorem OwnBlk.after {w w' : World} {g : Nat} {c : Nat → Int} (h : OwnBlk w g c) (hb : Below w.heap.size w w') : OwnBlk w' g c := h.below hb h.lt
theorem OwnBlk.alloc {w : World} {g : Nat} {c : Nat → Int} (h : OwnBlk w g c) (o : Obj) : OwnBlk (w.alloc o) g c := (Below.heap_alloc w o g h.lt).trans h
theorem OwnBlk.cell {w : World} {g : Nat} {c : Nat → Int} (h : OwnBlk w g c) (i : Nat) (k : IntKind) (hi : i < 88) (hk : kindAt i = k) : w.cell? ⟨g, i, none⟩ = some (.int k (c i)) := by
  rw [cell_of_row _ _ _ _ _ _ h, posA_get _ _ hi, hk]
theorem OwnBlk.frozen {w : World} {g : Nat} {c : Nat → Int} (h : OwnBlk w g c) (i : Nat) : w.frozen? ⟨g, i, none⟩ = false := frozen_of_row _ _ _ _ _ h
theorem OwnBlk.agg {w : World} {g : Nat} {c : Nat → Int} (h : OwnBlk w g c) : aggAt w ⟨g, 0, none⟩ 88 = some (posA c) := aggAt_row h
theorem OwnBlk.put {w : World} {g : Nat} {c : Nat → Int} (h : OwnBlk w g c) (i : Nat) (k : IntKind) (v : Int) (hi : i < 88) (hk : kindAt i = k) : OwnBlk (w.setCell ⟨g, i, none⟩ (.int k v)) g (upd c i v) := by
  have := heap_setCell_same w g i (posA c) 37 (.int k v) h
  rw [posA_set c i k v hi hk] at this
  exact this
theorem OwnBlk.far {w : World} {g : Nat} {c : Nat → Int} (h : OwnBlk w g c) (g' i : Nat) (v : Value) (hg : g ≠ g') : OwnBlk (w.setCell ⟨g', i, none⟩ v) g c := (heap_setCell_other _ _ _ _ hg).trans h
theorem own_two {w w1 : World} {a b : Nat → Int} (hb : Below ((w.alloc (.cells (posA a) 37)).alloc (.cells (posA b) 37)).heap.size ((w.alloc (.cells (posA a) 37)).alloc (.cells (posA b) 37)) w1) :
    OwnBlk w1 w.heap.size a ∧ OwnBlk w1 (w.heap.size + 1) b ∧ Below w.heap.size w w1 := by
  have h := OwnBlk.new (w.alloc (.cells (posA a) 37)) b
  have e : (w.alloc (.cells (posA a) 37)).heap.size = w.heap.size + 1 := by simp
  rw [e] at h
  exact ⟨((OwnBlk.new w a).alloc _).after hb, h.after hb, (((Below.refl _ _).alloc (Nat.le_refl _) _).alloc (by simp) _).trans (hb.mono (by simp; omega))⟩
end Go.Proofs.Ytldacinldgjdcaa
