/- What a store of a whole struct does, a position's zero, one cell of a position changed. -/
import Derived.Test.YtldacinldgjdcaaPos
namespace Go.Proofs.Ytldacinldgjdcaa
open Go.RowKit

def upd (c : Nat → Int) (i : Nat) (v : Int) : Nat → Int := fun j => if j = i then v else c j
theorem upd_same (c : Nat → Int) (i : Nat) (v : Int) : upd c i v i = v := by simp [upd]
theorem upd_other (c : Nat → Int) (i : Nat) (v : Int) (j : Nat) (h : j ≠ i) : upd c i v j = c j := by simp [upd, h]
theorem PosOk.upd {c : Nat → Int} (h : PosOk c) (i : Nat) (v : Int) (hv : (Lit.int (kindAt i) v).wf = true) : PosOk (upd c i v) := by
  intro j hj
  by_cases e : j = i
  · subst e; rw [upd_same]; exact hv
  · rw [upd_other _ _ _ _ e]; exact h j hj
theorem posA_set (c : Nat → Int) (i : Nat) (k : IntKind) (v : Int) (h : i < 88) (hk : kindAt i = k) : (posA c).setIfInBounds i (.int k v) = posA (upd c i v) := by
  subst hk
  apply Array.ext_getElem?
  intro j
  rw [Array.getElem?_setIfInBounds]
  by_cases e : i = j
  · subst e
    rw [if_pos rfl, posA_size, if_pos h, posA_get _ _ h, upd_same]
  · rw [if_neg e]
    by_cases hj : j < 88
    · rw [posA_get _ _ hj, posA_get _ _ hj, upd_other _ _ _ _ (fun h => e h.symm)]
    · rw [Array.getElem?_eq_none (by simp; omega), Array.getElem?_eq_none (by simp; omega)]

/-! ### The zero of a position -/
def pos0 : Nat → Int := fun _ => 0
theorem PosOk0 : PosOk pos0 := by
  intro i _
  simp only [pos0]
  unfold kindAt
  split
  · rfl
  · split
    · rfl
    · split <;> rfl
def zeroPos : Sem Value := zeroValue 37
theorem zero37 : zeroValue 37 = zeroPos := rfl
theorem run_zero37 (w : World) : (zeroPos).run Try.prog w = .ok (.agg (posA pos0)) w := by kernel_rfl

/-! ### A store of a whole struct into a block of its own size -/
def rowFree (w : World) (g n : Nat) : Bool := match w.heap[g]? with | some (.cells cs _ (a, b)) => cs.size == n && a == 0 && b == 0 | _ => false
def storeAgg (t : TypeId) (a : Addr) (v : Value) : Sem Unit := storeVar t a v
theorem run_storeAgg {t n : Nat} (hi : (Try.prog.info? t).map (·.size) = some n) (w : World) (g : Nat) (A : Array Value) (h : rowFree w g n = true) (hs : A.size = n) (h1 : A.all (·.oneCell') = true) :
    (storeAgg t ⟨g, 0, none⟩ (.agg A)).run Try.prog w = .ok () (w.setRow g A) := by
  unfold rowFree at h
  cases hh : w.heap[g]? with
  | none => rw [hh] at h; cases h
  | some o =>
    rw [hh] at h
    cases o <;> try (cases h; done)
    rename_i cs t' fr
    obtain ⟨a, b⟩ := fr
    simp only [Bool.and_eq_true, beq_iff_eq] at h
    obtain ⟨⟨h2, rfl⟩, rfl⟩ := h
    exact run_storeVar_row (P := Try.prog) w g t' t cs A hh (by rw [hi, hs]) (by omega) h1
theorem rowFree_new (w : World) (Z : Array Value) (t : TypeId) (g n : Nat) (h : g = w.heap.size) : rowFree (w.alloc (.cells Z t)) g n = (Z.size == n) := by
  subst h; unfold rowFree; rw [heap_alloc_new]; simp
theorem rowFree_alloc (w : World) (o : Obj) (g n : Nat) (h : g < w.heap.size) : rowFree (w.alloc o) g n = rowFree w g n := by
  unfold rowFree; rw [Below.heap_alloc w o g h]
theorem rowFree_of {w : World} {g n : Nat} {cs : Array Value} {t : TypeId} (h : w.heap[g]? = some (.cells cs t (0, 0))) (hs : cs.size = n) : rowFree w g n = true := by
  unfold rowFree; rw [h]; simp [hs]
theorem setRow_new (w : World) (Z A : Array Value) (t : TypeId) (g : Nat) (h : g = w.heap.size) : (w.alloc (.cells Z t)).setRow g A = w.alloc (.cells A t) := by
  subst h
  unfold World.setRow World.alloc
  congr 1
  apply Array.ext_getElem?
  intro k
  rw [Array.getElem?_modify, Array.getElem?_push, Array.getElem?_push]
  by_cases e : k = w.heap.size
  · subst e; simp
  · simp only [e, if_false]
    rw [if_neg (fun h => e (Eq.symm h))]
theorem setRow_alloc (w : World) (o : Obj) (A : Array Value) (g : Nat) (h : g < w.heap.size) : (w.alloc o).setRow g A = (w.setRow g A).alloc o := by
  unfold World.setRow World.alloc
  congr 1
  apply Array.ext_getElem?
  intro k
  rw [Array.getElem?_modify, Array.getElem?_push, Array.getElem?_push, Array.getElem?_modify]
  simp only [Array.size_modify]
  by_cases e : k = w.heap.size
  · subst e
    simp [show g ≠ w.heap.size by omega]
  · simp [e]
theorem setRow_drew (w : World) (g : Nat) (A : Array Value) : w.drew.setRow g A = (w.setRow g A).drew := rfl
theorem Below.setRow {B : Nat} {a w : World} (h : Below B a w) {g : Nat} (hg : B ≤ g) (A : Array Value) : Below B a (w.setRow g A) :=
  h.trans ⟨rfl, rfl, rfl, by simp [World.setRow], fun k hk => setRow_other w g k A (by omega)⟩
theorem aggAt_setRow {w : World} {g : Nat} {old A : Array Value} {t : TypeId} {fr : Nat × Nat} (h : w.heap[g]? = some (.cells old t fr)) : aggAt (w.setRow g A) ⟨g, 0, none⟩ A.size = some A :=
  aggAt_row (setRow_heap w g old A t fr h)

def OneCells (A : Array Value) : Prop := A.all (·.oneCell') = true
theorem oneCells_pos (c : Nat → Int) : OneCells (posA c) := posA_one c
theorem sv37 (a : Addr) (v : Value) : storeVar 37 a v = storeAgg 37 a v := rfl
theorem run_sv37 (w : World) (g : Nat) (A : Array Value) (h : rowFree w g 88 = true) (hs : A.size = 88) (h1 : OneCells A) : (storeAgg 37 ⟨g, 0, none⟩ (.agg A)).run Try.prog w = .ok () (w.setRow g A) := run_storeAgg (by kernel_rfl) w g A h hs h1
theorem sv101 (a : Addr) (v : Value) : storeVar 101 a v = storeAgg 101 a v := rfl
theorem run_sv101 (w : World) (g : Nat) (A : Array Value) (h : rowFree w g 96 = true) (hs : A.size = 96) (h1 : OneCells A) : (storeAgg 101 ⟨g, 0, none⟩ (.agg A)).run Try.prog w = .ok () (w.setRow g A) := run_storeAgg (by kernel_rfl) w g A h hs h1
theorem sv63 (a : Addr) (v : Value) : storeVar 63 a v = storeAgg 63 a v := rfl
theorem run_sv63 (w : World) (g : Nat) (A : Array Value) (h : rowFree w g 97 = true) (hs : A.size = 97) (h1 : OneCells A) : (storeAgg 63 ⟨g, 0, none⟩ (.agg A)).run Try.prog w = .ok () (w.setRow g A) := run_storeAgg (by kernel_rfl) w g A h hs h1
theorem sv105 (a : Addr) (v : Value) : storeVar 105 a v = storeAgg 105 a v := rfl
theorem run_sv105 (w : World) (g : Nat) (A : Array Value) (h : rowFree w g 97 = true) (hs : A.size = 97) (h1 : OneCells A) : (storeAgg 105 ⟨g, 0, none⟩ (.agg A)).run Try.prog w = .ok () (w.setRow g A) := run_storeAgg (by kernel_rfl) w g A h hs h1
theorem rowFree_heap {w : World} {g n : Nat} (h : rowFree w g n = true) : ∃ cs t, w.heap[g]? = some (.cells cs t (0, 0)) ∧ cs.size = n := by
  unfold rowFree at h
  cases hh : w.heap[g]? with
  | none => rw [hh] at h; cases h
  | some o =>
    rw [hh] at h
    cases o <;> try (cases h; done)
    rename_i cs t' fr
    obtain ⟨a, b⟩ := fr
    simp only [Bool.and_eq_true, beq_iff_eq] at h
    obtain ⟨⟨h2, rfl⟩, rfl⟩ := h
    exact ⟨cs, t', rfl, h2⟩
theorem rowFree_below {w w' : World} {B g n : Nat} (h : rowFree w g n = true) (hb : Below B w w') (hg : g < B) : rowFree w' g n = true := by
  unfold rowFree at h ⊢; rw [hb.block g hg]; exact h
theorem aggAt_put {w : World} {g n : Nat} {A : Array Value} (h : rowFree w g n = true) (hs : A.size = n) : aggAt (w.setRow g A) ⟨g, 0, none⟩ n = some A := by
  obtain ⟨cs, t, h1, _⟩ := rowFree_heap h
  subst hs
  exact aggAt_setRow h1
theorem rowFree_setRow {w : World} {g n : Nat} {A : Array Value} (h : rowFree w g n = true) (hs : A.size = n) : rowFree (w.setRow g A) g n = true := by
  obtain ⟨cs, t, h1, _⟩ := rowFree_heap h
  exact rowFree_of (setRow_heap w g cs A t _ h1) hs
theorem sv25 (a : Addr) (v : Value) : storeVar 25 a v = storeAgg 25 a v := rfl
theorem run_sv25 (w : World) (g : Nat) (A : Array Value) (h : rowFree w g 2 = true) (hs : A.size = 2) (h1 : OneCells A) : (storeAgg 25 ⟨g, 0, none⟩ (.agg A)).run Try.prog w = .ok () (w.setRow g A) := run_storeAgg (by kernel_rfl) w g A h hs h1
theorem ld25 : LoadsAs 25 2 := loadsAs Try.underlying25 rfl (by kernel_rfl)
theorem rowFree_newT (w : World) (Z : Array Value) (t : TypeId) {n : Nat} (h : Z.size = n) : rowFree (w.alloc (.cells Z t)) w.heap.size n = true := by
  rw [rowFree_new _ _ _ _ _ rfl]; simp [h]
theorem loads_run {t n : Nat} (hl : LoadsAs t n) (w : World) (a : Addr) (cs : Array Value) (hg : aggAt w a n = some cs) : (loadVar t a).run Try.prog w = .ok (.agg cs) w := by
  have := hl w a
  rw [hg] at this
  exact this
theorem results_agg {fn : Func} {p : Tmp} {t n : Nat} (hl : LoadsAs t n) (h : fn.results = #[.cell p t]) (tmps : Array Value) (w : World) (a : Addr) (cs : Array Value)
    (hp : tmps.getD p undef = .pointer (some a)) (hg : aggAt w a n = some cs) : (results fn tmps).run Try.prog w = .ok (.agg cs) w := by
  have hp' : tmps[p]?.getD undef = .pointer (some a) := by simpa using hp
  have hr := loads_run hl w a cs hg
  simp [results, h, hp', asAddr, hr]
theorem results_agg2 {fn : Func} {p u : Tmp} {t n : Nat} (hl : LoadsAs t n) (h : fn.results = #[.cell p t, .tmp u]) (tmps : Array Value) (w : World) (a : Addr) (cs : Array Value)
    (hp : tmps.getD p undef = .pointer (some a)) (hg : aggAt w a n = some cs) : (results fn tmps).run Try.prog w = .ok (.tuple #[.agg cs, tmps.getD u undef]) w := by
  have hp' : tmps[p]?.getD undef = .pointer (some a) := by simpa using hp
  have hr := loads_run hl w a cs hg
  simp [results, h, hp', asAddr, hr]
theorem ld37 : LoadsAs 37 88 := run_lv37
theorem ld61 : LoadsAs 61 8 := run_lv61
theorem aggAt_congr {w w' : World} {a : Addr} {n : Nat} (h : ∀ i, w'.cell? (a.add i) = w.cell? (a.add i)) : aggAt w' a n = aggAt w a n := by
  unfold aggAt
  simp only [h]
theorem aggAt_old (w : World) (o : Obj) (a : Addr) (n : Nat) (h : a.block < w.heap.size) : aggAt (w.alloc o) a n = aggAt w a n :=
  aggAt_congr fun i => World.cell?_alloc_lt w o _ (by rw [add_block]; exact h)
theorem aggAt_newb (w : World) (cs : Array Value) (t : TypeId) (g n : Nat) (h : g = w.heap.size) (hs : cs.size = n) : aggAt (w.alloc (.cells cs t)) ⟨g, 0, none⟩ n = some cs := by
  subst h; exact aggAt_new w cs t n hs
theorem aggAt_far (w : World) (g : Nat) (A : Array Value) (a : Addr) (n : Nat) (h : a.block ≠ g) : aggAt (w.setRow g A) a n = aggAt w a n :=
  aggAt_congr fun i => cell_setRow_other w g A _ (by rw [add_block]; exact h)
end Go.Proofs.Ytldacinldgjdcaa
