/- The examples of the chapter 26, as the law asks them: all true. -/
import Derived.Test.YtldacinldgjdcaaTabG
import Derived.Test.YtldacinldgjdcaaRepB
namespace Go.Proofs.Ytldacinldgjdcaa
open Go.RowKit Go.Maps
attribute [local go_sem] entA_ne slotA_ne entA_set0 entA_set2
attribute [local go_sem ↓] lv37 zero37 sv37 lv61 zero61 sv61 lv101 zero101 sv101
attribute [local go_sem] run_lv37 run_zero37 run_sv37 run_lv61 run_sv61 run_zeroEnt run_lv101 run_sv101 run_zeroSlot rowFree_new rowFree_alloc setRow_new setRow_alloc aggAt_newb aggAt_old aggAt_drew aggAt_drewN posA_size oneCells_pos posA_set kindAt entA_size oneCells_ent slotA_size oneCells_slot After.cell After.frozen After.agg add_block run_b0

def exB : Nat → Int := upd pos0 78 1
def exE (z : Int) : Ent := ⟨z, 0, 1, 0, 0, 0, 0, false⟩
theorem exB_ok : PosOk exB := PosOk0.upd 78 1 rfl
theorem exE_ok (z : Int) (h : (Lit.int .i64 z).wf = true) : EntOk (exE z) := ⟨h, rfl, rfl, rfl, rfl, rfl, rfl⟩
theorem idx1 (c : Nat → Int) : idxOf 1 c = 0 := by have := idxOf_lt (sz := 1) (Nat.le_refl _) c; omega
def ex1T : Tab := setT tabE 0 (exE 3, pos0)
def ex2T : Tab := setT ex1T 0 (exE 3, exB)
def ex3T : Tab := setT ex2T 0 (exE 1, exB)
theorem exS : sameB pos0 exB = false := by decide +kernel
theorem exS0 : sameB pos0 pos0 = true := sameB_refl _
theorem exSB : sameB exB exB = true := sameB_refl _
theorem exSr : sameB exB pos0 = false := by decide +kernel
theorem y1 : putB tabE 1 pos0 (exE 3) = true := by unfold putB; rw [idx1]; rfl
theorem y1T : putT tabE 1 pos0 (exE 3) = ex1T := by rw [putT_yes y1, idx1]; rfl
theorem y2 : getB ex1T 1 pos0 = true := by unfold getB; rw [idx1]; exact exS0
theorem y2E : getE ex1T 1 pos0 = exE 3 := by unfold getE; rw [idx1]; simp [ex1T, setT, exS0]
theorem y3 : getB ex1T 1 exB = false := by unfold getB; rw [idx1]; exact exS
theorem y3E : getE ex1T 1 exB = ent0 := by unfold getE; rw [idx1]; simp [ex1T, setT, exS]
theorem y4 : putB ex1T 1 exB (exE 2) = false := by unfold putB; rw [idx1]; simp [ex1T, setT, exS, exE, mayB]
theorem y4T : putT ex1T 1 exB (exE 2) = ex1T := putT_no y4
theorem y5 : putB ex1T 1 exB (exE 3) = true := by unfold putB; rw [idx1]; simp [ex1T, setT, exE, mayB]
theorem y5T : putT ex1T 1 exB (exE 3) = ex2T := by rw [putT_yes y5, idx1]; rfl
theorem y6 : getB ex2T 1 pos0 = false := by unfold getB; rw [idx1]; exact exSr
theorem y6E : getE ex2T 1 pos0 = ent0 := by unfold getE; rw [idx1]; simp [ex2T, setT, exSr]
theorem y7 : getB ex2T 1 exB = true := by unfold getB; rw [idx1]; exact exSB
theorem y7E : getE ex2T 1 exB = exE 3 := by unfold getE; rw [idx1]; simp [ex2T, setT, exSB]
theorem y8 : putB ex2T 1 exB (exE 1) = true := by unfold putB; rw [idx1]; simp [ex2T, setT, exSB, exE, mayB]
theorem y8T : putT ex2T 1 exB (exE 1) = ex3T := by rw [putT_yes y8, idx1]; rfl
theorem y9 : getB ex3T 1 exB = true := by unfold getB; rw [idx1]; exact exSB
theorem y9E : getE ex3T 1 exB = exE 1 := by unfold getE; rw [idx1]; simp [ex3T, setT, exSB]
theorem y10 : putB ex3T 1 exB ⟨5, 0, 0, 0, 0, 0, 0, false⟩ = false := putB_no rfl
theorem y11 : putB ex3T 1 exB (exE (-1)) = false := putB_no rfl

/-- A table, and what was laid since w0; it stays while only the table's map is written. -/
structure Stb (w0 : World) (tb bm sz : Nat) (f : Tab) (F : World → Prop) (w : World) : Prop where
  tab : TabSt w tb bm sz f
  below : Below w0.heap.size w0 w
  hbm : w0.heap.size ≤ bm
  fact : F w
  keep : ∀ u u' : World, u.grownBy u' (some bm) → F u → F u'
section
variable {w0 w w' : World} {tb bm sz : Nat} {f f' : Tab} {F : World → Prop}
theorem Stb.step (h : Stb w0 tb bm sz f F w) (hb : Below w.heap.size w w') : Stb w0 tb bm sz f F w' :=
  ⟨h.tab.below hb, below_join h.below hb, h.hbm, h.keep _ _ ((grown_of hb).but _) h.fact, h.keep⟩
theorem Stb.put (h : Stb w0 tb bm sz f F w) (ht : TabSt w' tb bm sz f') (hg : w.grownBy w' (some bm)) : Stb w0 tb bm sz f' F w' :=
  ⟨ht, h.below.grown hg h.below.size (fun g e => by cases e; exact h.hbm), h.hbm, h.keep _ _ hg h.fact, h.keep⟩
theorem Stb.also (h : Stb w0 tb bm sz f F w) {G : World → Prop} (hG : G w) (kG : ∀ u u' : World, u.grownBy u' (some bm) → G u → G u') : Stb w0 tb bm sz f (fun u => F u ∧ G u) w :=
  ⟨h.tab, h.below, h.hbm, ⟨h.fact, hG⟩, fun u u' hg hf => ⟨h.keep u u' hg hf.1, kG u u' hg hf.2⟩⟩
theorem Stb.drew (h : Stb w0 tb bm sz f F w) : Stb w0 tb bm sz f F w.drew := h.step (Below.refl _ _).drew
theorem Stb.cell (h : Stb w0 tb bm sz f F w) {g o : Nat} {v : Value} (hc : w.cell? ⟨g, o, none⟩ = some v) (hne : g ≠ bm) : Stb w0 tb bm sz f (fun u => F u ∧ u.cell? ⟨g, o, none⟩ = some v) w :=
  h.also hc fun _ _ hg hu => hg.cell hu (by simpa using hne)
theorem agg_grown {u u' : World} {row : Option Nat} {a : Addr} {n : Nat} {cs : Array Value} (hg : u.grownBy u' row) (hu : aggAt u a n = some cs) (hne : some a.block ≠ row) : aggAt u' a n = some cs := by
  obtain ⟨h1, h2⟩ := aggAt_cell hu
  refine aggAt_of h1 fun i hi => ?_
  rw [← h2 i hi]
  have h3 := h2 i hi
  rw [Array.getElem?_eq_getElem (by omega)] at h3
  rw [h3]
  exact hg.cell h3 (by rw [add_block]; exact hne)
theorem Stb.agg (h : Stb w0 tb bm sz f F w) {g o n : Nat} {cs : Array Value} (hc : aggAt w ⟨g, o, none⟩ n = some cs) (hne : g ≠ bm) : Stb w0 tb bm sz f (fun u => F u ∧ aggAt u ⟨g, o, none⟩ n = some cs) w :=
  h.also hc fun _ _ hg hu => agg_grown hg hu (by simpa using hne)
end
section
variable {w : World} {tb bm : Nat}
theorem ex_put1 (st : TabSt w tb bm 1 tabE) : Calls Try.prog 47 #[.pointer (some ⟨tb, 0, none⟩), .agg (posA pos0), .agg (entA ⟨3, 0, 1, 0, 0, 0, 0, false⟩)] w fun r w' => r = .returned (.bool true) ∧ TabSt w' tb bm 1 ex1T ∧ w.grownBy w' (some bm) :=
  (put_any pos0 (exE 3) st PosOk0 (exE_ok 3 rfl)).mono fun _ _ ⟨h1, h2, h3, _⟩ => ⟨by rw [h1, y1], by rw [y1T] at h2; exact h2, h3⟩
theorem ex_put2 (st : TabSt w tb bm 1 ex1T) : Calls Try.prog 47 #[.pointer (some ⟨tb, 0, none⟩), .agg (posA exB), .agg (entA ⟨2, 0, 1, 0, 0, 0, 0, false⟩)] w fun r w' => r = .returned (.bool false) ∧ TabSt w' tb bm 1 ex1T ∧ w.grownBy w' (some bm) :=
  (put_any exB (exE 2) st exB_ok (exE_ok 2 rfl)).mono fun _ _ ⟨h1, h2, h3, _⟩ => ⟨by rw [h1, y4], by rw [y4T] at h2; exact h2, h3⟩
theorem ex_put3 (st : TabSt w tb bm 1 ex1T) : Calls Try.prog 47 #[.pointer (some ⟨tb, 0, none⟩), .agg (posA exB), .agg (entA ⟨3, 0, 1, 0, 0, 0, 0, false⟩)] w fun r w' => r = .returned (.bool true) ∧ TabSt w' tb bm 1 ex2T ∧ w.grownBy w' (some bm) :=
  (put_any exB (exE 3) st exB_ok (exE_ok 3 rfl)).mono fun _ _ ⟨h1, h2, h3, _⟩ => ⟨by rw [h1, y5], by rw [y5T] at h2; exact h2, h3⟩
theorem ex_put4 (st : TabSt w tb bm 1 ex2T) : Calls Try.prog 47 #[.pointer (some ⟨tb, 0, none⟩), .agg (posA exB), .agg (entA ⟨1, 0, 1, 0, 0, 0, 0, false⟩)] w fun r w' => r = .returned (.bool true) ∧ TabSt w' tb bm 1 ex3T ∧ w.grownBy w' (some bm) :=
  (put_any exB (exE 1) st exB_ok (exE_ok 1 rfl)).mono fun _ _ ⟨h1, h2, h3, _⟩ => ⟨by rw [h1, y8], by rw [y8T] at h2; exact h2, h3⟩
theorem ex_put5 (st : TabSt w tb bm 1 ex3T) : Calls Try.prog 47 #[.pointer (some ⟨tb, 0, none⟩), .agg (posA exB), .agg (entA ⟨5, 0, 0, 0, 0, 0, 0, false⟩)] w fun r w' => r = .returned (.bool false) ∧ Below w.heap.size w w' :=
  (put_any exB ⟨5, 0, 0, 0, 0, 0, 0, false⟩ st exB_ok ⟨rfl, rfl, rfl, rfl, rfl, rfl, rfl⟩).mono fun _ _ ⟨h1, _, _, h4⟩ => ⟨by rw [h1, y10], h4.resolve_left (by rw [y10]; simp)⟩
theorem ex_put6 (st : TabSt w tb bm 1 ex3T) : Calls Try.prog 47 #[.pointer (some ⟨tb, 0, none⟩), .agg (posA exB), .agg (entA ⟨-1, 0, 1, 0, 0, 0, 0, false⟩)] w fun r w' => r = .returned (.bool false) ∧ Below w.heap.size w w' :=
  (put_any exB (exE (-1)) st exB_ok (exE_ok (-1) rfl)).mono fun _ _ ⟨h1, _, _, h4⟩ => ⟨by rw [h1, y11], h4.resolve_left (by rw [y11]; simp)⟩
theorem ex_get1 (st : TabSt w tb bm 1 ex1T) : Calls Try.prog 49 #[.pointer (some ⟨tb, 0, none⟩), .agg (posA pos0)] w fun r w' => r = .returned (.tuple #[.agg (entA (exE 3)), .bool true]) ∧ Below w.heap.size w w' :=
  (get_any pos0 st PosOk0).mono fun _ _ ⟨h1, h2⟩ => ⟨by rw [h1, y2, y2E], h2⟩
theorem ex_get2 (st : TabSt w tb bm 1 ex1T) : Calls Try.prog 49 #[.pointer (some ⟨tb, 0, none⟩), .agg (posA exB)] w fun r w' => r = .returned (.tuple #[.agg (entA ent0), .bool false]) ∧ Below w.heap.size w w' :=
  (get_any exB st exB_ok).mono fun _ _ ⟨h1, h2⟩ => ⟨by rw [h1, y3, y3E], h2⟩
theorem ex_get3 (st : TabSt w tb bm 1 ex2T) : Calls Try.prog 49 #[.pointer (some ⟨tb, 0, none⟩), .agg (posA pos0)] w fun r w' => r = .returned (.tuple #[.agg (entA ent0), .bool false]) ∧ Below w.heap.size w w' :=
  (get_any pos0 st PosOk0).mono fun _ _ ⟨h1, h2⟩ => ⟨by rw [h1, y6, y6E], h2⟩
theorem ex_get4 (st : TabSt w tb bm 1 ex2T) : Calls Try.prog 49 #[.pointer (some ⟨tb, 0, none⟩), .agg (posA exB)] w fun r w' => r = .returned (.tuple #[.agg (entA (exE 3)), .bool true]) ∧ Below w.heap.size w w' :=
  (get_any exB st exB_ok).mono fun _ _ ⟨h1, h2⟩ => ⟨by rw [h1, y7, y7E], h2⟩
theorem ex_get5 (st : TabSt w tb bm 1 ex3T) : Calls Try.prog 49 #[.pointer (some ⟨tb, 0, none⟩), .agg (posA exB)] w fun r w' => r = .returned (.tuple #[.agg (entA (exE 1)), .bool true]) ∧ Below w.heap.size w w' :=
  (get_any exB st exB_ok).mono fun _ _ ⟨h1, h2⟩ => ⟨by rw [h1, y9, y9E], h2⟩
end
end Go.Proofs.Ytldacinldgjdcaa
