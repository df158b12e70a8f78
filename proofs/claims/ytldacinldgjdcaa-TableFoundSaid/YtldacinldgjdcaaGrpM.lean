/- Plain laws on groups of positions that are alike; no program in sight. -/
import Derived.Test.YtldacinldgjdcaaSameD
import Derived.Test.YtldacinldgjdcaaKeyX
namespace Go.Proofs.Ytldacinldgjdcaa
open Go.RowKit

theorem sameB_iff {a b : Nat → Int} : sameB a b = true ↔ ∀ i, i < 86 → a i = b i := by
  unfold sameB
  rw [eqSeg_iff]
  simp
theorem sameB_refl (a : Nat → Int) : sameB a a = true := sameB_iff.2 fun _ _ => rfl
theorem sameB_comm (a b : Nat → Int) : sameB a b = sameB b a := by
  rw [Bool.eq_iff_iff, sameB_iff, sameB_iff]
  exact ⟨fun h i hi => (h i hi).symm, fun h i hi => (h i hi).symm⟩
theorem sameB_trans {a b c : Nat → Int} (h : sameB a b = true) (k : sameB b c = true) : sameB a c = true :=
  sameB_iff.2 fun i hi => (sameB_iff.1 h i hi).trans (sameB_iff.1 k i hi)
theorem sameB_key {a b : Nat → Int} (h : sameB a b = true) : keyV a = keyV b := keyV_congr fun i hi => sameB_iff.1 h i hi

/-- The first position of the row that is alike to the i-th, looked for from k on, with f more to look at. -/
def firstFrom (ps : Nat → Nat → Int) (i : Nat) : Nat → Nat → Nat
  | 0, k => k
  | f + 1, k => if sameB (ps k) (ps i) then k else firstFrom ps i f (k + 1)
def firstOf (ps : Nat → Nat → Int) (i : Nat) : Nat := firstFrom ps i i 0
theorem firstFrom_spec (ps : Nat → Nat → Int) (i : Nat) : ∀ f k, k + f = i → k ≤ firstFrom ps i f k ∧ firstFrom ps i f k ≤ i ∧ sameB (ps (firstFrom ps i f k)) (ps i) = true ∧ ∀ j, k ≤ j → j < firstFrom ps i f k → sameB (ps j) (ps i) = false
  | 0, k, h => by
    obtain rfl : k = i := by omega
    exact ⟨Nat.le_refl _, Nat.le_refl _, sameB_refl _, fun j h1 h2 => by have h3 : j < k := h2; omega⟩
  | f + 1, k, h => by
    unfold firstFrom
    split
    · rename_i hs
      exact ⟨Nat.le_refl _, by omega, hs, fun j h1 h2 => by omega⟩
    · rename_i hs
      obtain ⟨h1, h2, h3, h4⟩ := firstFrom_spec ps i f (k + 1) (by omega)
      refine ⟨by omega, h2, h3, fun j hj hj2 => ?_⟩
      by_cases e : j = k
      · subst e; simpa using hs
      · exact h4 j (by omega) hj2
theorem firstOf_le (ps : Nat → Nat → Int) (i : Nat) : firstOf ps i ≤ i := (firstFrom_spec ps i i 0 (by omega)).2.1
theorem firstOf_same (ps : Nat → Nat → Int) (i : Nat) : sameB (ps (firstOf ps i)) (ps i) = true := (firstFrom_spec ps i i 0 (by omega)).2.2.1
theorem firstOf_min (ps : Nat → Nat → Int) (i j : Nat) (h : j < firstOf ps i) : sameB (ps j) (ps i) = false := (firstFrom_spec ps i i 0 (by omega)).2.2.2 j (by omega) h
theorem firstOf_lt (ps : Nat → Nat → Int) (i j : Nat) (h : sameB (ps j) (ps i) = true) : firstOf ps i ≤ j := by
  by_cases hj : j < firstOf ps i
  · rw [firstOf_min ps i j hj] at h; cases h
  · omega
theorem firstOf_congr (ps : Nat → Nat → Int) (i j : Nat) (h : sameB (ps i) (ps j) = true) : firstOf ps i = firstOf ps j :=
  Nat.le_antisymm (firstOf_lt _ _ _ (sameB_trans (firstOf_same ps j) (by rw [sameB_comm]; exact h))) (firstOf_lt _ _ _ (sameB_trans (firstOf_same ps i) h))
theorem firstOf_iff (ps : Nat → Nat → Int) (i j : Nat) : sameB (ps i) (ps j) = true ↔ firstOf ps i = firstOf ps j :=
  ⟨firstOf_congr ps i j, fun h => sameB_trans (b := ps (firstOf ps i)) (by rw [sameB_comm]; exact firstOf_same ps i) (by rw [h]; exact firstOf_same ps j)⟩
theorem firstOf_idem (ps : Nat → Nat → Int) (i : Nat) : firstOf ps (firstOf ps i) = firstOf ps i := firstOf_congr _ _ _ (firstOf_same ps i)
/-- What is told of the first n positions. -/
def firstsL (ps : Nat → Nat → Int) (n : Nat) : List Int := (List.range n).map fun i : Nat => (firstOf ps i : Int)
theorem firstsL_succ (ps : Nat → Nat → Int) (n : Nat) : firstsL ps (n + 1) = firstsL ps n ++ [(firstOf ps n : Int)] := by simp [firstsL, List.range_succ]
@[simp] theorem firstsL_len (ps : Nat → Nat → Int) (n : Nat) : (firstsL ps n).length = n := by simp [firstsL]
theorem firstsL_get (ps : Nat → Nat → Int) (n i : Nat) (h : i < n) : (firstsL ps n)[i]? = some (firstOf ps i : Int) := by simp [firstsL, h]
/-- The first ones of the groups among the first n positions that have this number. -/
def bornB (ps : Nat → Nat → Int) (x : Int) (j : Nat) : Bool := decide (firstOf ps j = j) && decide (keyV (ps j) = x)
def bornN (ps : Nat → Nat → Int) (x : Int) (n : Nat) : List Nat := (List.range n).filter (bornB ps x)
def bornL (ps : Nat → Nat → Int) (x : Int) (n : Nat) : List Int := (bornN ps x n).map fun j : Nat => (j : Int)
theorem bornN_mem {ps : Nat → Nat → Int} {x : Int} {n j : Nat} : j ∈ bornN ps x n ↔ j < n ∧ firstOf ps j = j ∧ keyV (ps j) = x := by
  simp [bornN, bornB]
theorem bornL_yes (ps : Nat → Nat → Int) (n : Nat) (h : firstOf ps n = n) : bornL ps (keyV (ps n)) (n + 1) = bornL ps (keyV (ps n)) n ++ [(n : Int)] := by
  have hb : bornB ps (keyV (ps n)) n = true := by simp [bornB, h]
  simp [bornL, bornN, List.range_succ, hb]
theorem bornL_no (ps : Nat → Nat → Int) (n : Nat) (x : Int) (h : ¬firstOf ps n = n ∨ ¬keyV (ps n) = x) : bornL ps x (n + 1) = bornL ps x n := by
  have hb : bornB ps x n = false := by
    unfold bornB
    rcases h with h | h <;> simp [h]
  simp [bornL, bornN, List.range_succ, hb]
theorem bornL_len (ps : Nat → Nat → Int) (x : Int) (n : Nat) : (bornL ps x n).length ≤ n := by
  have := List.length_filter_le (bornB ps x) (List.range n); simpa [bornL, bornN] using this
theorem bornL_get {ps : Nat → Nat → Int} {x : Int} {n m : Nat} (h : m < (bornL ps x n).length) : ∃ j : Nat, (bornL ps x n)[m]? = some (j : Int) ∧ j < n ∧ firstOf ps j = j ∧ keyV (ps j) = x ∧ (bornN ps x n)[m]? = some j := by
  have h' : m < (bornN ps x n).length := by simpa [bornL] using h
  have hm := List.getElem_mem h'
  have := bornN_mem.1 hm
  exact ⟨(bornN ps x n)[m], by simp [bornL, h'], this.1, this.2.1, this.2.2, by simp [h']⟩
/-- One of them is alike to the n-th position: it is the first. -/
theorem born_found {ps : Nat → Nat → Int} {n j : Nat} (h1 : firstOf ps j = j) (h2 : sameB (ps j) (ps n) = true) : firstOf ps n = j := by rw [← firstOf_congr ps j n h2, h1]
/-- None of them is alike to it: it is itself the first. -/
theorem born_none {ps : Nat → Nat → Int} {n : Nat} (h : ∀ m j : Nat, (bornN ps (keyV (ps n)) n)[m]? = some j → sameB (ps j) (ps n) = false) : firstOf ps n = n := by
  by_cases hlt : firstOf ps n < n
  · have hm : firstOf ps n ∈ bornN ps (keyV (ps n)) n := bornN_mem.2 ⟨hlt, firstOf_idem ps n, sameB_key (firstOf_same ps n)⟩
    obtain ⟨m, hm2, hm3⟩ := List.getElem_of_mem hm
    have := h m (firstOf ps n) (by simp [hm2, hm3])
    rw [firstOf_same] at this
    cases this
  · have := firstOf_le ps n; omega
end Go.Proofs.Ytldacinldgjdcaa
