/- A slice of positions of the call's own, and what append does to it. -/
import Derived.Test.YtldacinldgjdcaaSameD
import Derived.Maps.AppendAt
import Derived.Laws.AppendOwnNone
import Derived.Lib.SmallJoins
namespace Go.Proofs.Ytldacinldgjdcaa
open Go.RowKit

/-- The cells of n positions, one behind the other. -/
def cellsL (n : Nat) (ps : Nat → Nat → Int) : List Value := (List.range (n * 88)).map fun j => Value.int (kindAt (j % 88)) (ps (j / 88) (j % 88))
@[simp] theorem cellsL_len (n : Nat) (ps : Nat → Nat → Int) : (cellsL n ps).length = n * 88 := by simp [cellsL]
theorem cellsL_get (n : Nat) (ps : Nat → Nat → Int) (j : Nat) (h : j < n * 88) : (cellsL n ps)[j]? = some (.int (kindAt (j % 88)) (ps (j / 88) (j % 88))) := by simp [cellsL, h]
theorem cellsL_at (n : Nat) (ps : Nat → Nat → Int) (i k : Nat) (hi : i < n) (hk : k < 88) : (cellsL n ps)[i * 88 + k]? = (posA (ps i))[k]? := by
  rw [cellsL_get _ _ _ (by omega), posA_get _ _ hk, show (i * 88 + k) % 88 = k by omega, show (i * 88 + k) / 88 = i by omega]
theorem cellsL_one (n : Nat) (ps : Nat → Nat → Int) : ∀ u ∈ cellsL n ps, u.oneCell' = true := by
  intro u hu
  simp [cellsL] at hu
  obtain ⟨j, _, rfl⟩ := hu
  rfl
/-- One row behind another. -/
def psJoin (m : Nat) (qs ps : Nat → Nat → Int) : Nat → Nat → Int := fun i => if i < m then qs i else ps (i - m)
theorem cellsL_append (m n : Nat) (qs ps : Nat → Nat → Int) : cellsL m qs ++ cellsL n ps = cellsL (m + n) (psJoin m qs ps) := by
  apply List.ext_getElem?
  intro j
  rw [List.getElem?_append, cellsL_len]
  by_cases h1 : j < m * 88
  · rw [if_pos h1, cellsL_get _ _ _ h1, cellsL_get _ _ _ (by omega)]
    simp [psJoin, show j / 88 < m by omega]
  · rw [if_neg h1]
    by_cases h2 : j < (m + n) * 88
    · rw [cellsL_get _ _ _ (by omega), cellsL_get _ _ _ h2]
      simp [psJoin, show ¬ j / 88 < m by omega, show (j - m * 88) % 88 = j % 88 by omega, show (j - m * 88) / 88 = j / 88 - m by omega]
    · rw [List.getElem?_eq_none (by simp; omega), List.getElem?_eq_none (by simp; omega)]
theorem add_add (a : Addr) (i j : Nat) : (a.add i).add j = a.add (i + j) := by
  unfold Addr.add
  by_cases hi : i = 0 <;> by_cases hj : j = 0 <;> simp [hi, hj, Nat.add_assoc]
theorem PosRow.news {w : World} {A : Option Addr} {n : Nat} {ps : Nat → Nat → Int} (h : PosRow w A n ps) {ad : Addr} (hA : A = some ad) (j : Nat) (u : Value) (hu : (cellsL n ps)[j]? = some u) : w.cell? (ad.add j) = some u := by
  have hj : j < n * 88 := by have := (List.getElem?_eq_some_iff.1 hu).1; simpa using this
  obtain ⟨ad', h1, _, h3⟩ := h.row (by omega)
  rw [hA] at h1
  obtain rfl := Option.some.inj h1
  obtain ⟨_, h4⟩ := aggAt_cell (h3 (j / 88) (by omega))
  have := h4 (j % 88) (by omega)
  rw [add_add, show j / 88 * 88 + j % 88 = j by omega] at this
  rw [this, ← hu, cellsL_get _ _ _ hj, posA_get _ _ (by omega)]
theorem PosRow.of_own {w : World} {base : Nat} {v : Value} {n : Nat} {ps : Nat → Nat → Int} (h : w.ownsRow base 37 88 v n (cellsL n ps)) (ok : ∀ i, i < n → PosOk (ps i)) :
    ∃ A cap, v = .slice A n cap ∧ (A = none → n = 0 ∧ cap = 0) ∧ PosRow w A n ps := by
  rcases Joins.ownsRow_forms h with ⟨rfl, hn⟩ | ⟨g, cap, rfl⟩
  · subst hn
    exact ⟨none, 0, rfl, fun _ => ⟨rfl, rfl⟩, ⟨fun i hi => absurd hi (by omega), fun hi => absurd hi (by omega)⟩⟩
  · refine ⟨some ⟨g, 0, none⟩, cap, rfl, fun e => (by cases e), ⟨ok, fun hn => ⟨⟨g, 0, none⟩, rfl, (World.ownsRow.lt h g rfl).2, fun i hi => ?_⟩⟩⟩
    refine aggAt_of (posA_size _) fun k hk => ?_
    rw [add_add, add0, h.cellAt _ (by omega), cellsL_at _ _ _ _ hi hk]

theorem pos_info : (Try.prog.info? 37).map (fun i => (i.zero, i.size, i.bytes)) = some (some (.agg (posA pos0)), 88, 120) := by kernel_rfl
/-- append of a row of positions onto a row of the call's own. -/
theorem append_ps {ops : Array Oper} {rest : List Oper} {o : Oper} {a : Act} {Q : Exit → Act → World → Prop} (w : World) (hgd : o.guard = none) (s x : Operand)
    (ho : o.op = .call { callee := .builtin .append, args := #[s, x], argTypes := #[22, 22] }) (base : Nat) (v : Value) (m : Nat) (qs : Nat → Nat → Int) (hs : a.eval s = v) (hown : w.ownsRow base 37 88 v m (cellsL m qs))
    (A : Option Addr) (n c : Nat) (ps : Nat → Nat → Int) (hx : a.eval x = .slice A n c) (hnil : A = none → n = 0 ∧ c = 0) (hp : PosRow w A n ps) (hn : m + n ≤ 1000000) (hbase : base ≤ w.heap.size)
    (h : ∀ v' w', w'.ownsRow base 37 88 v' (m + n) (cellsL (m + n) (psJoin m qs ps)) → w.grownBy w' v.ownBlock → (v'.ownBlock = v.ownBlock ∨ v'.ownBlock = some w.heap.size) → wpList Try.prog ops Q rest (a.put o.dst v') w') : wpList Try.prog ops Q (o :: rest) a w := by
  obtain ⟨i0, hi, hz0, hz1, hz2⟩ := info_parts pos_info
  cases A with
  | none =>
    obtain ⟨rfl, rfl⟩ := hnil rfl
    refine wpList_append_own_none hgd s x 22 ho base 37 i0 88 Try.underlying22 hi v m (cellsL m qs) hs hown hx (h v w ?_ (World.grownBy.refl w _) (.inl rfl))
    have e : cellsL (m + 0) (psJoin m qs ps) = cellsL m qs := by
      have := cellsL_append m 0 qs ps
      rw [← this]
      simp [cellsL]
    rw [e]
    exact hown
  | some ad =>
    refine wpList_append_own_at w hgd s x 22 ho base 37 i0 (.agg (posA pos0)) 88 120 Try.underlying22 hi hz0 hz1 hz2 (posA_size _) (by decide) v m (cellsL m qs) hs hown ad n c (cellsL n ps) hx (cellsL_len _ _) (hp.news rfl) (cellsL_one _ _) (by unfold maxLen; omega) (by omega) hbase
      (fun v' w' h2 h3 _ h5 => h v' w' (by rw [← cellsL_append]; exact h2) h3 h5)
end Go.Proofs.Ytldacinldgjdcaa
