/- Plain laws on a position's number: what it becomes where one cell has another value; no program in sight. -/
import Derived.Test.YtldacinldgjdcaaKeyB
namespace Go.Proofs.Ytldacinldgjdcaa
open Go.RowKit

theorem xr_swap (a b c : Int) : xr (xr a b) c = xr (xr a c) b := by rw [xr_assoc, xr_comm b c, ← xr_assoc]
/-- The sum of n numbers of which one is another. -/
theorem xs_replace (f g : Nat → Int) (k : Nat) : ∀ n, k < n → (∀ i, i < n → i ≠ k → f i = g i) → xs ((List.range n).map g) = xr (xr (xs ((List.range n).map f)) (f k)) (g k)
  | 0, h, _ => by omega
  | n + 1, h, hs => by
    rw [List.range_succ, List.map_append, List.map_append, List.map_cons, List.map_nil, List.map_cons, List.map_nil, xs_snoc, xs_snoc]
    by_cases e : k = n
    · subst e
      have : (List.range k).map f = (List.range k).map g := List.map_congr_left fun i hi => hs i (by have := List.mem_range.1 hi; omega) (by have := List.mem_range.1 hi; omega)
      rw [this, xr_cancel _ _ (R64_xs _)]
    · rw [xs_replace f g k n (by omega) (fun i hi hk => hs i (by omega) hk), ← hs n (by omega) (fun h => e h.symm), xr_swap _ (f n) (f k), xr_swap _ (f n) (g k)]
theorem xs_xor (f g : Nat → Int) : ∀ n, xs ((List.range n).map fun i => xr (f i) (g i)) = xr (xs ((List.range n).map f)) (xs ((List.range n).map g))
  | 0 => by simp [xs_nil, xr_self]
  | n + 1 => by
    rw [List.range_succ, List.map_append, List.map_append, List.map_append, List.map_cons, List.map_nil, List.map_cons, List.map_nil, List.map_cons, List.map_nil, xs_snoc, xs_snoc, xs_snoc, xs_xor f g n]
    generalize xs (List.map f (List.range n)) = A
    generalize xs (List.map g (List.range n)) = B
    rw [xr_assoc, xr_assoc]
    rw [xr_left B (f n) (g n)]

/-- The number of the part that a cell of a position is. -/
def cellV (i : Nat) (x : Int) : Int :=
  if i = 0 then partV 8 x else if i < 65 then pieceV x ((i - 1 : Nat) : Int) else if i = 65 then promV x else if i < 78 then pockV (((i - 66) / 6 : Nat) : Int) (((i - 66) % 6 : Nat) : Int) x
  else if i = 78 then turnV x else if i < 83 then rookV (((i - 79) / 2 : Nat) : Int) (((i - 79) % 2 : Nat) : Int) x else if i = 83 then passV x else checkV ((i - 84 : Nat) : Int) x
theorem cellV_var (x : Int) : cellV 0 x = partV 8 x := if_pos rfl
theorem cellV_board (s : Nat) (h : s < 64) (x : Int) : cellV (1 + s) x = pieceV x s := by unfold cellV; rw [if_neg (by omega), if_pos (by omega), Nat.add_sub_cancel_left]
theorem cellV_prom (x : Int) : cellV 65 x = promV x := by unfold cellV; rw [if_neg (by omega), if_neg (by omega), if_pos rfl]
theorem cellV_pock (q k : Nat) (hq : q < 2) (hk : k < 6) (x : Int) : cellV (66 + q * 6 + k) x = pockV q k x := by
  unfold cellV
  rw [if_neg (by omega), if_neg (by omega), if_neg (by omega), if_pos (by omega), show (66 + q * 6 + k - 66) / 6 = q by omega, show (66 + q * 6 + k - 66) % 6 = k by omega]
theorem cellV_turn (x : Int) : cellV 78 x = turnV x := by unfold cellV; rw [if_neg (by omega), if_neg (by omega), if_neg (by omega), if_neg (by omega), if_pos rfl]
theorem cellV_rook (q d : Nat) (hq : q < 2) (hd : d < 2) (x : Int) : cellV (79 + q * 2 + d) x = rookV q d x := by
  unfold cellV
  rw [if_neg (by omega), if_neg (by omega), if_neg (by omega), if_neg (by omega), if_neg (by omega), if_pos (by omega), show (79 + q * 2 + d - 79) / 2 = q by omega, show (79 + q * 2 + d - 79) % 2 = d by omega]
theorem cellV_pass (x : Int) : cellV 83 x = passV x := by unfold cellV; rw [if_neg (by omega), if_neg (by omega), if_neg (by omega), if_neg (by omega), if_neg (by omega), if_neg (by omega), if_pos rfl]
theorem cellV_check (q : Nat) (_ : q < 2) (x : Int) : cellV (84 + q) x = checkV q x := by
  unfold cellV; rw [if_neg (by omega), if_neg (by omega), if_neg (by omega), if_neg (by omega), if_neg (by omega), if_neg (by omega), if_neg (by omega), Nat.add_sub_cancel_left]
def cellsV (c : Nat → Int) (off n : Nat) : List Int := (List.range n).map fun i => cellV (off + i) (c (off + i))
theorem cellsV_add (c : Nat → Int) (off n m : Nat) : xs (cellsV c off (n + m)) = xr (xs (cellsV c off n)) (xs (cellsV c (off + n) m)) := by
  rw [← xs_append]
  unfold cellsV
  rw [List.range_add, List.map_append, List.map_map]
  have : (fun i => cellV (off + i) (c (off + i))) ∘ (fun x => n + x) = fun i => cellV (off + n + i) (c (off + n + i)) := by funext i; simp [Nat.add_assoc]
  rw [this]
theorem cellsV_one (c : Nat → Int) (off : Nat) : cellsV c off 1 = [cellV off (c off)] := rfl
theorem cellsV_board (c : Nat → Int) : cellsV c 1 64 = boardL c 64 := List.map_congr_left fun i hi => cellV_board i (by simpa using hi) _
theorem cellsV_pock (c : Nat → Int) (q : Nat) (hq : q < 2) : cellsV c (66 + q * 6) 6 = pocksL c q 6 := List.map_congr_left fun i hi => cellV_pock q i hq (by simpa using hi) _
theorem cellsV_rook (c : Nat → Int) (q : Nat) (hq : q < 2) : cellsV c (79 + q * 2) 2 = rooksL c q 2 := List.map_congr_left fun i hi => cellV_rook q i hq (by simpa using hi) _
theorem R64_cell (i : Nat) (x : Int) : R64 (cellV i x) := by
  unfold cellV
  split
  · exact R64_part _ _
  split
  · exact R64_piece _ _
  split
  · exact R64_prom _
  split
  · exact R64_pock _ _ _
  split
  · exact R64_turn _
  split
  · exact R64_rook _ _ _
  split
  · exact R64_pass _
  · exact R64_check _ _
theorem sum_eq (B T P R0 K0 C0 R1 K1 C1 M V : Int) :
    xr (xr (xr (xr (xr (xr (xr (xr (xr (xr (xr V B) M) K0) K1) T) R0) R1) P) C0) C1) 0 =
    xr (xr (xr (xr (xr (xr (xr (xr (xr (xr B T) P) R0) K0) C0) R1) K1) C1) M) V := by
  rw [xr_zero _ (R64_xr _ _)]
  simp only [xr_assoc]
  simp only [xr_comm, xr_left]
theorem keyV_cells (c : Nat → Int) : keyV c = xs (cellsV c 0 86) := by
  have e : xs (cellsV c 0 86) = xr (xr (xr (xr (xr (xr (xr (xr (xr (xr (xr (cellV 0 (c 0)) (xs (boardL c 64))) (cellV 65 (c 65))) (xs (pocksL c 0 6))) (xs (pocksL c 1 6))) (cellV 78 (c 78))) (xs (rooksL c 0 2))) (xs (rooksL c 1 2))) (cellV 83 (c 83))) (cellV 84 (c 84))) (cellV 85 (c 85))) 0 := by
    rw [xr_zero _ (R64_xr _ _)]
    rw [show (86 : Nat) = 85 + 1 from rfl, cellsV_add, show (85 : Nat) = 84 + 1 from rfl, cellsV_add, show (84 : Nat) = 83 + 1 from rfl, cellsV_add, show (83 : Nat) = 81 + 2 from rfl, cellsV_add, show (81 : Nat) = 79 + 2 from rfl, cellsV_add, show (79 : Nat) = 78 + 1 from rfl, cellsV_add,
      show (78 : Nat) = 72 + 6 from rfl, cellsV_add, show (72 : Nat) = 66 + 6 from rfl, cellsV_add, show (66 : Nat) = 65 + 1 from rfl, cellsV_add, show (65 : Nat) = 1 + 64 from rfl, cellsV_add]
    simp only [cellsV_one, Nat.zero_add]
    rw [← cellsV_board c, ← cellsV_pock c 0 (by omega), ← cellsV_pock c 1 (by omega), ← cellsV_rook c 0 (by omega), ← cellsV_rook c 1 (by omega)]
    rw [xs_one _ (R64_cell _ _), xs_one _ (R64_cell _ _), xs_one _ (R64_cell _ _), xs_one _ (R64_cell _ _), xs_one _ (R64_cell _ _), xs_one _ (R64_cell _ _)]
  rw [e, sum_eq]
  unfold keyV partsL headL
  rw [colsL_succ, colsL_succ]
  rw [xs_snoc, xs_snoc, xs_append, xs_snoc, xs_snoc]
  rw [show colsL c 0 = [] from rfl, List.nil_append]
  rw [xs_snoc, xs_append, xs_append, xs_snoc, xs_append]
  rw [cellV_prom, cellV_turn, cellV_pass, cellV_var, show (84 : Nat) = 84 + 0 from rfl, cellV_check 0 (by omega), show (85 : Nat) = 84 + 1 from rfl, cellV_check 1 (by omega)]
  simp only [xr_assoc]
/-- Half and Full are no part of it. -/
theorem keyV_congr {a b : Nat → Int} (h : ∀ i, i < 86 → a i = b i) : keyV a = keyV b := by
  rw [keyV_cells, keyV_cells]
  have : cellsV a 0 86 = cellsV b 0 86 := List.map_congr_left fun i hi => by rw [h _ (by have := List.mem_range.1 hi; omega)]
  rw [this]
/-- One cell with another value. -/
theorem keyV_upd (c : Nat → Int) (i : Nat) (hi : i < 86) (v : Int) : keyV (upd c i v) = xr (xr (keyV c) (cellV i (c i))) (cellV i v) := by
  rw [keyV_cells, keyV_cells]
  have := xs_replace (fun k => cellV (0 + k) (c (0 + k))) (fun k => cellV (0 + k) (upd c i v (0 + k))) i 86 hi (fun k _ hk => by
    show cellV (0 + k) (c (0 + k)) = cellV (0 + k) (upd c i v (0 + k))
    rw [upd_other _ _ _ _ (by omega)])
  unfold cellsV
  rw [this]
  show xr (xr _ (cellV (0 + i) (c (0 + i)))) (cellV (0 + i) (upd c i v (0 + i))) = _
  rw [Nat.zero_add, upd_same]

/-! ### Who is promoted -/
theorem bitB_nat (n : Nat) (s : Nat) : bitB (n : Int) s = n.testBit s := by
  unfold bitB
  rw [Nat.testBit_eq_decide_div_mod_eq, Bool.eq_iff_iff]
  have : ((n : Int) / 2 ^ s % 2) = ((n / 2 ^ s % 2 : Nat) : Int) := by simp
  rw [this]
  simp only [beq_iff_eq, decide_eq_true_eq]
  omega
theorem xr_nat (n m : Nat) (hn : n < 18446744073709551616) (hm : m < 18446744073709551616) : xr (n : Int) (m : Int) = ((n ^^^ m : Nat) : Int) := by
  rw [xr_eq, BitVec.ofInt_natCast, BitVec.ofInt_natCast, BitVec.toNat_xor, BitVec.toNat_ofNat, BitVec.toNat_ofNat, Nat.mod_eq_of_lt hn, Nat.mod_eq_of_lt hm]
theorem bitB_xr (a b : Int) (ha : R64 a) (hb : R64 b) (s : Nat) : bitB (xr a b) s = (bitB a s != bitB b s) := by
  obtain ⟨n, rfl⟩ := Int.eq_ofNat_of_zero_le ha.1
  obtain ⟨m, rfl⟩ := Int.eq_ofNat_of_zero_le hb.1
  rw [xr_nat n m (by have := ha.2; omega) (by have := hb.2; omega), bitB_nat, bitB_nat, bitB_nat, Nat.testBit_xor]
theorem promA_xr (a b : Int) (ha : R64 a) (hb : R64 b) (s : Nat) : promA (xr a b) s = xr (promA a s) (promA b s) := by
  unfold promA
  rw [bitB_xr a b ha hb s]
  rcases Bool.eq_false_or_eq_true (bitB a s) with h | h <;> rcases Bool.eq_false_or_eq_true (bitB b s) with k | k <;> rw [h, k]
  · rw [if_neg (by decide), if_pos rfl, xr_self]
  · rw [if_pos (by decide), if_pos rfl, if_neg (by decide), xr_zero _ (R64_part _ _)]
  · rw [if_pos (by decide), if_pos rfl, if_neg (by decide), zero_xr _ (R64_part _ _)]
  · rw [if_neg (by decide), if_neg (by decide), xr_self]
theorem promV_xr (a b : Int) (ha : R64 a) (hb : R64 b) : promV (xr a b) = xr (promV a) (promV b) := by
  unfold promV promL
  rw [← xs_xor]
  have : (List.range 64).map (promA (xr a b)) = (List.range 64).map fun i => xr (promA a i) (promA b i) := List.map_congr_left fun i _ => promA_xr a b ha hb i
  rw [this]
end Go.Proofs.Ytldacinldgjdcaa
