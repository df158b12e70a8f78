/- The walks of the small functions of package hash, of pieces and of their references: each ends with the number that the plain text tells; of what was in memory nothing turns. -/
import Derived.Test.YtldacinldgjdcaaChecked
import Derived.Test.YtldacinldgjdcaaMath
import Derived.WalkKit
import Derived.WalkLawsBesides
import Derived.WalkSpells
import Derived.BigQuiet
import Derived.Deep.QuietTactic
import Derived.Lib.Hide
import Derived.Handy
namespace Go.Proofs.Ytldacinldgjdcaa
open Go.RowKit

theorem below_dN {B : Nat} {a w : World} (h : Below B a w) (n : Nat) : Below B a (w.drewN n) := ⟨h.os, h.tape, h.output, h.size, h.block⟩
theorem below_join {a b c : World} (h : Below a.heap.size a b) (k : Below b.heap.size b c) : Below a.heap.size a c := h.trans (k.mono h.size)
theorem ret_int {k : IntKind} {a b : Int} (h : a = b) : Ending.returned (.int k a) = .returned (.int k b) := by rw [h]
theorem ret_bool {a b : Bool} (h : a = b) : Ending.returned (.bool a) = .returned (.bool b) := by rw [h]

set_option maxHeartbeats 400000 in
theorem refpart_any (s n : Int) (w : World) :
    Calls Try.prog 27 #[.int .i64 s, .int .i64 n] w fun e w' => e = .returned (.int .u64 (partV s n)) ∧ w = w' := by
  go_enter Try.func27, Try.ntmps27
  go_wp2_with fail
  go_ret
  exact ⟨rfl, rfl⟩

theorem steps_any  (w : World) :
    Calls Try.prog 62 #[] w fun e w' => e = .returned (.agg #[.int .i64 30, .int .u64 13787848793156543929, .int .i64 27, .int .u64 10723151780598845931, .int .i64 31, .int .u64 1]) ∧ Below w.heap.size w w' := by
  go_enter Try.func62, Try.ntmps62
  go_wp2_with fail
  go_returns
  exact ⟨rfl, by go_grown⟩

theorem part_form (s n z : Int) (hz : z = U (U (U (4096 * U s) + U n) + 11400714819323198485)) :
    U (xr (rnd (rnd z 1073741824 13787848793156543929) 134217728 10723151780598845931) (rnd (rnd z 1073741824 13787848793156543929) 134217728 10723151780598845931 / 2147483648)) = partV s n := by
  rw [x0_comm] at hz
  rw [hz]
  have h := rnd_one (rnd (rnd (x0 s n) 1073741824 13787848793156543929) 134217728 10723151780598845931)
  unfold rnd at h
  rw [Int.mul_one] at h
  exact h

set_option maxHeartbeats 400000 in
theorem part_any (s n : Int) (w : World) :
    Calls Try.prog 26 #[.int .i64 s, .int .i64 n] w fun e w' => e = .returned (.int .u64 (partV s n)) ∧ Below w.heap.size w w' := by
  have i0 : ∀ W : World, (Instr.index 84 (.agg #[.int .i64 30, .int .u64 13787848793156543929, .int .i64 27, .int .u64 10723151780598845931, .int .i64 31, .int .u64 1]) (.int .i64 0)).run Try.prog W = .ok (.agg #[.int .i64 30, .int .u64 13787848793156543929]) W := fun _ => by kernel_rfl
  have i1 : ∀ W : World, (Instr.index 84 (.agg #[.int .i64 30, .int .u64 13787848793156543929, .int .i64 27, .int .u64 10723151780598845931, .int .i64 31, .int .u64 1]) (.int .i64 1)).run Try.prog W = .ok (.agg #[.int .i64 27, .int .u64 10723151780598845931]) W := fun _ => by kernel_rfl
  have i2 : ∀ W : World, (Instr.index 84 (.agg #[.int .i64 30, .int .u64 13787848793156543929, .int .i64 27, .int .u64 10723151780598845931, .int .i64 31, .int .u64 1]) (.int .i64 2)).run Try.prog W = .ok (.agg #[.int .i64 31, .int .u64 1]) W := fun _ => by kernel_rfl
  go_enter Try.func26, Try.ntmps26
  go_wp2_with (go_at_call 62; refine (steps_any _).mono ?_; rintro e w1 ⟨rfl, hb⟩)
  refine wp_loop_rounds 4 ?_
  iterate 3
    rw [rounds_succ]
    go_wp2_with fail
    go_quiet (fail)
    go_wp2_with fail
  rw [rounds_succ]
  go_wp2_with fail
  go_returns
  refine ⟨ret_int (part_form s n _ rfl), ?_⟩
  have h1 := hb.size
  repeat' (first | exact hb | refine below_dN ?_ _ | refine Below.alloc ?_ ?_ _ | go_size)

theorem partIf_any (b : Bool) (s n : Int) (w : World) :
    Calls Try.prog 63 #[.bool b, .int .i64 s, .int .i64 n] w fun e w' => e = .returned (.int .u64 (if b then partV s n else 0)) ∧ Below w.heap.size w w' := by
  cases b
  · go_enter Try.func63, Try.ntmps63
    go_wp2_with fail
    go_returns
    exact ⟨rfl, Below.refl _ _⟩
  · go_enter Try.func63, Try.ntmps63
    go_wp2_with (go_at_call 26; refine (part_any _ _ _).mono ?_; rintro e w1 ⟨rfl, hb⟩)
    go_returns
    exact ⟨rfl, hb⟩

def withinB (n m : Int) : Bool := decide (0 ≤ n ∧ n < m)
theorem within_any (n m : Int) (w : World) :
    Calls Try.prog 65 #[.int .i64 n, .int .i64 m] w fun e w' => e = .returned (.bool (withinB n m)) ∧ w = w' := by
  by_cases h0 : 0 ≤ n
  · by_cases h1 : n < m
    · go_enter Try.func65, Try.ntmps65
      go_wp2_with fail
      go_returns
      exact ⟨ret_bool (by simp [withinB, h0, h1]), rfl⟩
    · go_enter Try.func65, Try.ntmps65
      go_wp2_with fail
      go_returns
      exact ⟨ret_bool (by simp [withinB, h0, h1]), rfl⟩
  · go_enter Try.func65, Try.ntmps65
    go_wp2_with fail
    go_returns
    exact ⟨ret_bool (by simp [withinB]; omega), rfl⟩

/-! ### Pieces -/
def pieceB (p : Int) : Bool := decide ((1 ≤ p ∧ p ≤ 6) ∨ (9 ≤ p ∧ p ≤ 14))
def makeV (c k : Int) : Int := if 1 < c ∨ k < 1 ∨ 6 < k then 0 else 8 * c + k
theorem make_any (c k : Int) (w : World) (h0 : 0 ≤ c) (h1 : c ≤ 255) (h2 : 0 ≤ k) (h3 : k ≤ 255) :
    Calls Try.prog 75 #[.int .u8 c, .int .u8 k] w fun e w' => e = .returned (.int .u8 (makeV c k)) ∧ w = w' := by
  by_cases a : 1 < c
  · go_enter Try.func75, Try.ntmps75
    go_wp2_with fail
    go_returns
    exact ⟨ret_int (by simp [makeV, a]), rfl⟩
  · by_cases b : k < 1
    · go_enter Try.func75, Try.ntmps75
      go_wp2_with fail
      go_returns
      exact ⟨ret_int (by simp [makeV, b]), rfl⟩
    · by_cases d : 6 < k
      · go_enter Try.func75, Try.ntmps75
        go_wp2_with fail
        go_returns
        exact ⟨ret_int (by simp [makeV, d]), rfl⟩
      · go_enter Try.func75, Try.ntmps75
        go_wp2_with fail
        go_returns
        exact ⟨ret_int (by unfold makeV; rw [if_neg (by omega)]), rfl⟩
theorem is_any (p : Int) (w : World) (h0 : 0 ≤ p) (h1 : p ≤ 255) :
    Calls Try.prog 64 #[.int .u8 p] w fun e w' => e = .returned (.bool (pieceB p)) ∧ w = w' := by
  by_cases a : p = 0
  · subst a
    go_enter Try.func64, Try.ntmps64
    go_wp2_with fail
    go_returns
    exact ⟨rfl, rfl⟩
  · go_enter Try.func64, Try.ntmps64
    go_wp2_with (go_at_call 75; refine (make_any _ _ _ (by omega) (by omega) (by omega) (by omega)).mono ?_; rintro e w1 ⟨rfl, rfl⟩)
    go_returns
    refine ⟨ret_bool ?_, rfl⟩
    rw [Bool.eq_iff_iff]
    simp only [Bool.and_eq_true, bne_iff_ne, ne_eq, beq_iff_eq, pieceB, decide_eq_true_eq, makeV]
    split <;> omega
end Go.Proofs.Ytldacinldgjdcaa
