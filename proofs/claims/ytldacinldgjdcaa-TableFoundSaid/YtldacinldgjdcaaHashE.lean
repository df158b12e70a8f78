/- The walks over the squares of a set: Has, Promoted; each tells what the plain text tells. -/
import Derived.Test.YtldacinldgjdcaaHashD
import Derived.WalkSmall
namespace Go.Proofs.Ytldacinldgjdcaa
open Go.RowKit

/-! ### Squares in a set -/
def bitB (b : Int) (s : Nat) : Bool := b / 2 ^ s % 2 == 1
def promA (b : Int) (s : Nat) : Int := if bitB b s then partV 7 s else 0
def promL (b : Int) (k : Nat) : List Int := (List.range k).map (promA b)
theorem promL_succ (b : Int) (k : Nat) : promL b (k + 1) = promL b k ++ [promA b k] := by simp [promL, List.range_succ]
def promV (b : Int) : Int := xs (promL b 64)

set_option maxHeartbeats 400000 in
theorem has_any (b : Int) (s : Nat) (w : World) (hb : R64 b) (hs : s < 64) :
    Calls Try.prog 77 #[.int .u64 b, .int .i64 s] w fun e w' => e = .returned (.bool (bitB b s)) ∧ w = w' := by
  obtain ⟨b0, b1⟩ := hb
  go_enter Try.func77, Try.ntmps77
  go_wp2
  go_loop [0, 5] (fun c i => ∃ k : Nat, k ≤ s ∧ i = .int .i64 k ∧ c = .int .u64 (b / 2 ^ k)) (fun _ i => s - (intOf i).toNat)
  case atStart => exact ⟨0, by omega, rfl, by simp⟩
  case round =>
    obtain ⟨k, hk, rfl, rfl⟩ := hrel
    have hq : 0 ≤ b / 2 ^ k := Int.ediv_nonneg b0 (Int.pow_nonneg (by omega))
    by_cases hlt : k < s
    · go_wp2
      have e : IntKind.u64.wrap ((b / 2 ^ k).tdiv 2) = b / 2 ^ (k + 1) := by
        rw [Int.tdiv_eq_ediv_of_nonneg hq, Int.ediv_ediv_of_nonneg (Int.pow_nonneg (by omega)), ← Int.pow_succ, IntKind.wrap_u64]
        change b / 2 ^ (k + 1) % 18446744073709551616 = _
        have h1 : 0 ≤ b / 2 ^ (k + 1) := Int.ediv_nonneg b0 (Int.pow_nonneg (by omega))
        have h2 : b / 2 ^ (k + 1) ≤ b := Int.ediv_le_self _ b0
        omega
      go_round
      case rel => exact ⟨k + 1, by omega, by go_num, by rw [e]⟩
      case measure => simp [intOf]; omega
    · obtain rfl : k = s := by omega
      go_wp2
      go_returns
      exact ⟨rfl, rfl⟩

theorem and_one (x : Int) (h : R64 x) : bits BinOp.and IntKind.u64 x 1 = x % 2 := by
  obtain ⟨h0, h1⟩ := h
  rw [u64_and x 1 h0 h1 (by omega) (by omega)]
  have e : (1 : Int).toNat = 1 := rfl
  rw [e, Nat.and_one_is_mod]
  omega
theorem bit_eq (b : Int) (k : Nat) (h : R64 b) : (bits BinOp.and IntKind.u64 (b / 2 ^ k) 1 == 1) = bitB b k := by
  obtain ⟨h0, h1⟩ := h
  have h2 : 0 ≤ b / 2 ^ k := Int.ediv_nonneg h0 (Int.pow_nonneg (by omega))
  have h3 : b / 2 ^ k ≤ b := Int.ediv_le_self _ h0
  rw [and_one _ ⟨h2, by omega⟩]
  rfl
theorem partIf_prom (b : Int) (k : Nat) (w : World) :
    Calls Try.prog 63 #[.bool (bitB b k), .int .i64 7, .int .i64 k] w fun e w' => e = .returned (.int .u64 (promA b k)) ∧ Below w.heap.size w w' := partIf_any _ _ _ _
set_option maxHeartbeats 400000 in
theorem prom_any (b : Int) (w : World) (hb : R64 b) :
    Calls Try.prog 40 #[.int .u64 b] w fun e w' => e = .returned (.int .u64 (promV b)) ∧ Below w.heap.size w w' := by
  have hbit := fun k => bit_eq b k hb
  have HB := Lib.hid hbit
  clear hbit
  obtain ⟨b0, b1⟩ := hb
  go_enter Try.func40, Try.ntmps40
  go_wp2
  go_loopw [3, 4, 5] (fun x _ i wr => ∃ k : Nat, k ≤ 64 ∧ i = .int .i64 k ∧ x = .int .u64 (xs (promL b k)) ∧ Below w.heap.size w wr) (fun _ _ i _ => 64 - (intOf i).toNat)
  case atStart => exact ⟨0, by omega, rfl, rfl, Below.refl _ _⟩
  case round =>
    obtain ⟨k, hk, rfl, rfl, hbw⟩ := hrel
    by_cases hlt : k < 64
    · go_wp2_with (go_at_call 63; rw [HB.out]; refine (partIf_prom b k _).mono ?_; rintro e w1 ⟨rfl, hb1⟩)
      go_roundw
      case rel => exact ⟨k + 1, by omega, by go_num, by rw [promL_succ, xs_snoc], hbw.trans (hb1.mono hbw.size)⟩
      case measure => simp [intOf]; omega
    · obtain rfl : k = 64 := by omega
      go_wp2
      go_returns
      exact ⟨rfl, hbw⟩

/-! ### The reference: the squares of a set as a list -/
def listL (b : Int) (k : Nat) : List Nat := (List.range k).filter (bitB b)
theorem listL_succ (b : Int) (k : Nat) : listL b (k + 1) = listL b k ++ if bitB b k then [k] else [] := by
  simp only [listL, List.range_succ, List.filter_append, List.filter_cons, List.filter_nil]
theorem listL_len (b : Int) (k : Nat) : (listL b k).length ≤ k := by
  have := List.length_filter_le (bitB b) (List.range k); simpa [listL] using this
theorem promA_yes (b : Int) (k : Nat) (h : bitB b k = true) : promA b k = partV 7 k := by unfold promA; rw [if_pos h]
theorem promA_no (b : Int) (k : Nat) (h : bitB b k = false) : promA b k = 0 := by unfold promA; rw [if_neg (by rw [h]; decide)]
theorem xs_list (b : Int) (k : Nat) : xs ((listL b k).map fun s : Nat => partV 7 s) = xs (promL b k) := by
  induction k with
  | zero => simp only [listL, promL, List.range_zero, List.filter_nil, List.map_nil]
  | succ k ih =>
    rw [listL_succ, promL_succ, List.map_append, xs_append, xs_append, ih]
    rcases Bool.eq_false_or_eq_true (bitB b k) with h | h
    · rw [promA_yes b k h, if_pos h, List.map_cons, List.map_nil]
    · rw [promA_no b k h, if_neg (by rw [h]; decide), xs_one _ R64_0, List.map_nil, xs_nil]
theorem int_info : (Try.prog.info? 3).map (fun i => (i.zero, i.size, i.bytes)) = some (some (.int .i64 0), 1, 8) := by kernel_rfl
def intsOf (l : List Nat) : List Value := l.map fun s : Nat => Value.int .i64 s
end Go.Proofs.Ytldacinldgjdcaa
