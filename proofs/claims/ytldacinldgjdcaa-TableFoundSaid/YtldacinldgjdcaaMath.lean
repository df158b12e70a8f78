/- Plain laws on xor of unsigned numbers, on the parts of a position and on their sum; no program in sight. -/
import Derived.Laws.Bits64
import Derived.Laws.BitsAllLaws
import Derived.KernelRfl
namespace Go.Proofs.Ytldacinldgjdcaa

abbrev U (n : Int) : Int := IntKind.u64.wrap n
abbrev xr (a b : Int) : Int := bits BinOp.xor IntKind.u64 a b

theorem xr_def (a b : Int) : xr a b = U ((BitVec.ofInt 64 a ^^^ BitVec.ofInt 64 b).toNat : Int) := rfl
theorem U_nat (x : BitVec 64) : U (x.toNat : Int) = (x.toNat : Int) := by
  have := x.isLt
  rw [U, IntKind.wrap_u64]; omega
theorem xr_eq (a b : Int) : xr a b = ((BitVec.ofInt 64 a ^^^ BitVec.ofInt 64 b).toNat : Int) := by rw [xr_def, U_nat]
theorem ofInt_toNat (x : BitVec 64) : BitVec.ofInt 64 (x.toNat : Int) = x := by
  rw [BitVec.ofInt_natCast, BitVec.ofNat_toNat, BitVec.setWidth_eq]
theorem xr_comm (a b : Int) : xr a b = xr b a := by rw [xr_eq, xr_eq, BitVec.xor_comm]
theorem xr_assoc (a b c : Int) : xr (xr a b) c = xr a (xr b c) := by
  rw [xr_eq (xr a b) c, xr_eq a b, xr_eq a (xr b c), xr_eq b c, ofInt_toNat, ofInt_toNat, BitVec.xor_assoc]
theorem xr_left (a b c : Int) : xr a (xr b c) = xr b (xr a c) := by rw [← xr_assoc, xr_comm a b, xr_assoc]
theorem xr_self (a : Int) : xr a a = 0 := by rw [xr_eq]; simp
theorem xr_range (a b : Int) : 0 ≤ xr a b ∧ xr a b < 18446744073709551616 := by
  rw [xr_eq]; have := (BitVec.ofInt 64 a ^^^ BitVec.ofInt 64 b).isLt; omega
def R64 (a : Int) : Prop := 0 ≤ a ∧ a < 18446744073709551616
theorem xr_zero (a : Int) (h : R64 a) : xr a 0 = a := by
  rw [xr_eq]
  have h1 : a = ((a.toNat : Nat) : Int) := by have := h.1; omega
  have h2 := h.2
  rw [h1]
  simp
  omega
theorem zero_xr (a : Int) (h : R64 a) : xr 0 a = a := by rw [xr_comm, xr_zero a h]
theorem R64_xr (a b : Int) : R64 (xr a b) := xr_range a b
theorem R64_0 : R64 0 := ⟨by omega, by omega⟩
theorem xr_cancel (a b : Int) (h : R64 a) : xr (xr a b) b = a := by rw [xr_assoc, xr_self, xr_zero a h]

/-- The xor of a list. -/
def xs (l : List Int) : Int := l.foldl xr 0
theorem R64_xs (l : List Int) : R64 (xs l) := by
  unfold xs
  have : ∀ (l : List Int) (a : Int), R64 a → R64 (l.foldl xr a) := by
    intro l
    induction l with
    | nil => intro a h; exact h
    | cons b l ih => intro a _; exact ih _ (R64_xr a b)
  exact this l 0 R64_0
theorem foldl_xr (l : List Int) (a : Int) : R64 a → l.foldl xr a = xr a (xs l) := by
  induction l generalizing a with
  | nil => intro h; simp [xs, xr_zero a h]
  | cons b l ih =>
    intro h
    have e : xs (b :: l) = xr (xr 0 b) (xs l) := by
      show List.foldl xr (xr 0 b) l = _
      exact ih _ (R64_xr 0 b)
    rw [List.foldl_cons, ih _ (R64_xr a b), e, xr_comm 0 b, xr_assoc, xr_assoc, zero_xr _ (R64_xs l)]
theorem xs_nil : xs [] = 0 := rfl
theorem xs_snoc (l : List Int) (a : Int) : xs (l ++ [a]) = xr (xs l) a := by simp [xs]
theorem xs_append (l m : List Int) : xs (l ++ m) = xr (xs l) (xs m) := by
  show (l ++ m).foldl xr 0 = _
  rw [List.foldl_append]
  exact foldl_xr m _ (R64_xs l)
theorem xs_one (a : Int) (h : R64 a) : xs [a] = a := by simp [xs, zero_xr a h]
theorem xs_cons (a : Int) (l : List Int) : xs (a :: l) = xr a (xs l) := by
  have : a :: l = [a] ++ l := rfl
  rw [this, xs_append]
  show xr (xr 0 a) (xs l) = _
  rw [xr_comm 0 a, xr_assoc, zero_xr _ (R64_xs l)]
theorem xs_perm {l m : List Int} (h : l.Perm m) : xs l = xs m := by
  induction h with
  | nil => rfl
  | cons a _ ih => rw [xs_cons, xs_cons, ih]
  | swap a b l => rw [xs_cons, xs_cons, xs_cons, xs_cons, xr_left]
  | trans _ _ h1 h2 => rw [h1, h2]

/-! ### The parts -/
def rnd (x d f : Int) : Int := U (xr x (x / d) * f)
def x0 (s n : Int) : Int := U (U (U (U s * 4096) + U n) + 11400714819323198485)
def partV (s n : Int) : Int :=
  xr (rnd (rnd (x0 s n) 1073741824 13787848793156543929) 134217728 10723151780598845931)
    (rnd (rnd (x0 s n) 1073741824 13787848793156543929) 134217728 10723151780598845931 / 2147483648)
theorem R64_part (s n : Int) : R64 (partV s n) := R64_xr _ _
theorem rnd_one (x : Int) : rnd x 2147483648 1 = xr x (x / 2147483648) := by
  unfold rnd
  rw [Int.mul_one]
  have := xr_range x (x / 2147483648)
  rw [U, IntKind.wrap_u64]
  omega
theorem x0_comm (s n : Int) : U (U (U (4096 * U s) + U n) + 11400714819323198485) = x0 s n := by
  unfold x0; rw [Int.mul_comm]
example : partV 0 0 = 16294208416658607535 := by decide +kernel

end Go.Proofs.Ytldacinldgjdcaa
