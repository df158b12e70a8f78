/- The table of the twelve pieces that the reference lays out, cell by cell. -/
import Derived.Test.YtldacinldgjdcaaHashA
namespace Go.Proofs.Ytldacinldgjdcaa
open Go.RowKit
def pieceTab : Array Value := #[.int .u8 1, .int .u8 0, .int .u8 1, .string { data := #[80] }, .int .u8 2, .int .u8 0, .int .u8 2, .string { data := #[78] }, .int .u8 3, .int .u8 0, .int .u8 3, .string { data := #[66] }, .int .u8 4, .int .u8 0, .int .u8 4, .string { data := #[82] }, .int .u8 5, .int .u8 0, .int .u8 5, .string { data := #[81] }, .int .u8 6, .int .u8 0, .int .u8 6, .string { data := #[75] }, .int .u8 9, .int .u8 1, .int .u8 1, .string { data := #[112] }, .int .u8 10, .int .u8 1, .int .u8 2, .string { data := #[110] }, .int .u8 11, .int .u8 1, .int .u8 3, .string { data := #[98] }, .int .u8 12, .int .u8 1, .int .u8 4, .string { data := #[114] }, .int .u8 13, .int .u8 1, .int .u8 5, .string { data := #[113] }, .int .u8 14, .int .u8 1, .int .u8 6, .string { data := #[107] }]
def pNum : Nat → Int
  | 0 => 1
  | 1 => 2
  | 2 => 3
  | 3 => 4
  | 4 => 5
  | 5 => 6
  | 6 => 9
  | 7 => 10
  | 8 => 11
  | 9 => 12
  | 10 => 13
  | 11 => 14
  | _ => 0
def pCol : Nat → Int
  | 0 => 0
  | 1 => 0
  | 2 => 0
  | 3 => 0
  | 4 => 0
  | 5 => 0
  | 6 => 1
  | 7 => 1
  | 8 => 1
  | 9 => 1
  | 10 => 1
  | 11 => 1
  | _ => 0
def pKind : Nat → Int
  | 0 => 1
  | 1 => 2
  | 2 => 3
  | 3 => 4
  | 4 => 5
  | 5 => 6
  | 6 => 1
  | 7 => 2
  | 8 => 3
  | 9 => 4
  | 10 => 5
  | 11 => 6
  | _ => 0
def pStr : Nat → ByteArray
  | 0 => { data := #[80] }
  | 1 => { data := #[78] }
  | 2 => { data := #[66] }
  | 3 => { data := #[82] }
  | 4 => { data := #[81] }
  | 5 => { data := #[75] }
  | 6 => { data := #[112] }
  | 7 => { data := #[110] }
  | 8 => { data := #[98] }
  | 9 => { data := #[114] }
  | 10 => { data := #[113] }
  | 11 => { data := #[107] }
  | _ => { data := #[] }
theorem tab0 : ∀ k, k < 12 → pieceTab[k * 4]? = some (.int .u8 (pNum k))
  | 0, _ => rfl
  | 1, _ => rfl
  | 2, _ => rfl
  | 3, _ => rfl
  | 4, _ => rfl
  | 5, _ => rfl
  | 6, _ => rfl
  | 7, _ => rfl
  | 8, _ => rfl
  | 9, _ => rfl
  | 10, _ => rfl
  | 11, _ => rfl
  | n + 12, h => absurd h (by omega)
theorem tab1 : ∀ k, k < 12 → pieceTab[k * 4 + 1]? = some (.int .u8 (pCol k))
  | 0, _ => rfl
  | 1, _ => rfl
  | 2, _ => rfl
  | 3, _ => rfl
  | 4, _ => rfl
  | 5, _ => rfl
  | 6, _ => rfl
  | 7, _ => rfl
  | 8, _ => rfl
  | 9, _ => rfl
  | 10, _ => rfl
  | 11, _ => rfl
  | n + 12, h => absurd h (by omega)
theorem tab2 : ∀ k, k < 12 → pieceTab[k * 4 + 2]? = some (.int .u8 (pKind k))
  | 0, _ => rfl
  | 1, _ => rfl
  | 2, _ => rfl
  | 3, _ => rfl
  | 4, _ => rfl
  | 5, _ => rfl
  | 6, _ => rfl
  | 7, _ => rfl
  | 8, _ => rfl
  | 9, _ => rfl
  | 10, _ => rfl
  | 11, _ => rfl
  | n + 12, h => absurd h (by omega)
theorem tab3 : ∀ k, k < 12 → pieceTab[k * 4 + 3]? = some (.string (pStr k))
  | 0, _ => rfl
  | 1, _ => rfl
  | 2, _ => rfl
  | 3, _ => rfl
  | 4, _ => rfl
  | 5, _ => rfl
  | 6, _ => rfl
  | 7, _ => rfl
  | 8, _ => rfl
  | 9, _ => rfl
  | 10, _ => rfl
  | 11, _ => rfl
  | n + 12, h => absurd h (by omega)

theorem pNum_is : ∀ k, k < 12 → pieceB (pNum k) = true
  | 0, _ => by decide
  | 1, _ => by decide
  | 2, _ => by decide
  | 3, _ => by decide
  | 4, _ => by decide
  | 5, _ => by decide
  | 6, _ => by decide
  | 7, _ => by decide
  | 8, _ => by decide
  | 9, _ => by decide
  | 10, _ => by decide
  | 11, _ => by decide
  | n + 12, h => absurd h (by omega)
theorem is_pNum (p : Int) (h : ∀ j, j < 12 → pNum j ≠ p) : pieceB p = false := by
  have h0 := h 0 (by omega)
  have h1 := h 1 (by omega)
  have h2 := h 2 (by omega)
  have h3 := h 3 (by omega)
  have h4 := h 4 (by omega)
  have h5 := h 5 (by omega)
  have h6 := h 6 (by omega)
  have h7 := h 7 (by omega)
  have h8 := h 8 (by omega)
  have h9 := h 9 (by omega)
  have h10 := h 10 (by omega)
  have h11 := h 11 (by omega)
  simp only [pNum] at *
  simp only [pieceB, decide_eq_false_iff_not]
  omega
set_option maxHeartbeats 400000 in
theorem all_any (w : World) :
    Calls Try.prog 80 #[] w fun e w' => e = .returned (.slice (some ⟨w.heap.size, 0, none⟩) 12 12) ∧ w' = w.alloc (.cells pieceTab 112) := by
  go_enter Try.func80, Try.ntmps80
  go_wp2_with fail
  go_returns
  exact ⟨rfl, rfl⟩
end Go.Proofs.Ytldacinldgjdcaa
