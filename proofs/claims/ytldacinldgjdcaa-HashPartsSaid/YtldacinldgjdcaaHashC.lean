/- The walks of Piece, Turn, Passing, Rook, Pocket, Checks and of their references: each tells the number of the part; of what was in memory nothing turns. -/
import Derived.Test.YtldacinldgjdcaaHashB
namespace Go.Proofs.Ytldacinldgjdcaa
open Go.RowKit
def FindPost (p : Int) (w : World) (e : Ending) (w' : World) : Prop :=
  ∃ (a b c : Int) (s : ByteArray), e = .returned (.tuple #[.agg #[.int .u8 a, .int .u8 b, .int .u8 c, .string s], .bool (pieceB p)]) ∧ Below w.heap.size w w'
set_option maxHeartbeats 400000 in
theorem find_any (p : Int) (w : World) (h0 : 0 ≤ p) (h1 : p ≤ 255) :
    Calls Try.prog 76 #[.int .u8 p] w (FindPost p w) := by
  go_enter Try.func76, Try.ntmps76
  go_wp2_with (go_at_call 80; refine (all_any _).mono ?_; rintro e w1 ⟨rfl, rfl⟩)
  go_loop [5] (fun i => ∃ k : Nat, k ≤ 12 ∧ i = .int .i64 k ∧ ∀ j, j < k → pNum j ≠ p) (fun i => 12 - (intOf i).toNat)
  case atStart => exact ⟨0, by omega, rfl, fun j hj => absurd hj (by omega)⟩
  case round =>
    obtain ⟨k, hk, rfl, hne⟩ := hrel
    have HN := Lib.hid hne
    clear hne
    by_cases hlt : k < 12
    · have t0 := tab0 k hlt
      have t1 := tab1 k hlt
      have t2 := tab2 k hlt
      have t3 := tab3 k hlt
      by_cases hp : pNum k = p
      · have hB := Lib.hid (pNum_is k hlt)
        subst hp
        go_wp2
        go_returns
        exact ⟨_, _, _, _, by rw [hB.out], by go_grown⟩
      · have hb : (pNum k == p) = false := by simp [hp]
        go_wp2
        go_round
        case rel => exact ⟨k + 1, by omega, by go_num, fun j hj => by
          by_cases e : j = k
          · rw [e]; exact hp
          · exact HN.out j (by omega)⟩
        case measure => simp [intOf]; omega
    · have hk12 : k = 12 := by omega
      have hB := Lib.hid (is_pNum p (fun j hj => HN.out j (by omega)))
      clear hk12
      go_wp2
      go_returns
      exact ⟨_, _, _, _, by rw [hB.out], by go_grown⟩
theorem refis_any (p : Int) (w : World) (h0 : 0 ≤ p) (h1 : p ≤ 255) :
    Calls Try.prog 66 #[.int .u8 p] w fun e w' => e = .returned (.bool (pieceB p)) ∧ Below w.heap.size w w' := by
  go_enter Try.func66, Try.ntmps66
  go_wp2_with (go_at_call 76; refine (find_any _ _ h0 h1).mono ?_; rintro e w1 ⟨a, b, c, s, rfl, hb⟩)
  go_returns
  have := hb.size
  exact ⟨rfl, hb.alloc (by omega) _⟩

/-! ### The parts -/
def pieceV (p s : Int) : Int := if pieceB p && withinB s 64 then partV 1 (64 * p + s) else 0
def turnV (c : Int) : Int := if c == 1 then partV 2 0 else 0
def passV (s : Int) : Int := if withinB s 64 then partV 3 s else 0
def rookB (c d f : Int) : Bool := decide (c ≤ 1) && withinB d 2 && withinB f 8
def rookV (c d f : Int) : Int := if rookB c d f then partV 4 (16 * (2 * c + d) + f) else 0
def pockB (c k n : Int) : Bool := decide (c ≤ 1 ∧ 1 ≤ k ∧ k ≤ 5 ∧ 0 < n)
def pockV (c k n : Int) : Int := if pockB c k n then partV 5 (256 * (6 * c + k) + n) else 0
def checkV (c n : Int) : Int := if decide (c ≤ 1 ∧ 0 < n) then partV 6 (256 * c + n) else 0

set_option maxHeartbeats 400000 in
theorem piece_any (p s : Int) (w : World) (hp0 : 0 ≤ p) (hp1 : p ≤ 255) :
    Calls Try.prog 28 #[.int .u8 p, .int .i64 s] w fun e w' => e = .returned (.int .u64 (pieceV p s)) ∧ Below w.heap.size w w' := by
  rcases (show (pieceB p = true) ∨ (pieceB p = false) by first | omega | (cases pieceB p <;> simp)) with c0 | c0
  rotate_left
  · have hv := Lib.hid (show pieceV p s = 0 by simp [pieceV, *])
    go_enter Try.func28, Try.ntmps28
    go_wp2_with (first | (go_at_call 64; refine (is_any _ _ (by omega) (by omega)).mono ?_; rintro e w1 ⟨rfl, rfl⟩) | (go_at_call 66; refine (refis_any _ _ (by omega) (by omega)).mono ?_; rintro e w1 ⟨rfl, hb⟩) | (go_at_call 65; refine (within_any _ _ _).mono ?_; rintro e w1 ⟨rfl, rfl⟩) | (go_at_call 63; refine (partIf_any _ _ _ _).mono ?_; rintro e w1 ⟨rfl, hb⟩) | (go_at_call 27; refine (refpart_any _ _ _).mono ?_; rintro e w2 ⟨rfl, rfl⟩))
    go_returns
    exact ⟨ret_int hv.out.symm, by first | exact hb | exact Below.refl _ _⟩
  rcases (show (withinB s 64 = true) ∨ (withinB s 64 = false) by first | omega | (cases withinB s 64 <;> simp)) with c1 | c1
  rotate_left
  · have hv := Lib.hid (show pieceV p s = 0 by simp [pieceV, *])
    go_enter Try.func28, Try.ntmps28
    go_wp2_with (first | (go_at_call 64; refine (is_any _ _ (by omega) (by omega)).mono ?_; rintro e w1 ⟨rfl, rfl⟩) | (go_at_call 66; refine (refis_any _ _ (by omega) (by omega)).mono ?_; rintro e w1 ⟨rfl, hb⟩) | (go_at_call 65; refine (within_any _ _ _).mono ?_; rintro e w1 ⟨rfl, rfl⟩) | (go_at_call 63; refine (partIf_any _ _ _ _).mono ?_; rintro e w1 ⟨rfl, hb⟩) | (go_at_call 27; refine (refpart_any _ _ _).mono ?_; rintro e w2 ⟨rfl, rfl⟩))
    go_returns
    exact ⟨ret_int hv.out.symm, by first | exact hb | exact Below.refl _ _⟩
  obtain ⟨c1a0, c1a1⟩ : 0 ≤ s ∧ s < 64 := by simpa [withinB] using c1
  have hv := Lib.hid (show pieceV p s = partV 1 (64 * p + s) by simp [pieceV, *])
  go_enter Try.func28, Try.ntmps28
  go_wp2_with (first | (go_at_call 64; refine (is_any _ _ (by omega) (by omega)).mono ?_; rintro e w1 ⟨rfl, rfl⟩) | (go_at_call 66; refine (refis_any _ _ (by omega) (by omega)).mono ?_; rintro e w1 ⟨rfl, hb⟩) | (go_at_call 65; refine (within_any _ _ _).mono ?_; rintro e w1 ⟨rfl, rfl⟩) | (go_at_call 63; refine (partIf_any _ _ _ _).mono ?_; rintro e w1 ⟨rfl, hb⟩) | (go_at_call 27; refine (refpart_any _ _ _).mono ?_; rintro e w2 ⟨rfl, rfl⟩))
  go_returns
  exact ⟨ret_int hv.out.symm, by first | exact hb | exact Below.refl _ _⟩
set_option maxHeartbeats 400000 in
theorem refpiece_any (p s : Int) (w : World) (hp0 : 0 ≤ p) (hp1 : p ≤ 255) :
    Calls Try.prog 29 #[.int .u8 p, .int .i64 s] w fun e w' => e = .returned (.int .u64 (pieceV p s)) ∧ Below w.heap.size w w' := by
  rcases (show (pieceB p = true) ∨ (pieceB p = false) by first | omega | (cases pieceB p <;> simp)) with c0 | c0
  rotate_left
  · have hv := Lib.hid (show pieceV p s = 0 from if_neg (by simp [withinB, c0]; try omega))
    go_enter Try.func29, Try.ntmps29
    go_wp2_with (first | (go_at_call 64; refine (is_any _ _ (by omega) (by omega)).mono ?_; rintro e w1 ⟨rfl, rfl⟩) | (go_at_call 66; refine (refis_any _ _ (by omega) (by omega)).mono ?_; rintro e w1 ⟨rfl, hb⟩) | (go_at_call 65; refine (within_any _ _ _).mono ?_; rintro e w1 ⟨rfl, rfl⟩) | (go_at_call 63; refine (partIf_any _ _ _ _).mono ?_; rintro e w1 ⟨rfl, hb⟩) | (go_at_call 27; refine (refpart_any _ _ _).mono ?_; rintro e w2 ⟨rfl, rfl⟩))
    go_returns
    exact ⟨ret_int hv.out.symm, by first | exact hb | exact Below.refl _ _⟩
  rcases (show (0 ≤ s) ∨ (s < 0) by first | omega | (cases True <;> simp)) with c1 | c1
  rotate_left
  · have hv := Lib.hid (show pieceV p s = 0 from if_neg (by simp [withinB, c0]; try omega))
    go_enter Try.func29, Try.ntmps29
    go_wp2_with (first | (go_at_call 64; refine (is_any _ _ (by omega) (by omega)).mono ?_; rintro e w1 ⟨rfl, rfl⟩) | (go_at_call 66; refine (refis_any _ _ (by omega) (by omega)).mono ?_; rintro e w1 ⟨rfl, hb⟩) | (go_at_call 65; refine (within_any _ _ _).mono ?_; rintro e w1 ⟨rfl, rfl⟩) | (go_at_call 63; refine (partIf_any _ _ _ _).mono ?_; rintro e w1 ⟨rfl, hb⟩) | (go_at_call 27; refine (refpart_any _ _ _).mono ?_; rintro e w2 ⟨rfl, rfl⟩))
    go_returns
    exact ⟨ret_int hv.out.symm, by first | exact hb | exact Below.refl _ _⟩
  rcases (show (s ≤ 63) ∨ (63 < s) by first | omega | (cases True <;> simp)) with c2 | c2
  rotate_left
  · have hv := Lib.hid (show pieceV p s = 0 from if_neg (by simp [withinB, c0]; try omega))
    go_enter Try.func29, Try.ntmps29
    go_wp2_with (first | (go_at_call 64; refine (is_any _ _ (by omega) (by omega)).mono ?_; rintro e w1 ⟨rfl, rfl⟩) | (go_at_call 66; refine (refis_any _ _ (by omega) (by omega)).mono ?_; rintro e w1 ⟨rfl, hb⟩) | (go_at_call 65; refine (within_any _ _ _).mono ?_; rintro e w1 ⟨rfl, rfl⟩) | (go_at_call 63; refine (partIf_any _ _ _ _).mono ?_; rintro e w1 ⟨rfl, hb⟩) | (go_at_call 27; refine (refpart_any _ _ _).mono ?_; rintro e w2 ⟨rfl, rfl⟩))
    go_returns
    exact ⟨ret_int hv.out.symm, by first | exact hb | exact Below.refl _ _⟩
  have hv := Lib.hid (show pieceV p s = partV 1 (64 * p + s) from if_pos (by simp [withinB, c0]; try omega))
  go_enter Try.func29, Try.ntmps29
  go_wp2_with (first | (go_at_call 64; refine (is_any _ _ (by omega) (by omega)).mono ?_; rintro e w1 ⟨rfl, rfl⟩) | (go_at_call 66; refine (refis_any _ _ (by omega) (by omega)).mono ?_; rintro e w1 ⟨rfl, hb⟩) | (go_at_call 65; refine (within_any _ _ _).mono ?_; rintro e w1 ⟨rfl, rfl⟩) | (go_at_call 63; refine (partIf_any _ _ _ _).mono ?_; rintro e w1 ⟨rfl, hb⟩) | (go_at_call 27; refine (refpart_any _ _ _).mono ?_; rintro e w2 ⟨rfl, rfl⟩))
  go_returns
  exact ⟨ret_int hv.out.symm, by first | exact hb | exact Below.refl _ _⟩
set_option maxHeartbeats 400000 in
theorem turn_any (c : Int) (w : World) (hc0 : 0 ≤ c) (hc1 : c ≤ 255) :
    Calls Try.prog 30 #[.int .u8 c] w fun e w' => e = .returned (.int .u64 (turnV c)) ∧ Below w.heap.size w w' := by
  rcases (show (c = 1) ∨ ((c == 1) = false) by by_cases h : c = 1 <;> simp [h]) with c0 | c0
  rotate_left
  · have hv := Lib.hid (show turnV c = 0 by simp [turnV, c0])
    go_enter Try.func30, Try.ntmps30
    go_wp2_with (first | (go_at_call 64; refine (is_any _ _ (by omega) (by omega)).mono ?_; rintro e w1 ⟨rfl, rfl⟩) | (go_at_call 66; refine (refis_any _ _ (by omega) (by omega)).mono ?_; rintro e w1 ⟨rfl, hb⟩) | (go_at_call 65; refine (within_any _ _ _).mono ?_; rintro e w1 ⟨rfl, rfl⟩) | (go_at_call 63; refine (partIf_any _ _ _ _).mono ?_; rintro e w1 ⟨rfl, hb⟩) | (go_at_call 27; refine (refpart_any _ _ _).mono ?_; rintro e w2 ⟨rfl, rfl⟩))
    go_returns
    exact ⟨ret_int hv.out.symm, by first | exact hb | exact Below.refl _ _⟩
  subst c0
  have hv := Lib.hid (show turnV 1 = partV 2 0 from rfl)
  go_enter Try.func30, Try.ntmps30
  go_wp2_with (first | (go_at_call 64; refine (is_any _ _ (by omega) (by omega)).mono ?_; rintro e w1 ⟨rfl, rfl⟩) | (go_at_call 66; refine (refis_any _ _ (by omega) (by omega)).mono ?_; rintro e w1 ⟨rfl, hb⟩) | (go_at_call 65; refine (within_any _ _ _).mono ?_; rintro e w1 ⟨rfl, rfl⟩) | (go_at_call 63; refine (partIf_any _ _ _ _).mono ?_; rintro e w1 ⟨rfl, hb⟩) | (go_at_call 27; refine (refpart_any _ _ _).mono ?_; rintro e w2 ⟨rfl, rfl⟩))
  go_returns
  exact ⟨ret_int hv.out.symm, by first | exact hb | exact Below.refl _ _⟩
set_option maxHeartbeats 400000 in
theorem refturn_any (c : Int) (w : World) (hc0 : 0 ≤ c) (hc1 : c ≤ 255) :
    Calls Try.prog 31 #[.int .u8 c] w fun e w' => e = .returned (.int .u64 (turnV c)) ∧ Below w.heap.size w w' := by
  rcases (show (c = 1) ∨ ((c != 1) = true) by by_cases h : c = 1 <;> simp [h]) with c0 | c0
  rotate_left
  · have hv := Lib.hid (show turnV c = 0 by have h := bne_iff_ne.1 c0; simp [turnV, h])
    go_enter Try.func31, Try.ntmps31
    go_wp2_with (first | (go_at_call 64; refine (is_any _ _ (by omega) (by omega)).mono ?_; rintro e w1 ⟨rfl, rfl⟩) | (go_at_call 66; refine (refis_any _ _ (by omega) (by omega)).mono ?_; rintro e w1 ⟨rfl, hb⟩) | (go_at_call 65; refine (within_any _ _ _).mono ?_; rintro e w1 ⟨rfl, rfl⟩) | (go_at_call 63; refine (partIf_any _ _ _ _).mono ?_; rintro e w1 ⟨rfl, hb⟩) | (go_at_call 27; refine (refpart_any _ _ _).mono ?_; rintro e w2 ⟨rfl, rfl⟩))
    go_returns
    exact ⟨ret_int hv.out.symm, by first | exact hb | exact Below.refl _ _⟩
  subst c0
  have hv := Lib.hid (show turnV 1 = partV 2 0 from rfl)
  go_enter Try.func31, Try.ntmps31
  go_wp2_with (first | (go_at_call 64; refine (is_any _ _ (by omega) (by omega)).mono ?_; rintro e w1 ⟨rfl, rfl⟩) | (go_at_call 66; refine (refis_any _ _ (by omega) (by omega)).mono ?_; rintro e w1 ⟨rfl, hb⟩) | (go_at_call 65; refine (within_any _ _ _).mono ?_; rintro e w1 ⟨rfl, rfl⟩) | (go_at_call 63; refine (partIf_any _ _ _ _).mono ?_; rintro e w1 ⟨rfl, hb⟩) | (go_at_call 27; refine (refpart_any _ _ _).mono ?_; rintro e w2 ⟨rfl, rfl⟩))
  go_returns
  exact ⟨ret_int hv.out.symm, by first | exact hb | exact Below.refl _ _⟩
set_option maxHeartbeats 400000 in
theorem pass_any (s : Int) (w : World)  :
    Calls Try.prog 32 #[.int .i64 s] w fun e w' => e = .returned (.int .u64 (passV s)) ∧ Below w.heap.size w w' := by
  rcases (show (withinB s 64 = true) ∨ (withinB s 64 = false) by first | omega | (cases withinB s 64 <;> simp)) with c0 | c0
  rotate_left
  · have hv := Lib.hid (show passV s = 0 by simp [passV, *])
    go_enter Try.func32, Try.ntmps32
    go_wp2_with (first | (go_at_call 64; refine (is_any _ _ (by omega) (by omega)).mono ?_; rintro e w1 ⟨rfl, rfl⟩) | (go_at_call 66; refine (refis_any _ _ (by omega) (by omega)).mono ?_; rintro e w1 ⟨rfl, hb⟩) | (go_at_call 65; refine (within_any _ _ _).mono ?_; rintro e w1 ⟨rfl, rfl⟩) | (go_at_call 63; refine (partIf_any _ _ _ _).mono ?_; rintro e w1 ⟨rfl, hb⟩) | (go_at_call 27; refine (refpart_any _ _ _).mono ?_; rintro e w2 ⟨rfl, rfl⟩))
    go_returns
    exact ⟨ret_int hv.out.symm, by first | exact hb | exact Below.refl _ _⟩
  have hv := Lib.hid (show passV s = partV 3 s by simp [passV, *])
  go_enter Try.func32, Try.ntmps32
  go_wp2_with (first | (go_at_call 64; refine (is_any _ _ (by omega) (by omega)).mono ?_; rintro e w1 ⟨rfl, rfl⟩) | (go_at_call 66; refine (refis_any _ _ (by omega) (by omega)).mono ?_; rintro e w1 ⟨rfl, hb⟩) | (go_at_call 65; refine (within_any _ _ _).mono ?_; rintro e w1 ⟨rfl, rfl⟩) | (go_at_call 63; refine (partIf_any _ _ _ _).mono ?_; rintro e w1 ⟨rfl, hb⟩) | (go_at_call 27; refine (refpart_any _ _ _).mono ?_; rintro e w2 ⟨rfl, rfl⟩))
  go_returns
  exact ⟨ret_int hv.out.symm, by first | exact hb | exact Below.refl _ _⟩
set_option maxHeartbeats 400000 in
theorem refpass_any (s : Int) (w : World)  :
    Calls Try.prog 33 #[.int .i64 s] w fun e w' => e = .returned (.int .u64 (passV s)) ∧ Below w.heap.size w w' := by
  rcases (show (0 ≤ s) ∨ (s < 0) by first | omega | (cases True <;> simp)) with c0 | c0
  rotate_left
  · have hv := Lib.hid (show passV s = 0 from if_neg (by simp [withinB]; try omega))
    go_enter Try.func33, Try.ntmps33
    go_wp2_with (first | (go_at_call 64; refine (is_any _ _ (by omega) (by omega)).mono ?_; rintro e w1 ⟨rfl, rfl⟩) | (go_at_call 66; refine (refis_any _ _ (by omega) (by omega)).mono ?_; rintro e w1 ⟨rfl, hb⟩) | (go_at_call 65; refine (within_any _ _ _).mono ?_; rintro e w1 ⟨rfl, rfl⟩) | (go_at_call 63; refine (partIf_any _ _ _ _).mono ?_; rintro e w1 ⟨rfl, hb⟩) | (go_at_call 27; refine (refpart_any _ _ _).mono ?_; rintro e w2 ⟨rfl, rfl⟩))
    go_returns
    exact ⟨ret_int hv.out.symm, by first | exact hb | exact Below.refl _ _⟩
  rcases (show (s ≤ 63) ∨ (63 < s) by first | omega | (cases True <;> simp)) with c1 | c1
  rotate_left
  · have hv := Lib.hid (show passV s = 0 from if_neg (by simp [withinB]; try omega))
    go_enter Try.func33, Try.ntmps33
    go_wp2_with (first | (go_at_call 64; refine (is_any _ _ (by omega) (by omega)).mono ?_; rintro e w1 ⟨rfl, rfl⟩) | (go_at_call 66; refine (refis_any _ _ (by omega) (by omega)).mono ?_; rintro e w1 ⟨rfl, hb⟩) | (go_at_call 65; refine (within_any _ _ _).mono ?_; rintro e w1 ⟨rfl, rfl⟩) | (go_at_call 63; refine (partIf_any _ _ _ _).mono ?_; rintro e w1 ⟨rfl, hb⟩) | (go_at_call 27; refine (refpart_any _ _ _).mono ?_; rintro e w2 ⟨rfl, rfl⟩))
    go_returns
    exact ⟨ret_int hv.out.symm, by first | exact hb | exact Below.refl _ _⟩
  have hv := Lib.hid (show passV s = partV 3 s from if_pos (by simp [withinB]; try omega))
  go_enter Try.func33, Try.ntmps33
  go_wp2_with (first | (go_at_call 64; refine (is_any _ _ (by omega) (by omega)).mono ?_; rintro e w1 ⟨rfl, rfl⟩) | (go_at_call 66; refine (refis_any _ _ (by omega) (by omega)).mono ?_; rintro e w1 ⟨rfl, hb⟩) | (go_at_call 65; refine (within_any _ _ _).mono ?_; rintro e w1 ⟨rfl, rfl⟩) | (go_at_call 63; refine (partIf_any _ _ _ _).mono ?_; rintro e w1 ⟨rfl, hb⟩) | (go_at_call 27; refine (refpart_any _ _ _).mono ?_; rintro e w2 ⟨rfl, rfl⟩))
  go_returns
  exact ⟨ret_int hv.out.symm, by first | exact hb | exact Below.refl _ _⟩
set_option maxHeartbeats 400000 in
theorem rook_any (c d f : Int) (w : World) (hc0 : 0 ≤ c) (hc1 : c ≤ 255) :
    Calls Try.prog 34 #[.int .u8 c, .int .i64 d, .int .i64 f] w fun e w' => e = .returned (.int .u64 (rookV c d f)) ∧ Below w.heap.size w w' := by
  rcases (show (c ≤ 1) ∨ (1 < c) by first | omega | (cases True <;> simp)) with c0 | c0
  rotate_left
  · have hv := Lib.hid (show rookV c d f = 0 by simp [rookV, rookB, *]; try omega)
    go_enter Try.func34, Try.ntmps34
    go_wp2_with (first | (go_at_call 64; refine (is_any _ _ (by omega) (by omega)).mono ?_; rintro e w1 ⟨rfl, rfl⟩) | (go_at_call 66; refine (refis_any _ _ (by omega) (by omega)).mono ?_; rintro e w1 ⟨rfl, hb⟩) | (go_at_call 65; refine (within_any _ _ _).mono ?_; rintro e w1 ⟨rfl, rfl⟩) | (go_at_call 63; refine (partIf_any _ _ _ _).mono ?_; rintro e w1 ⟨rfl, hb⟩) | (go_at_call 27; refine (refpart_any _ _ _).mono ?_; rintro e w2 ⟨rfl, rfl⟩))
    go_returns
    exact ⟨ret_int hv.out.symm, by first | exact hb | exact Below.refl _ _⟩
  rcases (show (withinB d 2 = true) ∨ (withinB d 2 = false) by first | omega | (cases withinB d 2 <;> simp)) with c1 | c1
  rotate_left
  · have hv := Lib.hid (show rookV c d f = 0 by simp [rookV, rookB, *]; try omega)
    go_enter Try.func34, Try.ntmps34
    go_wp2_with (first | (go_at_call 64; refine (is_any _ _ (by omega) (by omega)).mono ?_; rintro e w1 ⟨rfl, rfl⟩) | (go_at_call 66; refine (refis_any _ _ (by omega) (by omega)).mono ?_; rintro e w1 ⟨rfl, hb⟩) | (go_at_call 65; refine (within_any _ _ _).mono ?_; rintro e w1 ⟨rfl, rfl⟩) | (go_at_call 63; refine (partIf_any _ _ _ _).mono ?_; rintro e w1 ⟨rfl, hb⟩) | (go_at_call 27; refine (refpart_any _ _ _).mono ?_; rintro e w2 ⟨rfl, rfl⟩))
    go_returns
    exact ⟨ret_int hv.out.symm, by first | exact hb | exact Below.refl _ _⟩
  rcases (show (withinB f 8 = true) ∨ (withinB f 8 = false) by first | omega | (cases withinB f 8 <;> simp)) with c2 | c2
  rotate_left
  · have hv := Lib.hid (show rookV c d f = 0 by simp [rookV, rookB, *]; try omega)
    go_enter Try.func34, Try.ntmps34
    go_wp2_with (first | (go_at_call 64; refine (is_any _ _ (by omega) (by omega)).mono ?_; rintro e w1 ⟨rfl, rfl⟩) | (go_at_call 66; refine (refis_any _ _ (by omega) (by omega)).mono ?_; rintro e w1 ⟨rfl, hb⟩) | (go_at_call 65; refine (within_any _ _ _).mono ?_; rintro e w1 ⟨rfl, rfl⟩) | (go_at_call 63; refine (partIf_any _ _ _ _).mono ?_; rintro e w1 ⟨rfl, hb⟩) | (go_at_call 27; refine (refpart_any _ _ _).mono ?_; rintro e w2 ⟨rfl, rfl⟩))
    go_returns
    exact ⟨ret_int hv.out.symm, by first | exact hb | exact Below.refl _ _⟩
  obtain ⟨c1a0, c1a1⟩ : 0 ≤ d ∧ d < 2 := by simpa [withinB] using c1
  obtain ⟨c2a0, c2a1⟩ : 0 ≤ f ∧ f < 8 := by simpa [withinB] using c2
  have hv := Lib.hid (show rookV c d f = partV 4 (16 * (2 * c + d) + f) by simp [rookV, rookB, *])
  go_enter Try.func34, Try.ntmps34
  go_wp2_with (first | (go_at_call 64; refine (is_any _ _ (by omega) (by omega)).mono ?_; rintro e w1 ⟨rfl, rfl⟩) | (go_at_call 66; refine (refis_any _ _ (by omega) (by omega)).mono ?_; rintro e w1 ⟨rfl, hb⟩) | (go_at_call 65; refine (within_any _ _ _).mono ?_; rintro e w1 ⟨rfl, rfl⟩) | (go_at_call 63; refine (partIf_any _ _ _ _).mono ?_; rintro e w1 ⟨rfl, hb⟩) | (go_at_call 27; refine (refpart_any _ _ _).mono ?_; rintro e w2 ⟨rfl, rfl⟩))
  go_returns
  exact ⟨ret_int hv.out.symm, by first | exact hb | exact Below.refl _ _⟩
set_option maxHeartbeats 400000 in
theorem refrook_any (c d f : Int) (w : World) (hc0 : 0 ≤ c) (hc1 : c ≤ 255) :
    Calls Try.prog 35 #[.int .u8 c, .int .i64 d, .int .i64 f] w fun e w' => e = .returned (.int .u64 (rookV c d f)) ∧ Below w.heap.size w w' := by
  rcases (show (c ≤ 1) ∨ (1 < c) by first | omega | (cases True <;> simp)) with c0 | c0
  rotate_left
  · have hv := Lib.hid (show rookV c d f = 0 from if_neg (by simp [rookB, withinB]; try omega))
    go_enter Try.func35, Try.ntmps35
    go_wp2_with (first | (go_at_call 64; refine (is_any _ _ (by omega) (by omega)).mono ?_; rintro e w1 ⟨rfl, rfl⟩) | (go_at_call 66; refine (refis_any _ _ (by omega) (by omega)).mono ?_; rintro e w1 ⟨rfl, hb⟩) | (go_at_call 65; refine (within_any _ _ _).mono ?_; rintro e w1 ⟨rfl, rfl⟩) | (go_at_call 63; refine (partIf_any _ _ _ _).mono ?_; rintro e w1 ⟨rfl, hb⟩) | (go_at_call 27; refine (refpart_any _ _ _).mono ?_; rintro e w2 ⟨rfl, rfl⟩))
    go_returns
    exact ⟨ret_int hv.out.symm, by first | exact hb | exact Below.refl _ _⟩
  rcases (show (0 ≤ d) ∨ (d < 0) by first | omega | (cases True <;> simp)) with c1 | c1
  rotate_left
  · have hv := Lib.hid (show rookV c d f = 0 from if_neg (by simp [rookB, withinB]; try omega))
    go_enter Try.func35, Try.ntmps35
    go_wp2_with (first | (go_at_call 64; refine (is_any _ _ (by omega) (by omega)).mono ?_; rintro e w1 ⟨rfl, rfl⟩) | (go_at_call 66; refine (refis_any _ _ (by omega) (by omega)).mono ?_; rintro e w1 ⟨rfl, hb⟩) | (go_at_call 65; refine (within_any _ _ _).mono ?_; rintro e w1 ⟨rfl, rfl⟩) | (go_at_call 63; refine (partIf_any _ _ _ _).mono ?_; rintro e w1 ⟨rfl, hb⟩) | (go_at_call 27; refine (refpart_any _ _ _).mono ?_; rintro e w2 ⟨rfl, rfl⟩))
    go_returns
    exact ⟨ret_int hv.out.symm, by first | exact hb | exact Below.refl _ _⟩
  rcases (show (d ≤ 1) ∨ (1 < d) by first | omega | (cases True <;> simp)) with c2 | c2
  rotate_left
  · have hv := Lib.hid (show rookV c d f = 0 from if_neg (by simp [rookB, withinB]; try omega))
    go_enter Try.func35, Try.ntmps35
    go_wp2_with (first | (go_at_call 64; refine (is_any _ _ (by omega) (by omega)).mono ?_; rintro e w1 ⟨rfl, rfl⟩) | (go_at_call 66; refine (refis_any _ _ (by omega) (by omega)).mono ?_; rintro e w1 ⟨rfl, hb⟩) | (go_at_call 65; refine (within_any _ _ _).mono ?_; rintro e w1 ⟨rfl, rfl⟩) | (go_at_call 63; refine (partIf_any _ _ _ _).mono ?_; rintro e w1 ⟨rfl, hb⟩) | (go_at_call 27; refine (refpart_any _ _ _).mono ?_; rintro e w2 ⟨rfl, rfl⟩))
    go_returns
    exact ⟨ret_int hv.out.symm, by first | exact hb | exact Below.refl _ _⟩
  rcases (show (0 ≤ f) ∨ (f < 0) by first | omega | (cases True <;> simp)) with c3 | c3
  rotate_left
  · have hv := Lib.hid (show rookV c d f = 0 from if_neg (by simp [rookB, withinB]; try omega))
    go_enter Try.func35, Try.ntmps35
    go_wp2_with (first | (go_at_call 64; refine (is_any _ _ (by omega) (by omega)).mono ?_; rintro e w1 ⟨rfl, rfl⟩) | (go_at_call 66; refine (refis_any _ _ (by omega) (by omega)).mono ?_; rintro e w1 ⟨rfl, hb⟩) | (go_at_call 65; refine (within_any _ _ _).mono ?_; rintro e w1 ⟨rfl, rfl⟩) | (go_at_call 63; refine (partIf_any _ _ _ _).mono ?_; rintro e w1 ⟨rfl, hb⟩) | (go_at_call 27; refine (refpart_any _ _ _).mono ?_; rintro e w2 ⟨rfl, rfl⟩))
    go_returns
    exact ⟨ret_int hv.out.symm, by first | exact hb | exact Below.refl _ _⟩
  rcases (show (f ≤ 7) ∨ (7 < f) by first | omega | (cases True <;> simp)) with c4 | c4
  rotate_left
  · have hv := Lib.hid (show rookV c d f = 0 from if_neg (by simp [rookB, withinB]; try omega))
    go_enter Try.func35, Try.ntmps35
    go_wp2_with (first | (go_at_call 64; refine (is_any _ _ (by omega) (by omega)).mono ?_; rintro e w1 ⟨rfl, rfl⟩) | (go_at_call 66; refine (refis_any _ _ (by omega) (by omega)).mono ?_; rintro e w1 ⟨rfl, hb⟩) | (go_at_call 65; refine (within_any _ _ _).mono ?_; rintro e w1 ⟨rfl, rfl⟩) | (go_at_call 63; refine (partIf_any _ _ _ _).mono ?_; rintro e w1 ⟨rfl, hb⟩) | (go_at_call 27; refine (refpart_any _ _ _).mono ?_; rintro e w2 ⟨rfl, rfl⟩))
    go_returns
    exact ⟨ret_int hv.out.symm, by first | exact hb | exact Below.refl _ _⟩
  have hv := Lib.hid (show rookV c d f = partV 4 (16 * (2 * c + d) + f) from if_pos (by simp [rookB, withinB]; try omega))
  go_enter Try.func35, Try.ntmps35
  go_wp2_with (first | (go_at_call 64; refine (is_any _ _ (by omega) (by omega)).mono ?_; rintro e w1 ⟨rfl, rfl⟩) | (go_at_call 66; refine (refis_any _ _ (by omega) (by omega)).mono ?_; rintro e w1 ⟨rfl, hb⟩) | (go_at_call 65; refine (within_any _ _ _).mono ?_; rintro e w1 ⟨rfl, rfl⟩) | (go_at_call 63; refine (partIf_any _ _ _ _).mono ?_; rintro e w1 ⟨rfl, hb⟩) | (go_at_call 27; refine (refpart_any _ _ _).mono ?_; rintro e w2 ⟨rfl, rfl⟩))
  go_returns
  exact ⟨ret_int hv.out.symm, by first | exact hb | exact Below.refl _ _⟩
set_option maxHeartbeats 400000 in
theorem pock_any (c k n : Int) (w : World) (hc0 : 0 ≤ c) (hc1 : c ≤ 255) (hk0 : 0 ≤ k) (hk1 : k ≤ 255) (hn0 : 0 ≤ n) (hn1 : n ≤ 255) :
    Calls Try.prog 36 #[.int .u8 c, .int .u8 k, .int .u8 n] w fun e w' => e = .returned (.int .u64 (pockV c k n)) ∧ Below w.heap.size w w' := by
  rcases (show (c ≤ 1) ∨ (1 < c) by first | omega | (cases True <;> simp)) with c0 | c0
  rotate_left
  · have hv := Lib.hid (show pockV c k n = 0 from if_neg (by simp [pockB]; try omega))
    go_enter Try.func36, Try.ntmps36
    go_wp2_with (first | (go_at_call 64; refine (is_any _ _ (by omega) (by omega)).mono ?_; rintro e w1 ⟨rfl, rfl⟩) | (go_at_call 66; refine (refis_any _ _ (by omega) (by omega)).mono ?_; rintro e w1 ⟨rfl, hb⟩) | (go_at_call 65; refine (within_any _ _ _).mono ?_; rintro e w1 ⟨rfl, rfl⟩) | (go_at_call 63; refine (partIf_any _ _ _ _).mono ?_; rintro e w1 ⟨rfl, hb⟩) | (go_at_call 27; refine (refpart_any _ _ _).mono ?_; rintro e w2 ⟨rfl, rfl⟩))
    go_returns
    exact ⟨ret_int hv.out.symm, by first | exact hb | exact Below.refl _ _⟩
  rcases (show (1 ≤ k) ∨ (k < 1) by first | omega | (cases True <;> simp)) with c1 | c1
  rotate_left
  · have hv := Lib.hid (show pockV c k n = 0 from if_neg (by simp [pockB]; try omega))
    go_enter Try.func36, Try.ntmps36
    go_wp2_with (first | (go_at_call 64; refine (is_any _ _ (by omega) (by omega)).mono ?_; rintro e w1 ⟨rfl, rfl⟩) | (go_at_call 66; refine (refis_any _ _ (by omega) (by omega)).mono ?_; rintro e w1 ⟨rfl, hb⟩) | (go_at_call 65; refine (within_any _ _ _).mono ?_; rintro e w1 ⟨rfl, rfl⟩) | (go_at_call 63; refine (partIf_any _ _ _ _).mono ?_; rintro e w1 ⟨rfl, hb⟩) | (go_at_call 27; refine (refpart_any _ _ _).mono ?_; rintro e w2 ⟨rfl, rfl⟩))
    go_returns
    exact ⟨ret_int hv.out.symm, by first | exact hb | exact Below.refl _ _⟩
  rcases (show (k ≤ 5) ∨ (5 < k) by first | omega | (cases True <;> simp)) with c2 | c2
  rotate_left
  · have hv := Lib.hid (show pockV c k n = 0 from if_neg (by simp [pockB]; try omega))
    go_enter Try.func36, Try.ntmps36
    go_wp2_with (first | (go_at_call 64; refine (is_any _ _ (by omega) (by omega)).mono ?_; rintro e w1 ⟨rfl, rfl⟩) | (go_at_call 66; refine (refis_any _ _ (by omega) (by omega)).mono ?_; rintro e w1 ⟨rfl, hb⟩) | (go_at_call 65; refine (within_any _ _ _).mono ?_; rintro e w1 ⟨rfl, rfl⟩) | (go_at_call 63; refine (partIf_any _ _ _ _).mono ?_; rintro e w1 ⟨rfl, hb⟩) | (go_at_call 27; refine (refpart_any _ _ _).mono ?_; rintro e w2 ⟨rfl, rfl⟩))
    go_returns
    exact ⟨ret_int hv.out.symm, by first | exact hb | exact Below.refl _ _⟩
  rcases (show (0 < n) ∨ (n ≤ 0) by first | omega | (cases True <;> simp)) with c3 | c3
  rotate_left
  · have hv := Lib.hid (show pockV c k n = 0 from if_neg (by simp [pockB]; try omega))
    go_enter Try.func36, Try.ntmps36
    go_wp2_with (first | (go_at_call 64; refine (is_any _ _ (by omega) (by omega)).mono ?_; rintro e w1 ⟨rfl, rfl⟩) | (go_at_call 66; refine (refis_any _ _ (by omega) (by omega)).mono ?_; rintro e w1 ⟨rfl, hb⟩) | (go_at_call 65; refine (within_any _ _ _).mono ?_; rintro e w1 ⟨rfl, rfl⟩) | (go_at_call 63; refine (partIf_any _ _ _ _).mono ?_; rintro e w1 ⟨rfl, hb⟩) | (go_at_call 27; refine (refpart_any _ _ _).mono ?_; rintro e w2 ⟨rfl, rfl⟩))
    go_returns
    exact ⟨ret_int hv.out.symm, by first | exact hb | exact Below.refl _ _⟩
  have hv := Lib.hid (show pockV c k n = partV 5 (256 * (6 * c + k) + n) from if_pos (by simp [pockB]; try omega))
  go_enter Try.func36, Try.ntmps36
  go_wp2_with (first | (go_at_call 64; refine (is_any _ _ (by omega) (by omega)).mono ?_; rintro e w1 ⟨rfl, rfl⟩) | (go_at_call 66; refine (refis_any _ _ (by omega) (by omega)).mono ?_; rintro e w1 ⟨rfl, hb⟩) | (go_at_call 65; refine (within_any _ _ _).mono ?_; rintro e w1 ⟨rfl, rfl⟩) | (go_at_call 63; refine (partIf_any _ _ _ _).mono ?_; rintro e w1 ⟨rfl, hb⟩) | (go_at_call 27; refine (refpart_any _ _ _).mono ?_; rintro e w2 ⟨rfl, rfl⟩))
  go_returns
  exact ⟨ret_int hv.out.symm, by first | exact hb | exact Below.refl _ _⟩
set_option maxHeartbeats 400000 in
theorem refpock_any (c k n : Int) (w : World) (hc0 : 0 ≤ c) (hc1 : c ≤ 255) (hk0 : 0 ≤ k) (hk1 : k ≤ 255) (hn0 : 0 ≤ n) (hn1 : n ≤ 255) :
    Calls Try.prog 37 #[.int .u8 c, .int .u8 k, .int .u8 n] w fun e w' => e = .returned (.int .u64 (pockV c k n)) ∧ Below w.heap.size w w' := by
  rcases (show (c ≤ 1) ∨ (1 < c) by first | omega | (cases True <;> simp)) with c0 | c0
  rotate_left
  · have hv := Lib.hid (show pockV c k n = 0 from if_neg (by simp [pockB]; try omega))
    go_enter Try.func37, Try.ntmps37
    go_wp2_with (first | (go_at_call 64; refine (is_any _ _ (by omega) (by omega)).mono ?_; rintro e w1 ⟨rfl, rfl⟩) | (go_at_call 66; refine (refis_any _ _ (by omega) (by omega)).mono ?_; rintro e w1 ⟨rfl, hb⟩) | (go_at_call 65; refine (within_any _ _ _).mono ?_; rintro e w1 ⟨rfl, rfl⟩) | (go_at_call 63; refine (partIf_any _ _ _ _).mono ?_; rintro e w1 ⟨rfl, hb⟩) | (go_at_call 27; refine (refpart_any _ _ _).mono ?_; rintro e w2 ⟨rfl, rfl⟩))
    go_returns
    exact ⟨ret_int hv.out.symm, by first | exact hb | exact Below.refl _ _⟩
  rcases (show (1 ≤ k) ∨ (k < 1) by first | omega | (cases True <;> simp)) with c1 | c1
  rotate_left
  · have hv := Lib.hid (show pockV c k n = 0 from if_neg (by simp [pockB]; try omega))
    go_enter Try.func37, Try.ntmps37
    go_wp2_with (first | (go_at_call 64; refine (is_any _ _ (by omega) (by omega)).mono ?_; rintro e w1 ⟨rfl, rfl⟩) | (go_at_call 66; refine (refis_any _ _ (by omega) (by omega)).mono ?_; rintro e w1 ⟨rfl, hb⟩) | (go_at_call 65; refine (within_any _ _ _).mono ?_; rintro e w1 ⟨rfl, rfl⟩) | (go_at_call 63; refine (partIf_any _ _ _ _).mono ?_; rintro e w1 ⟨rfl, hb⟩) | (go_at_call 27; refine (refpart_any _ _ _).mono ?_; rintro e w2 ⟨rfl, rfl⟩))
    go_returns
    exact ⟨ret_int hv.out.symm, by first | exact hb | exact Below.refl _ _⟩
  rcases (show (k ≤ 5) ∨ (5 < k) by first | omega | (cases True <;> simp)) with c2 | c2
  rotate_left
  · have hv := Lib.hid (show pockV c k n = 0 from if_neg (by simp [pockB]; try omega))
    go_enter Try.func37, Try.ntmps37
    go_wp2_with (first | (go_at_call 64; refine (is_any _ _ (by omega) (by omega)).mono ?_; rintro e w1 ⟨rfl, rfl⟩) | (go_at_call 66; refine (refis_any _ _ (by omega) (by omega)).mono ?_; rintro e w1 ⟨rfl, hb⟩) | (go_at_call 65; refine (within_any _ _ _).mono ?_; rintro e w1 ⟨rfl, rfl⟩) | (go_at_call 63; refine (partIf_any _ _ _ _).mono ?_; rintro e w1 ⟨rfl, hb⟩) | (go_at_call 27; refine (refpart_any _ _ _).mono ?_; rintro e w2 ⟨rfl, rfl⟩))
    go_returns
    exact ⟨ret_int hv.out.symm, by first | exact hb | exact Below.refl _ _⟩
  rcases (show ((n == 0) = false) ∨ ((n == 0) = true) by first | omega | (cases (n == 0) <;> simp)) with c3 | c3
  rotate_left
  · have hv := Lib.hid (show pockV c k n = 0 from if_neg (by have c9 := beq_iff_eq.1 c3; simp [pockB]; try omega))
    go_enter Try.func37, Try.ntmps37
    go_wp2_with (first | (go_at_call 64; refine (is_any _ _ (by omega) (by omega)).mono ?_; rintro e w1 ⟨rfl, rfl⟩) | (go_at_call 66; refine (refis_any _ _ (by omega) (by omega)).mono ?_; rintro e w1 ⟨rfl, hb⟩) | (go_at_call 65; refine (within_any _ _ _).mono ?_; rintro e w1 ⟨rfl, rfl⟩) | (go_at_call 63; refine (partIf_any _ _ _ _).mono ?_; rintro e w1 ⟨rfl, hb⟩) | (go_at_call 27; refine (refpart_any _ _ _).mono ?_; rintro e w2 ⟨rfl, rfl⟩))
    go_returns
    exact ⟨ret_int hv.out.symm, by first | exact hb | exact Below.refl _ _⟩
  have hv := Lib.hid (show pockV c k n = partV 5 (256 * (6 * c + k) + n) from if_pos (by have c9 := beq_eq_false_iff_ne.1 c3; simp [pockB]; try omega))
  go_enter Try.func37, Try.ntmps37
  go_wp2_with (first | (go_at_call 64; refine (is_any _ _ (by omega) (by omega)).mono ?_; rintro e w1 ⟨rfl, rfl⟩) | (go_at_call 66; refine (refis_any _ _ (by omega) (by omega)).mono ?_; rintro e w1 ⟨rfl, hb⟩) | (go_at_call 65; refine (within_any _ _ _).mono ?_; rintro e w1 ⟨rfl, rfl⟩) | (go_at_call 63; refine (partIf_any _ _ _ _).mono ?_; rintro e w1 ⟨rfl, hb⟩) | (go_at_call 27; refine (refpart_any _ _ _).mono ?_; rintro e w2 ⟨rfl, rfl⟩))
  go_returns
  exact ⟨ret_int hv.out.symm, by first | exact hb | exact Below.refl _ _⟩
set_option maxHeartbeats 400000 in
theorem check_any (c n : Int) (w : World) (hc0 : 0 ≤ c) (hc1 : c ≤ 255) (hn0 : 0 ≤ n) (hn1 : n ≤ 255) :
    Calls Try.prog 38 #[.int .u8 c, .int .u8 n] w fun e w' => e = .returned (.int .u64 (checkV c n)) ∧ Below w.heap.size w w' := by
  rcases (show (c ≤ 1) ∨ (1 < c) by first | omega | (cases True <;> simp)) with c0 | c0
  rotate_left
  · have hv := Lib.hid (show checkV c n = 0 from if_neg (by simp; try omega))
    go_enter Try.func38, Try.ntmps38
    go_wp2_with (first | (go_at_call 64; refine (is_any _ _ (by omega) (by omega)).mono ?_; rintro e w1 ⟨rfl, rfl⟩) | (go_at_call 66; refine (refis_any _ _ (by omega) (by omega)).mono ?_; rintro e w1 ⟨rfl, hb⟩) | (go_at_call 65; refine (within_any _ _ _).mono ?_; rintro e w1 ⟨rfl, rfl⟩) | (go_at_call 63; refine (partIf_any _ _ _ _).mono ?_; rintro e w1 ⟨rfl, hb⟩) | (go_at_call 27; refine (refpart_any _ _ _).mono ?_; rintro e w2 ⟨rfl, rfl⟩))
    go_returns
    exact ⟨ret_int hv.out.symm, by first | exact hb | exact Below.refl _ _⟩
  rcases (show (0 < n) ∨ (n ≤ 0) by first | omega | (cases True <;> simp)) with c1 | c1
  rotate_left
  · have hv := Lib.hid (show checkV c n = 0 from if_neg (by simp; try omega))
    go_enter Try.func38, Try.ntmps38
    go_wp2_with (first | (go_at_call 64; refine (is_any _ _ (by omega) (by omega)).mono ?_; rintro e w1 ⟨rfl, rfl⟩) | (go_at_call 66; refine (refis_any _ _ (by omega) (by omega)).mono ?_; rintro e w1 ⟨rfl, hb⟩) | (go_at_call 65; refine (within_any _ _ _).mono ?_; rintro e w1 ⟨rfl, rfl⟩) | (go_at_call 63; refine (partIf_any _ _ _ _).mono ?_; rintro e w1 ⟨rfl, hb⟩) | (go_at_call 27; refine (refpart_any _ _ _).mono ?_; rintro e w2 ⟨rfl, rfl⟩))
    go_returns
    exact ⟨ret_int hv.out.symm, by first | exact hb | exact Below.refl _ _⟩
  have hv := Lib.hid (show checkV c n = partV 6 (256 * c + n) from if_pos (by simp; try omega))
  go_enter Try.func38, Try.ntmps38
  go_wp2_with (first | (go_at_call 64; refine (is_any _ _ (by omega) (by omega)).mono ?_; rintro e w1 ⟨rfl, rfl⟩) | (go_at_call 66; refine (refis_any _ _ (by omega) (by omega)).mono ?_; rintro e w1 ⟨rfl, hb⟩) | (go_at_call 65; refine (within_any _ _ _).mono ?_; rintro e w1 ⟨rfl, rfl⟩) | (go_at_call 63; refine (partIf_any _ _ _ _).mono ?_; rintro e w1 ⟨rfl, hb⟩) | (go_at_call 27; refine (refpart_any _ _ _).mono ?_; rintro e w2 ⟨rfl, rfl⟩))
  go_returns
  exact ⟨ret_int hv.out.symm, by first | exact hb | exact Below.refl _ _⟩
set_option maxHeartbeats 400000 in
theorem refcheck_any (c n : Int) (w : World) (hc0 : 0 ≤ c) (hc1 : c ≤ 255) (hn0 : 0 ≤ n) (hn1 : n ≤ 255) :
    Calls Try.prog 39 #[.int .u8 c, .int .u8 n] w fun e w' => e = .returned (.int .u64 (checkV c n)) ∧ Below w.heap.size w w' := by
  rcases (show (c ≤ 1) ∨ (1 < c) by first | omega | (cases True <;> simp)) with c0 | c0
  rotate_left
  · have hv := Lib.hid (show checkV c n = 0 from if_neg (by simp; try omega))
    go_enter Try.func39, Try.ntmps39
    go_wp2_with (first | (go_at_call 64; refine (is_any _ _ (by omega) (by omega)).mono ?_; rintro e w1 ⟨rfl, rfl⟩) | (go_at_call 66; refine (refis_any _ _ (by omega) (by omega)).mono ?_; rintro e w1 ⟨rfl, hb⟩) | (go_at_call 65; refine (within_any _ _ _).mono ?_; rintro e w1 ⟨rfl, rfl⟩) | (go_at_call 63; refine (partIf_any _ _ _ _).mono ?_; rintro e w1 ⟨rfl, hb⟩) | (go_at_call 27; refine (refpart_any _ _ _).mono ?_; rintro e w2 ⟨rfl, rfl⟩))
    go_returns
    exact ⟨ret_int hv.out.symm, by first | exact hb | exact Below.refl _ _⟩
  rcases (show ((n == 0) = false) ∨ ((n == 0) = true) by first | omega | (cases (n == 0) <;> simp)) with c1 | c1
  rotate_left
  · have hv := Lib.hid (show checkV c n = 0 from if_neg (by have c9 := beq_iff_eq.1 c1; simp; try omega))
    go_enter Try.func39, Try.ntmps39
    go_wp2_with (first | (go_at_call 64; refine (is_any _ _ (by omega) (by omega)).mono ?_; rintro e w1 ⟨rfl, rfl⟩) | (go_at_call 66; refine (refis_any _ _ (by omega) (by omega)).mono ?_; rintro e w1 ⟨rfl, hb⟩) | (go_at_call 65; refine (within_any _ _ _).mono ?_; rintro e w1 ⟨rfl, rfl⟩) | (go_at_call 63; refine (partIf_any _ _ _ _).mono ?_; rintro e w1 ⟨rfl, hb⟩) | (go_at_call 27; refine (refpart_any _ _ _).mono ?_; rintro e w2 ⟨rfl, rfl⟩))
    go_returns
    exact ⟨ret_int hv.out.symm, by first | exact hb | exact Below.refl _ _⟩
  have hv := Lib.hid (show checkV c n = partV 6 (256 * c + n) from if_pos (by have c9 := beq_eq_false_iff_ne.1 c1; simp; try omega))
  go_enter Try.func39, Try.ntmps39
  go_wp2_with (first | (go_at_call 64; refine (is_any _ _ (by omega) (by omega)).mono ?_; rintro e w1 ⟨rfl, rfl⟩) | (go_at_call 66; refine (refis_any _ _ (by omega) (by omega)).mono ?_; rintro e w1 ⟨rfl, hb⟩) | (go_at_call 65; refine (within_any _ _ _).mono ?_; rintro e w1 ⟨rfl, rfl⟩) | (go_at_call 63; refine (partIf_any _ _ _ _).mono ?_; rintro e w1 ⟨rfl, hb⟩) | (go_at_call 27; refine (refpart_any _ _ _).mono ?_; rintro e w2 ⟨rfl, rfl⟩))
  go_returns
  exact ⟨ret_int hv.out.symm, by first | exact hb | exact Below.refl _ _⟩
end Go.Proofs.Ytldacinldgjdcaa
