/- The walk of the reference of Key: it tells the same number. -/
import Derived.Test.YtldacinldgjdcaaKeyK
namespace Go.Proofs.Ytldacinldgjdcaa
open Go.RowKit
attribute [local go_sem ↓] lv37
attribute [local go_sem] run_lv37 aggAt_newb aggAt_old aggAt_drew aggAt_drewN posA_size After.cell After.frozen After.agg

def refL0 (c : Nat → Int) : List Int := [turnV (c 78), passV (c 83), promV (c 65), partV 8 (c 0)]
theorem xs4 (a b c d : Int) (h : R64 a) : xr (xr (xr a b) c) d = xs [a, b, c, d] := by
  show _ = xr (xr (xr (xr 0 a) b) c) d
  rw [zero_xr a h]
theorem refL0_eq (c : Nat → Int) : xr (xr (xr (turnV (c 78)) (passV (c 83))) (promV (c 65))) (partV 8 (c 0)) = xs (refL0 c) := xs4 _ _ _ _ (R64_turn _)
theorem ref_key (c : Nat → Int) : xs (refL0 c ++ boardL c 64 ++ colsL c 2) = keyV c := by
  refine xs_perm ?_
  simp only [partsL, headL, refL0, List.cons_append, List.nil_append, List.append_assoc]
  have h1 : (turnV (c 78) :: passV (c 83) :: promV (c 65) :: partV 8 (c 0) :: (boardL c 64 ++ colsL c 2)).Perm ((boardL c 64 ++ colsL c 2) ++ [turnV (c 78), passV (c 83), promV (c 65), partV 8 (c 0)]) := by
    have := List.perm_append_comm (l₁ := [turnV (c 78), passV (c 83), promV (c 65), partV 8 (c 0)]) (l₂ := boardL c 64 ++ colsL c 2)
    simpa using this
  refine h1.trans ?_
  rw [List.append_assoc]
  refine List.Perm.append_left _ ?_
  have h2 : (colsL c 2 ++ [turnV (c 78), passV (c 83)]).Perm ([turnV (c 78), passV (c 83)] ++ colsL c 2) := List.perm_append_comm
  have h3 := h2.append_right [promV (c 65), partV 8 (c 0)]
  simpa using h3
/-! What the reference has got together, step by step. -/
def x1 (c : Nat → Int) (k : Nat) : Int := xs (refL0 c ++ boardL c k)
def x2 (c : Nat → Int) (q : Nat) : Int := xs (refL0 c ++ boardL c 64 ++ colsL c q)
def x3 (c : Nat → Int) (q d : Nat) : Int := xs (refL0 c ++ boardL c 64 ++ colsL c q ++ rooksL c q d)
def x4 (c : Nat → Int) (q j : Nat) : Int := xs (refL0 c ++ boardL c 64 ++ colsL c q ++ rooksL c q 2 ++ pocksL c q j)
theorem x1_0 (c : Nat → Int) : xs (refL0 c) = x1 c 0 := by simp [x1, boardL]
theorem x1_s (c : Nat → Int) (k : Nat) : xr (x1 c k) (pieceV (c (1 + k)) k) = x1 c (k + 1) := by unfold x1; rw [← xs_snoc, boardL_succ, List.append_assoc]
theorem x2_0 (c : Nat → Int) : x1 c 64 = x2 c 0 := by simp [x1, x2, colsL]
theorem x3_0 (c : Nat → Int) (q : Nat) : x2 c q = x3 c q 0 := by simp [x2, x3, rooksL]
theorem x3_s (c : Nat → Int) (q d : Nat) : xr (x3 c q d) (rookV q d (c (79 + q * 2 + d))) = x3 c q (d + 1) := by 
  unfold x3; rw [← xs_snoc, rooksL_succ]; simp only [List.append_assoc]
theorem x4_0 (c : Nat → Int) (q : Nat) : x3 c q 2 = x4 c q 0 := by simp [x3, x4, pocksL]
theorem x4_s (c : Nat → Int) (q j : Nat) : xr (x4 c q j) (pockV q j (c (66 + q * 6 + j))) = x4 c q (j + 1) := by
  unfold x4; rw [← xs_snoc, pocksL_succ]; simp only [List.append_assoc]
theorem x2_s (c : Nat → Int) (q : Nat) : xr (x4 c q 6) (checkV q (c (84 + q))) = x2 c (q + 1) := by
  unfold x2 x4; rw [← xs_snoc, colsL_succ]; simp only [List.append_assoc]
theorem x2_e (c : Nat → Int) : x2 c 2 = keyV c := ref_key c
set_option maxRecDepth 100000 in
set_option maxHeartbeats 4000000 in
theorem refkey_any (c : Nat → Int) (hc : PosOk c) (w : World) :
    Calls Try.prog 43 #[.agg (posA c)] w fun e w' => e = .returned (.int .u64 (keyV c)) ∧ Below w.heap.size w w' := by
  have HC := Lib.hid hc
  have HR := Lib.hid (refL0_eq c)
  obtain ⟨a1, a2⟩ := ok_u8 hc 78 (by omega) rfl
  obtain ⟨a3, a4⟩ := ok_i8 hc 83 (by omega) rfl
  obtain ⟨a5, a6⟩ := ok_u8 hc 0 (by omega) rfl
  have a7 := ok_u64 hc 65 (by omega) rfl
  clear hc
  go_enter Try.func43, Try.ntmps43
  go_wp2_with (with_reducible refine at_end ?_)
  have hI := InBlock.new w c
  have hB0 : Below w.heap.size w (w.alloc (.cells (posA c) 37)) := by go_grown
  have hZ : (w.alloc (.cells (posA c) 37)).heap.size = w.heap.size + 1 := by simp
  generalize w.alloc (.cells (posA c) 37) = W0 at hI hB0 hZ ⊢
  have HZ := Lib.hid hZ
  have hlt0 : w.heap.size < W0.heap.size := by omega
  clear hZ
  have z1 := hI.at_ 78 .u8 (by omega) rfl
  have z2 := hI.at_ 83 .i8 (by omega) rfl
  have z3 := hI.at_ 65 .u64 (by omega) rfl
  have z4 := hI.at_ 0 .u8 (by omega) rfl
  have q1 : IntKind.i64.wrap (c 83) = c 83 := IntWalk.i64_in _ (by omega)
  have q2 : IntKind.i64.wrap (c 0) = c 0 := IntWalk.i64_in _ (by omega)
  refine wp_region_after (by kernel_rfl) (by kernel_rfl) ?_
  repeat (refine wpQuiet_step (fun K hK => ?_); go_simp; first | (refine hK _ ?_; clear hK K) | (apply Exists.intro; refine ⟨fun p => ?_, hK _ ?_⟩; (first | (go_at_call 31; exact After.call p (refturn_any _ _ a1 a2)) | (go_at_call 33; exact After.call p (refpass_any _ _)) | (go_at_call 41; exact After.call p (refprom_any _ _ a7)) | (go_at_call 27; exact After.call_same p (refpart_any _ _ _))); clear hK K))
  refine wpQuiet_nil ?_
  intro w1 hb1
  clear q1 q2 z1 z2 z3 z4
  go_wp2_with (with_reducible refine at_end ?_)
  go_loopw [3, 4] (fun x i wr => ∃ k : Nat, k ≤ 64 ∧ i = .int .i64 k ∧ x = .int .u64 (x1 c k) ∧ Below W0.heap.size W0 wr) (fun _ i _ => 64 - (intOf i).toNat)
  case atStart => exact ⟨0, by omega, rfl, congrArg (Value.int .u64) (HR.out.trans (x1_0 c)), hb1⟩
  case round =>
    obtain ⟨k, hk, rfl, rfl, hbw⟩ := hrel
    have hJ := hI.below hbw hlt0
    by_cases hlt : k < 64
    · have e1 := hJ.at_ (1 + k) .u8 (by omega) (kind_u8 _ (by omega))
      obtain ⟨b1, b2⟩ := ok_u8 HC.out (1 + k) (by omega) (kind_u8 _ (by omega))
      go_wp2_with (first | (with_reducible refine at_end ?_) | (go_at_call 29; refine (refpiece_any _ _ _ b1 b2).mono ?_; rintro e w2 ⟨rfl, hb2⟩))
      go_roundw
      case rel => exact ⟨k + 1, by omega, by go_num, congrArg (Value.int .u64) (x1_s c k), below_join hbw hb2⟩
      case measure => simp [intOf]; omega
    · have hkk : decide ((k : Int) < 64) = false := by simp; omega
      have hX := Lib.hid (show x1 c k = x2 c 0 by rw [show k = 64 by omega]; exact x2_0 c)
      go_wp2_with (with_reducible refine at_end ?_)
      go_loopw [3, 5, 6, 7] (fun x t _ _ wr => ∃ q : Nat, q ≤ 2 ∧ t = .int .i64 q ∧ x = .int .u64 (x2 c q) ∧ Below W0.heap.size W0 wr) (fun _ t _ _ _ => 2 - (intOf t).toNat)
      case atStart => exact ⟨0, by omega, rfl, congrArg (Value.int .u64) hX.out, hbw⟩
      case round =>
        clear hbw hJ hX
        obtain ⟨q, hq, rfl, rfl, hbw⟩ := hrel
        have hJ := hI.below hbw hlt0
        by_cases hq2 : q < 2
        · have hqd : decide ((q : Int) < 2) = true := by simp; omega
          have q0 : (0 : Int) ≤ (q : Int) := by omega
          have q1 : (q : Int) ≤ 255 := by omega
          have hX := Lib.hid (x3_0 c q)
          go_wp2_with (with_reducible refine at_end ?_)
          go_loopw [3, 6] (fun x i wr => ∃ d : Nat, d ≤ 2 ∧ i = .int .i64 d ∧ x = .int .u64 (x3 c q d) ∧ Below W0.heap.size W0 wr) (fun _ i _ => 2 - (intOf i).toNat)
          case atStart => exact ⟨0, by omega, rfl, congrArg (Value.int .u64) hX.out, hbw⟩
          case round =>
            clear hbw hJ hX
            obtain ⟨d, hd, rfl, rfl, hbw⟩ := hrel
            have hJ := hI.below hbw hlt0
            by_cases hd2 : d < 2
            · have e1 := hJ.at_ (79 + q * 2 + d) .i8 (by omega) (kind_i8 _ (by omega))
              obtain ⟨b1, b2⟩ := ok_i8 HC.out (79 + q * 2 + d) (by omega) (kind_i8 _ (by omega))
              go_wp2_with (first | (with_reducible refine at_end ?_) | (go_at_call 35; refine (refrook_any _ _ _ _ q0 q1).mono ?_; rintro e w2 ⟨rfl, hb2⟩))
              go_roundw
              case rel => exact ⟨d + 1, by omega, by go_num, congrArg (Value.int .u64) (x3_s c q d), below_join hbw hb2⟩
              case measure => simp [intOf]; omega
            · have hdd : decide ((d : Int) < 2) = false := by simp; omega
              have hX := Lib.hid (show x3 c q d = x4 c q 0 by rw [show d = 2 by omega]; exact x4_0 c q)
              go_wp2_with (with_reducible refine at_end ?_)
              go_loopw [3, 7] (fun x i wr => ∃ j : Nat, j ≤ 6 ∧ i = .int .i64 j ∧ x = .int .u64 (x4 c q j) ∧ Below W0.heap.size W0 wr) (fun _ i _ => 6 - (intOf i).toNat)
              case atStart => exact ⟨0, by omega, rfl, congrArg (Value.int .u64) hX.out, hbw⟩
              case round =>
                clear hbw hJ hX
                obtain ⟨j, hj, rfl, rfl, hbw⟩ := hrel
                have hJ := hI.below hbw hlt0
                by_cases hj6 : j < 6
                · have e1 := hJ.at_ (66 + q * 6 + j) .u8 (by omega) (kind_u8 _ (by omega))
                  obtain ⟨b1, b2⟩ := ok_u8 HC.out (66 + q * 6 + j) (by omega) (kind_u8 _ (by omega))
                  have j0 : (0 : Int) ≤ (j : Int) := by omega
                  have j1 : (j : Int) ≤ 255 := by omega
                  go_wp2_with (first | (with_reducible refine at_end ?_) | (go_at_call 37; refine (refpock_any _ _ _ _ q0 q1 j0 j1 b1 b2).mono ?_; rintro e w2 ⟨rfl, hb2⟩))
                  go_roundw
                  case rel => exact ⟨j + 1, by omega, by go_num, congrArg (Value.int .u64) (x4_s c q j), below_join hbw hb2⟩
                  case measure => simp [intOf]; omega
                · have hX := Lib.hid (show xr (x4 c q j) (checkV q (c (84 + q))) = x2 c (q + 1) by rw [show j = 6 by omega]; exact x2_s c q)
                  have e1 := hJ.at_ (84 + q) .u8 (by omega) (kind_u8 _ (by omega))
                  obtain ⟨b1, b2⟩ := ok_u8 HC.out (84 + q) (by omega) (kind_u8 _ (by omega))
                  go_wp2_with (first | (with_reducible refine at_end ?_) | (go_at_call 39; refine (refcheck_any _ _ _ q0 q1 b1 b2).mono ?_; rintro e w2 ⟨rfl, hb2⟩))
                  go_roundw
                  case rel => exact ⟨q + 1, by omega, by go_num, congrArg (Value.int .u64) hX.out, below_join hbw hb2⟩
                  case measure => simp [intOf]; omega
        · have hX := Lib.hid (show x2 c q = keyV c by rw [show q = 2 by omega]; exact x2_e c)
          go_wp2_with (with_reducible refine at_end ?_)
          unfold AtEnd
          go_returns
          exact ⟨ret_int hX.out, hB0.trans (hbw.mono (by rw [HZ.out]; omega))⟩
end Go.Proofs.Ytldacinldgjdcaa
