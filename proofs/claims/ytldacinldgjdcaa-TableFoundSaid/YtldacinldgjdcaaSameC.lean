/- The walk of the reference of Same; what is known of a position in a block. -/
import Derived.Test.YtldacinldgjdcaaSameA
namespace Go.Proofs.Ytldacinldgjdcaa
open Go.RowKit
attribute [local go_sem ↓] lv37 zero37 sv37 lv31 lv34 lv35
attribute [local go_sem] run_lv37 run_zero37 run_sv37 run_lv31 run_lv34 run_lv35 rowFree_new rowFree_alloc setRow_new setRow_alloc aggAt_newb aggAt_old aggAt_drew aggAt_drewN posA_size oneCells_pos posA_set kindAt After.cell After.frozen After.agg
attribute [local go_sem high] run_eql37 run_neq37 run_eql31 run_eql34 run_eql35
def refB (a b : Nat → Int) : Bool := eqSeg a b 1 64 && (a 0 == b 0) && (a 65 == b 65) && eqSeg a b 66 12 && (a 78 == b 78) && eqSeg a b 79 4 && (a 83 == b 83) && eqSeg a b 84 2
theorem refB_eq (a b : Nat → Int) : refB a b = sameB a b := by
  rw [Bool.eq_iff_iff]
  simp only [refB, sameB, Bool.and_eq_true, eqSeg_iff, beq_iff_eq, Nat.zero_add]
  constructor
  · rintro ⟨⟨⟨⟨⟨⟨⟨h1, h0⟩, h65⟩, h66⟩, h78⟩, h79⟩, h83⟩, h84⟩ i hi
    by_cases e0 : i = 0
    · subst e0; exact h0
    · by_cases e1 : i ≤ 64
      · have := h1 (i - 1) (by omega); rwa [show 1 + (i - 1) = i by omega] at this
      · by_cases e2 : i = 65
        · subst e2; exact h65
        · by_cases e3 : i ≤ 77
          · have := h66 (i - 66) (by omega); rwa [show 66 + (i - 66) = i by omega] at this
          · by_cases e4 : i = 78
            · subst e4; exact h78
            · by_cases e5 : i ≤ 82
              · have := h79 (i - 79) (by omega); rwa [show 79 + (i - 79) = i by omega] at this
              · by_cases e6 : i = 83
                · subst e6; exact h83
                · have := h84 (i - 84) (by omega); rwa [show 84 + (i - 84) = i by omega] at this
  · intro h
    exact ⟨⟨⟨⟨⟨⟨⟨fun i hi => h _ (by omega), h 0 (by omega)⟩, h 65 (by omega)⟩, fun i hi => h _ (by omega)⟩, h 78 (by omega)⟩, fun i hi => h _ (by omega)⟩, h 83 (by omega)⟩, fun i hi => h _ (by omega)⟩
theorem aggAt_seg {w : World} {g off n : Nat} {c : Nat → Int} (hn : off + n ≤ 88) (h : ∀ o, w.cell? ⟨g, o, none⟩ = (posA c)[o]?) : aggAt w ⟨g, off, none⟩ n = some (segA c off n) := by
  refine aggAt_of (segA_size _ _ _) fun i hi => ?_
  have e : (⟨g, off, none⟩ : Addr).add i = ⟨g, off + i, none⟩ := by unfold Addr.add; split <;> simp_all
  rw [e, h, segA_get _ _ _ _ hi, posA_get _ _ (by omega)]
/-- What is known of a position in a block. -/
structure InBlock (w : World) (g : Nat) (c : Nat → Int) : Prop where
  cell : ∀ o, w.cell? ⟨g, o, none⟩ = (posA c)[o]?
theorem InBlock.new (w : World) (c : Nat → Int) : InBlock (w.alloc (.cells (posA c) 37)) w.heap.size c := ⟨fun _ => cell_of_row _ _ _ _ _ _ (heap_alloc_new w _)⟩
theorem InBlock.below {w w' : World} {B g : Nat} {c : Nat → Int} (h : InBlock w g c) (hb : Below B w w') (hg : g < B) : InBlock w' g c := ⟨fun o => (hb.cell (p := ⟨g, o, none⟩) hg).trans (h.cell o)⟩
theorem InBlock.alloc {w : World} {g : Nat} {c : Nat → Int} (h : InBlock w g c) (o : Obj) (hg : g < w.heap.size) : InBlock (w.alloc o) g c := ⟨fun i => (World.cell?_alloc_lt w o ⟨g, i, none⟩ hg).trans (h.cell i)⟩
theorem InBlock.at_ {w : World} {g : Nat} {c : Nat → Int} (h : InBlock w g c) (i : Nat) (k : IntKind) (hi : i < 88) (hk : kindAt i = k) : w.cell? ⟨g, i, none⟩ = some (.int k (c i)) := by rw [h.cell, posA_get _ _ hi, hk]
set_option maxRecDepth 100000 in
set_option maxHeartbeats 1000000 in
theorem refsame_any (a b : Nat → Int) (w : World) (ha : PosOk a) (hb : PosOk b) :
    Calls Try.prog 60 #[.agg (posA a), .agg (posA b)] w fun e w' => e = .returned (.bool (sameB a b)) ∧ Below w.heap.size w w' := by
  have HR := Lib.hid (refB_eq a b)
  have a31 := ha.seg 66 12 (by omega)
  have b31 := hb.seg 66 12 (by omega)
  have a34 := ha.seg 79 4 (by omega)
  have b34 := hb.seg 79 4 (by omega)
  have a35 := ha.seg 84 2 (by omega)
  have b35 := hb.seg 84 2 (by omega)
  clear ha hb
  go_enter Try.func60, Try.ntmps60
  go_wp2_with (with_reducible refine at_end ?_)
  have hI1 : InBlock ((w.alloc (.cells (posA a) 37)).alloc (.cells (posA b) 37)) w.heap.size a := (InBlock.new w a).alloc _ (by simp)
  have hI2 : InBlock ((w.alloc (.cells (posA a) 37)).alloc (.cells (posA b) 37)) (w.heap.size + 1) b := by have := InBlock.new (w.alloc (.cells (posA a) 37)) b; simpa using this
  have hB0 : Below w.heap.size w ((w.alloc (.cells (posA a) 37)).alloc (.cells (posA b) 37)) := by go_grown
  have hZ : ((w.alloc (.cells (posA a) 37)).alloc (.cells (posA b) 37)).heap.size = w.heap.size + 2 := by simp
  generalize (w.alloc (.cells (posA a) 37)).alloc (.cells (posA b) 37) = W0 at hI1 hI2 hB0 hZ ⊢
  have HZ := Lib.hid hZ
  clear hZ
  go_loopw [5] (fun i wr => ∃ k : Nat, k ≤ 64 ∧ i = .int .i64 k ∧ (∀ j, j < k → a (1 + j) = b (1 + j)) ∧ Below W0.heap.size W0 wr) (fun i _ => 64 - (intOf i).toNat)
  case atStart => exact ⟨0, by omega, rfl, fun j hj => absurd hj (by omega), Below.refl _ _⟩
  case round =>
    obtain ⟨k, hk, rfl, heq, hbw⟩ := hrel
    have HE := Lib.hid heq
    clear heq
    have hJ1 := hI1.below hbw (by rw [HZ.out]; omega)
    have hJ2 := hI2.below hbw (by rw [HZ.out]; omega)
    have hc1 := hJ1.cell
    have hc2 := hJ2.cell
    by_cases hlt : k < 64
    · have p1 : (posA a)[1 + k]? = some (.int .u8 (a (1 + k))) := by rw [posA_get _ _ (by omega), kind_u8 _ (by omega)]
      have p2 : (posA b)[1 + k]? = some (.int .u8 (b (1 + k))) := by rw [posA_get _ _ (by omega), kind_u8 _ (by omega)]
      by_cases he : a (1 + k) = b (1 + k)
      · have hne : (a (1 + k) != b (1 + k)) = false := by simp [he]
        have HH := Lib.hid he
        clear he
        go_wp2_with (with_reducible refine at_end ?_)
        go_quiet (fail)
        go_wp2_with (with_reducible refine at_end ?_)
        go_roundw
        case rel => exact ⟨k + 1, by omega, by go_num, (fun j hj => by
          by_cases e : j = k
          · rw [e]; exact HH.out
          · exact HE.out j (by omega)), below_dN hbw _⟩
        case measure => simp [intOf]; omega
      · have hne : (a (1 + k) != b (1 + k)) = true := by simp [he]
        have hF := Lib.hid (show sameB a b = false by
          rw [← HR.out]
          have : eqSeg a b 1 64 = false := by
            rw [Bool.eq_false_iff]
            intro h
            exact he (eqSeg_iff.1 h k hlt)
          simp [refB, this])
        clear he
        go_wp2_with (with_reducible refine at_end ?_)
        go_quiet (fail)
        go_wp2_with (with_reducible refine at_end ?_)
        unfold AtEnd
        go_returns
        exact ⟨ret_bool hF.out.symm, below_dN (hB0.trans (hbw.mono (by rw [HZ.out]; omega))) _⟩
    · obtain rfl : k = 64 := by omega
      have h64 := Lib.hid (show eqSeg a b 1 64 = true from eqSeg_iff.2 HE.out)
      have g1 := aggAt_seg (c := a) (off := 66) (n := 12) (by omega) hc1
      have g2 := aggAt_seg (c := a) (off := 79) (n := 4) (by omega) hc1
      have g3 := aggAt_seg (c := a) (off := 84) (n := 2) (by omega) hc1
      have g4 := aggAt_seg (c := b) (off := 66) (n := 12) (by omega) hc2
      have g5 := aggAt_seg (c := b) (off := 79) (n := 4) (by omega) hc2
      have g6 := aggAt_seg (c := b) (off := 84) (n := 2) (by omega) hc2
      have z1 := hJ1.at_ 0 .u8 (by omega) rfl
      have z2 := hJ2.at_ 0 .u8 (by omega) rfl
      have z3 := hJ1.at_ 65 .u64 (by omega) rfl
      have z4 := hJ2.at_ 65 .u64 (by omega) rfl
      have z5 := hJ1.at_ 78 .u8 (by omega) rfl
      have z6 := hJ2.at_ 78 .u8 (by omega) rfl
      have z7 := hJ1.at_ 83 .i8 (by omega) rfl
      have z8 := hJ2.at_ 83 .i8 (by omega) rfl
      clear hc1 hc2
      go_wp2_with (with_reducible refine at_end ?_)
      all_goals
        unfold AtEnd
        go_returns
        refine ⟨ret_bool ?_, hB0.trans (hbw.mono (by rw [HZ.out]; omega))⟩
        rw [← HR.out]
        unfold refB
        rw [h64.out]
        simp [*]
end Go.Proofs.Ytldacinldgjdcaa
