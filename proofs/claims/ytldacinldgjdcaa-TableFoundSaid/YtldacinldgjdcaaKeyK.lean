/- The walk of Key: the number that it tells is the xor of the numbers of all parts. -/
import Derived.Test.YtldacinldgjdcaaKeyB
namespace Go.Proofs.Ytldacinldgjdcaa
open Go.RowKit Go.Shelf
attribute [local go_sem] Oper.semAt_some
attribute [local go_sem ↓] lv37
attribute [local go_sem] run_lv37 aggAt_newb aggAt_old aggAt_drew aggAt_drewN posA_size

theorem partsf_any (c : Nat → Int) (w : World) :
    Calls Try.prog 68 #[.agg (posA c)] w fun e w' => e = .returned (.func (.func 78) #[] #[.pointer (some ⟨w.heap.size, 0, none⟩)]) ∧ w.alloc (.cells (posA c) 37) = w' := by
  go_enter Try.func68, Try.ntmps68
  go_wp2
  go_returns
  exact ⟨rfl, rfl⟩

/-- The state of Key's loop: the number so far in its box, the loop's record and the block of deferred calls; what lay before is as it was. -/
structure KJ (w : World) (rec : Loop) (acc : Int) (A : World) : Prop where
  below : Below w.heap.size w A
  x : A.heap[w.heap.size + 1]? = some (.cells #[.int .u64 acc] 29 (0, 0))
  d : A.heap[w.heap.size + 3]? = some (.deferred (some []))
  l : A.heap[w.heap.size + 4]? = some (.loop rec)
theorem KJ.stable {w : World} {rec : Loop} : Stable (w.heap.size + 5) (KJ w rec) := fun _ _ _ h hb =>
  ⟨h.below.trans (hb.mono (by omega)), (hb.block _ (by omega)).trans h.x, (hb.block _ (by omega)).trans h.d, (hb.block _ (by omega)).trans h.l⟩
theorem below_putObj {B : Nat} {a w : World} (h : Below B a w) (l : Nat) (o : Obj) (hl : B ≤ l) : Below B a (w.putObj l o) :=
  h.trans ⟨rfl, rfl, rfl, by simp [World.putObj], fun k hk => World.putObj_heap_other (by omega)⟩
theorem range_key {assign body : Code} {Q : Exit → Act → World → Prop} {a : Act} {w W2 : World} (c : Nat → Int) (hc : PosOk c) (hg : a.eval (.tmp 6) = .func (.func 78) #[] #[.pointer (some ⟨w.heap.size + 2, 0, none⟩)])
    (hsz : W2.heap.size = w.heap.size + 3) (hB : Below w.heap.size w W2) (hx : W2.heap[w.heap.size + 1]? = some (.cells #[.int .u64 0] 29 (0, 0))) (hp : InBlock W2 (w.heap.size + 2) c) (a₁ : Int → Act)
    (hassign : ∀ (l : Nat) (x : Int) (A : World) (K : Act → World → Prop), K (a₁ x) A → assign.wpIn (Fence.wide.inRound l) 7 Try.prog (Exit.then K (fun _ _ _ => False)) { tmps := ((#[7] : Array Tmp).zip #[.int .u64 x]).foldl (fun t (p, v) => t.setIfInBounds p v) a.tmps, defers := [] } A)
    (hbody : ∀ (l : Nat) (x acc : Int) (A : World), A.heap[w.heap.size + 1]? = some (.cells #[.int .u64 acc] 29 (0, 0)) → body.wpIn (Fence.wide.inRound l) 7 Try.prog (fun e _ B => e = .normal ∧ B = A.setCell ⟨w.heap.size + 1, 0, none⟩ (.int .u64 (xr acc x))) (a₁ x) A)
    (hdone : ∀ (A : World) (D : Nat), Below w.heap.size w A → A.heap[w.heap.size + 1]? = some (.cells #[.int .u64 (keyV c)] 29 (0, 0)) → A.heap[D]? = some (.deferred (some [])) → w.heap.size + 2 ≤ D → Q .normal { a with defers := { target := .collected D, args := #[] } :: a.defers } A) :
    (Code.rangeFunc (.tmp 6) #[7] assign body).wpIn Fence.wide 9 Try.prog Q a W2 := by
  refine wpIn_rangeFunc ?_
  intro fn hfn
  obtain ⟨rec, hrec⟩ : ∃ rec : LoopState → Option Code → Loop, rec = fun st pe => { state := st, pending := pe, fn, tmps := a.tmps, params := #[7], assign, body, defers := W2.heap.size } := ⟨_, rfl⟩
  obtain ⟨W1, hW1⟩ : ∃ W1, (W2.alloc (.deferred (some []))).alloc (.loop (rec .ready none)) = W1 := ⟨_, rfl⟩
  have hs1 : W1.heap.size = w.heap.size + 5 := by rw [← hW1]; simp [hsz]
  have hL1 : W1.heap[w.heap.size + 4]? = some (.loop (rec .ready none)) := by
    rw [← hW1, show w.heap.size + 4 = (W2.alloc (.deferred (some []))).heap.size by simp [hsz]]; exact World.alloc_heap_new _ _
  have hD1 : W1.heap[w.heap.size + 3]? = some (.deferred (some [])) := by
    rw [← hW1, Below.heap_alloc _ _ _ (by simp [hsz]), ← hsz]; exact World.alloc_heap_new _ _
  have hb1 : Below W2.heap.size W2 W1 := by rw [← hW1]; exact ((Below.refl _ _).alloc (Nat.le_refl _) _).alloc (by simp) _
  have hJ0 : KJ w (rec .ready none) 0 W1 := ⟨hB.trans (hb1.mono (by omega)), (hb1.block _ (by omega)).trans hx, hD1, hL1⟩
  refine ⟨W2.heap.size + 1, [{ target := .collected W2.heap.size, args := #[] }], W1, { target := .fn (.func 78) #[.pointer (some ⟨w.heap.size + 2, 0, none⟩)], args := #[.func (.yield (W2.heap.size + 1)) #[] #[]] }, W1, 78,
    #[.func (.yield (W2.heap.size + 1)) #[] #[]] ++ #[.pointer (some ⟨w.heap.size + 2, 0, none⟩)], W1, ?_, ?_, fun _ _ => trivial, ?_, fun _ => by omega, ?_⟩
  · rw [← hW1, hrec]; exact run_enterLoop_outer _ _ _ _ _
  · simp only [resolve, hg]
    simp [go_sem]
  · simp [invoke, go_sem]
  · refine (callsIn_wide.2 (parts_any 8 (W2.heap.size + 1) (w.heap.size + 2) c hc (KJ w (rec .ready none)) (by omega) W1 (by omega) (hp.below hb1 (by omega)) ?_ ?_ hJ0)).mono ?_
    · rw [hs1, hsz]
      intro acc x A hK hR
      have hy := run_yield (P := Try.prog) (args := #[.int .u64 x]) hK.l (by rw [hrec]; rfl)
      rw [hrec] at hy
      refine ⟨fn, _, assign, body, hy, roundIn_of_wpIn trivial ?_⟩
      refine hassign _ x A _ ?_
      refine ⟨_, run_beginRound hK.l (by rw [hrec]), ?_⟩
      have hlt : w.heap.size + 4 < A.heap.size := (Array.getElem?_eq_some_iff.1 hK.l).1
      have hx2 : (A.putObj (w.heap.size + 4) (.loop { rec .ready none with state := .busy })).heap[w.heap.size + 1]? = some (.cells #[.int .u64 acc] 29 (0, 0)) := (World.putObj_heap_other (by omega)).trans hK.x
      refine wpIn_mono (hbody _ x acc _ hx2) ?_
      rintro e a3 B ⟨rfl, rfl⟩
      have hl3 : ((A.putObj (w.heap.size + 4) (.loop { rec .ready none with state := .busy })).setCell ⟨w.heap.size + 1, 0, none⟩ (.int .u64 (xr acc x))).heap[w.heap.size + 4]? = some (.loop { rec .ready none with state := .busy }) :=
        (heap_setCell_other _ _ _ _ (by simp)).trans (World.putObj_heap_same hlt)
      have hend := run_endRound (P := Try.prog) none hl3
      refine ⟨_, _, hend, rfl, ⟨?_, ?_, ?_, ?_⟩, ⟨?_, ?_⟩⟩
      · exact below_putObj ((below_putObj hK.below _ _ (by omega)).setCell (p := ⟨w.heap.size + 1, 0, none⟩) (by simp) _) _ _ (by omega)
      · rw [World.putObj_heap_other (by omega)]
        exact heap_setCell_same _ (w.heap.size + 1) 0 #[.int .u64 acc] 29 _ hx2
      · rw [World.putObj_heap_other (by omega), heap_setCell_other _ _ _ _ (by simp), World.putObj_heap_other (by omega)]
        exact hK.d
      · rw [World.putObj_heap_same (by simp [World.setCell, World.putObj]; omega), hrec]
        rfl
      · rw [World.putObj_heap_other (by omega), heap_setCell_other _ _ _ _ (by simp), World.putObj_heap_other (by omega)]
      · intro k hk1 hk2
        rw [World.putObj_heap_other (by omega), heap_setCell_other _ _ _ _ (by simp; omega), World.putObj_heap_other (by omega)]
    · rw [hs1]
      exact KJ.stable
    · rintro e W3 ⟨⟨v, rfl⟩, hJ⟩
      have hend := run_endLoop (P := Try.prog) hJ.l (by rw [hrec]; simp)
      have hp0 : (rec .ready none).pending = none := by rw [hrec]
      rw [hp0] at hend
      generalize hX : W3.putObj (w.heap.size + 4) _ = X at hend
      refine ⟨none, X, by rw [hsz]; exact hend, ?_⟩
      subst hX
      refine hdone _ W2.heap.size (below_putObj hJ.below _ _ (by omega)) ?_ ?_ (by omega)
      · rw [World.putObj_heap_other (by omega)]; exact hJ.x
      · rw [World.putObj_heap_other (by omega), hsz]; exact hJ.d
set_option maxRecDepth 100000 in
set_option maxHeartbeats 1000000 in
theorem key_any (c : Nat → Int) (hc : PosOk c) (w : World) :
    Calls Try.prog 42 #[.agg (posA c)] w fun e w' => e = .returned (.int .u64 (keyV c)) ∧ Below w.heap.size w w' := by
  refine (callsIn_wide (n := 9)).1 ?_
  refine callsIn_of_wp_marks Try.func42 rfl trivial ?_ rfl
  simp only [Try.ntmps42, List.size_toArray, List.length_cons, List.length_nil, Nat.reduceAdd, Nat.reduceSub, Array.replicate_succ, Array.replicate_zero, List.push_toArray, List.append_toArray, List.nil_append, List.cons_append]
  gi_wp2_with (refine ⟨trivial, ?_⟩; gi_at_call 68; refine (callsIn_wide.2 (partsf_any c _)).mono ?_; rintro e w' ⟨rfl, rfl⟩)
  have hsz : (((w.alloc (.cells (posA c) 37)).alloc (.cells #[.int .u64 0] 29)).alloc (.cells (posA c) 37)).heap.size = w.heap.size + 3 := by simp
  have hB : Below w.heap.size w (((w.alloc (.cells (posA c) 37)).alloc (.cells #[.int .u64 0] 29)).alloc (.cells (posA c) 37)) := by go_grown
  have hx : (((w.alloc (.cells (posA c) 37)).alloc (.cells #[.int .u64 0] 29)).alloc (.cells (posA c) 37)).heap[w.heap.size + 1]? = some (.cells #[.int .u64 0] 29 (0, 0)) := by
    rw [heap_alloc_old _ _ _ (by simp)]
    have := heap_alloc_new (w.alloc (.cells (posA c) 37)) (.cells #[.int .u64 0] 29)
    simpa using this
  have hp : InBlock (((w.alloc (.cells (posA c) 37)).alloc (.cells #[.int .u64 0] 29)).alloc (.cells (posA c) 37)) (w.heap.size + 2) c := by
    have := InBlock.new ((w.alloc (.cells (posA c) 37)).alloc (.cells #[.int .u64 0] 29)) c
    simpa using this
  refine range_key (w := w) c hc rfl hsz hB hx hp (fun x => { tmps := #[.agg (posA c), .pointer (some ⟨w.heap.size, 0, none⟩), .int .u64 0, .pointer (some ⟨w.heap.size + 1, 0, none⟩), .int .u64 x, .agg (posA c), .func (.func 78) #[] #[.pointer (some ⟨w.heap.size + 2, 0, none⟩)], .int .u64 x, undef, undef, undef, undef], defers := [] }) ?assign ?body ?done
  case assign =>
    intro l x A K hK
    gi_wp2
    exact hK
  case body =>
    intro l x acc A hA
    have c1 : A.cell? ⟨w.heap.size + 1, 0, none⟩ = some (.int .u64 acc) := by rw [cell_of_row _ _ _ _ _ _ hA]; rfl
    have c2 : A.frozen? ⟨w.heap.size + 1, 0, none⟩ = false := frozen_of_row _ _ _ _ _ hA
    gi_wp2
  case done =>
    intro A D hBA hA hD hle
    have c1 : A.cell? ⟨w.heap.size + 1, 0, none⟩ = some (.int .u64 (keyV c)) := by rw [cell_of_row _ _ _ _ _ _ hA]; rfl
    gi_wp2
    refine ⟨by simp, .inl ⟨_, _, rfl, run_takeDeferred hD, ?_⟩⟩
    exact ⟨_, results_tmp rfl _ _ _, rfl, below_putObj hBA _ _ (by omega)⟩
end Go.Proofs.Ytldacinldgjdcaa
