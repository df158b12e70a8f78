/- The examples of the chapter 21, as the law asks them: all true. -/
import Derived.Test.YtldacinldgjdcaaRepA
import Derived.Test.YtldacinldgjdcaaGrpS
namespace Go.Proofs.Ytldacinldgjdcaa
open Go.RowKit Go.Maps
attribute [local go_sem ↓] lv37 zero37 sv37
attribute [local go_sem] run_lv37 run_zero37 run_sv37 rowFree_new rowFree_alloc setRow_new setRow_alloc aggAt_newb aggAt_old aggAt_drew aggAt_drewN posA_size oneCells_pos posA_set After.cell After.frozen After.agg add_block

def exL : List (Nat → Int) := [atC 1 0, atC 2 1, atC 1 2, atC 3 3, atC 2 4]
def exF : List (Nat → Int) := [atC 1 0, atC 1 1, atC 1 2, atC 1 3, atC 1 4]
theorem exL_ok : ∀ c ∈ exL, PosOk c := by
  intro c hc
  simp only [exL, List.mem_cons, List.not_mem_nil, or_false] at hc
  rcases hc with rfl | rfl | rfl | rfl | rfl <;> exact atC_ok _ _ (by omega) rfl
theorem exF_ok : ∀ c ∈ exF, PosOk c := by
  intro c hc
  simp only [exF, List.mem_cons, List.not_mem_nil, or_false] at hc
  rcases hc with rfl | rfl | rfl | rfl | rfl <;> exact atC_ok _ _ (by omega) rfl
theorem ex1 : firstsL (psOf exL) 5 = [0, 1, 0, 3, 1] := by decide +kernel
theorem ex2 : timesTo (psOf exL) 3 3 = 2 := by decide +kernel
theorem ex3 : timesTo (psOf exF) 3 3 = 3 := by decide +kernel
theorem ex4 : timesTo (psOf exF) 4 4 = 4 := by decide +kernel
theorem ex5 : timesTo (psOf exF) 5 5 = 5 := by decide +kernel
theorem ex0 (ps : Nat → Nat → Int) : timesTo ps 0 0 = 0 := rfl
/-- What was laid since w0, and stays while callees only add to memory. -/
structure Sta (w0 : World) (F : World → Prop) (w : World) : Prop where
  below : Below w0.heap.size w0 w
  fact : F w
  keep : ∀ u u', Below u.heap.size u u' → F u → F u'
theorem Sta.start (w0 : World) : Sta w0 (fun _ => True) w0 := ⟨Below.refl _ _, trivial, fun _ _ _ h => h⟩
theorem Sta.step {w0 : World} {F : World → Prop} {w w' : World} (h : Sta w0 F w) (hb : Below w.heap.size w w') : Sta w0 F w' := ⟨below_join h.below hb, h.keep _ _ hb h.fact, h.keep⟩
theorem Sta.also {w0 : World} {F : World → Prop} {w : World} (h : Sta w0 F w) {G : World → Prop} (hG : G w) (kG : ∀ u u', Below u.heap.size u u' → G u → G u') : Sta w0 (fun u => F u ∧ G u) w :=
  ⟨h.below, ⟨h.fact, hG⟩, fun u u' hb hf => ⟨h.keep u u' hb hf.1, kG u u' hb hf.2⟩⟩
theorem Sta.row {w0 : World} {F : World → Prop} {w : World} (h : Sta w0 F w) {A : Option Addr} {n : Nat} {ps : Nat → Nat → Int} (hp : PosRow w A n ps) : Sta w0 (fun u => F u ∧ PosRow u A n ps) w := h.also hp fun _ _ hb hu => hu.below hb
theorem Sta.cell {w0 : World} {F : World → Prop} {w : World} (h : Sta w0 F w) {g o : Nat} {v : Value} (hc : w.cell? ⟨g, o, none⟩ = some v) : Sta w0 (fun u => F u ∧ u.cell? ⟨g, o, none⟩ = some v) w :=
  h.also hc fun _ _ hb hu => (hb.cell (p := ⟨g, o, none⟩) (block_lt_of_cell hu)).trans hu
theorem ofV0 : ofV 0 = #[.int .u8 0, .int .u8 0] := rfl
theorem ofV4 : ofV 4 = #[.int .u8 0, .int .u8 0] := rfl
theorem ofV5 : ofV 5 = #[.int .u8 3, .int .u8 5] := rfl
attribute [local go_sem] ofV0 ofV4 ofV5 ex0 ex2 ex3 ex4 ex5
set_option maxRecDepth 100000 in
set_option maxHeartbeats 1000000 in
theorem awake21_any (w : World) :
    Calls Try.prog 61 #[] w fun e w' => e = .returned (.bool true) ∧ Below w.heap.size w w' := by
  have st := Sta.start w
  go_enter Try.func61, Try.ntmps61
  go_wp2_with (first | (with_reducible refine at_end ?_) | (go_at_call 74; refine (at_lit _ _ (by omega) (by omega) _).mono ?_; rintro e w1 ⟨rfl, hb⟩; replace st := st.step hb; clear hb) | ((with_reducible refine wpList_buildPs _ rfl exL 5 _ rfl ?_ ?_ ?_ ?_ exL_ok ?_); (· rfl); (· omega); (· omega); (· simp [Act.eval, exL]); intro w2 hl hb2 hz2; replace st := (st.step hb2).row hl; clear hl hb2 hz2) | ((with_reducible refine wpList_buildPs _ rfl exF 5 _ rfl ?_ ?_ ?_ ?_ exF_ok ?_); (· rfl); (· omega); (· omega); (· simp [Act.eval, exF]); intro w2 hl hb2 hz2; replace st := (st.step hb2).row hl; clear hl hb2 hz2) | (go_at_call 57; refine (groups_any _ 5 _ (psOf exL) _ st.fact.2 (by omega)).mono ?_; rintro e w3 ⟨out, rfl, hou, hb⟩; replace st := st.step hb; clear hb; rw [ex1] at hou; obtain ⟨vA, vc, rfl, hvb, hvc⟩ := ints_shape hou; obtain ⟨gb, rfl, _, _⟩ := hvb (by simp); replace st := ((st.cell (hvc gb 2 0 rfl rfl)).cell (hvc gb 3 3 rfl rfl)).cell (hvc gb 4 1 rfl rfl); clear hou hvb hvc) | (go_at_call 22; refine (times_any _ _ _ _ _ (by with_reducible first | exact PosRow.none _ (psOf exL) | exact st.fact.1.1.1.1.2.take 3 (by omega) | exact st.fact.2.take 3 (by omega)) (by omega)).mono ?_; rintro e w1 ⟨rfl, hb⟩; replace st := st.step hb; clear hb) | (go_at_call 25; refine (claim_any _ _ _ _ _ (by with_reducible first | exact PosRow.none _ (psOf exL) | exact st.fact.1.1.1.1.2.take 3 (by omega) | exact st.fact.2.take 3 (by omega)) (by omega)).mono ?_; rintro e w1 ⟨rfl, hb⟩; replace st := st.step hb; clear hb) | (go_at_call 23; refine (of_any _ _ _ _ _ (by with_reducible first | exact PosRow.none _ (psOf exL) | exact st.fact.2 | exact st.fact.2.take 4 (by omega)) (by omega)).mono ?_; rintro e w1 ⟨rfl, hb⟩; replace st := st.step hb; clear hb; have c2 := st.fact.1.1.1.2; have c3 := st.fact.1.1.2; have c4 := st.fact.1.2))
  unfold AtEnd
  go_returns
  exact ⟨rfl, st.below⟩
end Go.Proofs.Ytldacinldgjdcaa
