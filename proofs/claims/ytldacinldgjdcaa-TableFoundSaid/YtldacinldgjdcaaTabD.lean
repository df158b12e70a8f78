/- The walk of the law TableDeeper: it returns true; of what was in memory nothing turns. -/
import Derived.Test.YtldacinldgjdcaaTabV
namespace Go.Proofs.Ytldacinldgjdcaa
open Go.RowKit Go.Maps
attribute [local go_sem] entA_ne slotA_ne
attribute [local go_sem ↓] lv37 zero37 sv37 lv61 zero61 sv61
attribute [local go_sem] run_lv37 run_zero37 run_sv37 run_lv61 run_sv61 run_zeroEnt rowFree_new rowFree_alloc setRow_new setRow_alloc aggAt_newb aggAt_old aggAt_drew aggAt_drewN posA_size oneCells_pos entA_size oneCells_ent After.cell After.frozen After.agg add_block run_b0
attribute [local go_sem high] run_eql61 run_neq61

theorem put_is {w : World} {tb bm sz : Nat} {f f' : Tab} {c : Nat → Int} {e : Ent} {b : Bool} (st : TabSt w tb bm sz f) (hc : PosOk c) (he : EntOk e) (hB : putB f sz c e = b) (hT : putT f sz c e = f') :
    Calls Try.prog 47 #[.pointer (some ⟨tb, 0, none⟩), .agg (posA c), .agg (entA e)] w fun r w' => r = .returned (.bool b) ∧ TabSt w' tb bm sz f' ∧ w.grownBy w' (some bm) :=
  (put_any c e st hc he).mono fun _ _ ⟨h1, h2, h3, _⟩ => ⟨by rw [h1, hB], by rw [hT] at h2; exact h2, h3⟩
theorem get_is {w : World} {tb bm sz : Nat} {f : Tab} {c : Nat → Int} {e : Ent} {b : Bool} (st : TabSt w tb bm sz f) (hc : PosOk c) (hE : getE f sz c = e) (hB : getB f sz c = b) :
    Calls Try.prog 49 #[.pointer (some ⟨tb, 0, none⟩), .agg (posA c)] w fun r w' => r = .returned (.tuple #[.agg (entA e), .bool b]) ∧ Below w.heap.size w w' :=
  (get_any c st hc).mono fun _ _ ⟨h1, h2⟩ => ⟨by rw [h1, hE, hB], h2⟩
theorem may_iff (e : Ent) : mayB e = (decide (1 ≤ e.k) && decide (e.k ≤ 3) && decide (0 ≤ e.d)) := by
  unfold mayB
  rw [Bool.eq_iff_iff]
  simp
def oneT (x : Ent) (p : Nat → Int) : Tab := setT tabE 0 (x, p)
theorem putE_B (p : Nat → Int) (x : Ent) : putB tabE 1 p x = mayB x := by unfold putB; rw [idx1]; simp [tabE]
theorem putE_T {p : Nat → Int} {x : Ent} (h : mayB x = true) : putT tabE 1 p x = oneT x p := by rw [putT_yes (by rw [putE_B]; exact h), idx1]; rfl
theorem one_get (x : Ent) (p c : Nat → Int) : getB (oneT x p) 1 c = sameB p c := by unfold getB; rw [idx1]; simp [oneT, setT]
theorem one_getE (x : Ent) (p c : Nat → Int) : getE (oneT x p) 1 c = if sameB p c then x else ent0 := by unfold getE; rw [idx1]; simp [oneT, setT]
theorem one_putB (x y : Ent) (p q : Nat → Int) : putB (oneT x p) 1 q y = (mayB y && !(decide (y.d < x.d) && !sameB p q)) := by unfold putB; rw [idx1]; simp [oneT, setT]
theorem one_putT {x y : Ent} {p q : Nat → Int} (h : putB (oneT x p) 1 q y = true) : putT (oneT x p) 1 q y = oneT y q := by
  rw [putT_yes h, idx1]
  funext j
  simp only [oneT, setT]
  split <;> rfl
theorem tabE_B (sz : Nat) (c : Nat → Int) : getB tabE sz c = false := rfl
theorem tabE_E (sz : Nat) (c : Nat → Int) : getE tabE sz c = ent0 := rfl
/-- The four boxes, and the table. -/
def Box4 (n : Nat) (p q : Nat → Int) (x y : Ent) (u : World) : Prop :=
  (aggAt u ⟨n, 0, none⟩ 88 = some (posA p) ∧ aggAt u ⟨n + 1, 0, none⟩ 88 = some (posA q)) ∧ (aggAt u ⟨n + 1 + 1, 0, none⟩ 8 = some (entA x) ∧ aggAt u ⟨n + 1 + 1 + 1, 0, none⟩ 8 = some (entA y)) ∧
  (u.cell? ⟨n + 1 + 1, 0, none⟩ = some (.int .i64 x.d) ∧ u.cell? ⟨n + 1 + 1 + 1, 0, none⟩ = some (.int .i64 y.d)) ∧ (u.cell? ⟨n + 1 + 1, 2, none⟩ = some (.int .u8 x.k) ∧ u.cell? ⟨n + 1 + 1 + 1, 2, none⟩ = some (.int .u8 y.k)) ∧ n + 1 + 1 + 1 < u.heap.size
theorem Box4.kept {n : Nat} {p q : Nat → Int} {x y : Ent} {u u' : World} {row : Nat} (h : Box4 n p q x y u) (hg : u.grownBy u' (some row)) (hr : n + 1 + 1 + 1 < row) : Box4 n p q x y u' := by
  obtain ⟨⟨h1, h2⟩, ⟨h3, h4⟩, ⟨h5, h6⟩, ⟨h7, h8⟩, h9⟩ := h
  exact ⟨⟨agg_grown hg h1 (by simp; omega), agg_grown hg h2 (by simp; omega)⟩, ⟨agg_grown hg h3 (by simp; omega), agg_grown hg h4 (by simp; omega)⟩, ⟨hg.cell h5 (by simp; omega), hg.cell h6 (by simp; omega)⟩, ⟨hg.cell h7 (by simp; omega), hg.cell h8 (by simp; omega)⟩, Nat.lt_of_lt_of_le h9 hg.size⟩
theorem Box4.start (w : World) (p q : Nat → Int) (x y : Ent) : Box4 w.heap.size p q x y ((((w.alloc (.cells (posA p) 37)).alloc (.cells (posA q) 37)).alloc (.cells (entA x) 61)).alloc (.cells (entA y) 61)) := by
  have h1 := heap_alloc_new w (.cells (posA p) 37)
  have h2 := heap_alloc_new (w.alloc (.cells (posA p) 37)) (.cells (posA q) 37)
  have h3 := heap_alloc_new ((w.alloc (.cells (posA p) 37)).alloc (.cells (posA q) 37)) (.cells (entA x) 61)
  have h4 := heap_alloc_new (((w.alloc (.cells (posA p) 37)).alloc (.cells (posA q) 37)).alloc (.cells (entA x) 61)) (.cells (entA y) 61)
  have e1 : (w.alloc (.cells (posA p) 37)).heap.size = w.heap.size + 1 := by simp
  have e2 : ((w.alloc (.cells (posA p) 37)).alloc (.cells (posA q) 37)).heap.size = w.heap.size + 1 + 1 := by simp
  have e3 : (((w.alloc (.cells (posA p) 37)).alloc (.cells (posA q) 37)).alloc (.cells (entA x) 61)).heap.size = w.heap.size + 1 + 1 + 1 := by simp
  rw [e1] at h2
  rw [e2] at h3
  rw [e3] at h4
  have g1 := (Below.heap_alloc _ (.cells (entA y) 61) w.heap.size (by omega)).trans ((Below.heap_alloc _ (.cells (entA x) 61) w.heap.size (by omega)).trans ((Below.heap_alloc _ (.cells (posA q) 37) w.heap.size (by omega)).trans h1))
  have g2 := (Below.heap_alloc _ (.cells (entA y) 61) (w.heap.size + 1) (by omega)).trans ((Below.heap_alloc _ (.cells (entA x) 61) (w.heap.size + 1) (by omega)).trans h2)
  have g3 := (Below.heap_alloc _ (.cells (entA y) 61) (w.heap.size + 1 + 1) (by omega)).trans h3
  have a1 := aggAt_row g1
  have a2 := aggAt_row g2
  rw [posA_size] at a1 a2
  exact ⟨⟨a1, a2⟩, ⟨(ent_cells g3).2.2, (ent_cells h4).2.2⟩, ⟨(ent_cells g3).1, (ent_cells h4).1⟩, ⟨(ent_cells g3).2.1, (ent_cells h4).2.1⟩, by simp⟩
set_option maxRecDepth 100000 in
set_option maxHeartbeats 16000000 in
theorem tableDeeper_walk (p q : Nat → Int) (x y : Ent) (w : World) (hp : PosOk p) (hq : PosOk q) (hx : EntOk x) (hy : EntOk y) :
    Calls Try.prog 15 #[.agg (posA p), .agg (posA q), .agg (entA x), .agg (entA y)] w fun e w' => e = .returned (.bool true) ∧ Below w.heap.size w w' := by
  have OP := Lib.hid hp
  have OQ := Lib.hid hq
  have OX := Lib.hid hx
  have OY := Lib.hid hy
  clear hp hq hx hy
  have b0 := Box4.start w p q x y
  have hb0 : Below w.heap.size w ((((w.alloc (.cells (posA p) 37)).alloc (.cells (posA q) 37)).alloc (.cells (entA x) 61)).alloc (.cells (entA y) 61)) := by go_grown
  go_enter Try.func15, Try.ntmps15
  go_upto_region 1 with (fail)
  generalize (((w.alloc (.cells (posA p) 37)).alloc (.cells (posA q) 37)).alloc (.cells (entA x) 61)).alloc (.cells (entA y) 61) = w1 at b0 hb0 ⊢
  have hn := b0.2.2.2.2
  go_upto_region 6 with (first | (go_at_call 55; refine (awake26_any _).mono ?_; rintro r w2 ⟨rfl, hb⟩; have hbw := below_join hb0 hb; have hz := hb.size; have b2 := b0.kept ((grown_of hb).but (some (w1.heap.size + 1))) (by omega); clear hb) | (go_at_call 44; refine (new_any (sz := 1) (by omega) (by omega) _).mono ?_; rintro r w3 ⟨tb, bm, rfl, ht, hb, htb, hbm⟩))
  have st : Stb w tb bm 1 tabE (Box4 w.heap.size p q x y) w3 := ⟨ht, below_join hbw hb, Nat.le_trans hbw.size hbm, b2.kept ((grown_of hb).but (some bm)) (by omega), fun u u' hg hu => hu.kept hg (by omega)⟩
  clear b0 hb0 hn hbw hz b2 ht hb htb hbm
  go_cut [11, 12] from 30 (fun s11 s12 wx => s11 = .bool (mayB x) ∧ s12 = .bool (mayB y) ∧ Stb w tb bm 1 tabE (Box4 w.heap.size p q x y) wx)
  case first =>
    obtain ⟨_, _, ⟨c1, c2⟩, ⟨c3, c4⟩, l4⟩ := st.fact
    have l3 : w.heap.size + 1 + 1 < w3.heap.size := by omega
    have HX := Lib.hid (may_iff x)
    have HY := Lib.hid (may_iff y)
    have H : ∀ e : Ent, (¬1 ≤ e.k) ∨ (1 ≤ e.k ∧ ¬e.k ≤ 3) ∨ (1 ≤ e.k ∧ e.k ≤ 3 ∧ ¬0 ≤ e.d) ∨ (1 ≤ e.k ∧ e.k ≤ 3 ∧ 0 ≤ e.d) := fun e => by omega
    rcases H x with h1 | ⟨h1, h2⟩ | ⟨h1, h2, h3⟩ | ⟨h1, h2, h3⟩
    all_goals
      have HX' := HX.out
      simp only [*, decide_true, decide_false, Bool.and_true, Bool.and_false, Bool.false_and] at HX'
      have KX := Lib.hid HX'
      clear HX'
      rcases H y with g1 | ⟨g1, g2⟩ | ⟨g1, g2, g3⟩ | ⟨g1, g2, g3⟩
      all_goals
        have HY' := HY.out
        simp only [*, decide_true, decide_false, Bool.and_true, Bool.and_false, Bool.false_and] at HY'
        have KY := Lib.hid HY'
        clear HY' 
        refine wp_region_after (by kernel_rfl) (by kernel_rfl) ?_
        repeat (refine wpQuiet_step (fun K hK => ?_); go_simp; (refine hK _ ?_; clear hK K))
        refine wpQuiet_nil ?_
        intro w4 hb4
        go_wp2_with fail
        go_meet
        exact ⟨by rw [KX.out], by rw [KY.out], st.step hb4⟩
  clear st
  obtain ⟨rfl, rfl, st⟩ := hcut
  have hqp : sameB q p = sameB p q := sameB_comm q p
  have H : (mayB y = false ∧ mayB x = false) ∨ (mayB y = false ∧ mayB x = true) ∨ (mayB y = true ∧ mayB x = false) ∨ (mayB y = true ∧ mayB x = true ∧ x.d ≤ y.d) ∨ (mayB y = true ∧ mayB x = true ∧ ¬x.d ≤ y.d ∧ sameB p q = true) ∨ (mayB y = true ∧ mayB x = true ∧ ¬x.d ≤ y.d ∧ sameB p q = false) := by
    cases mayB y <;> cases mayB x <;> cases sameB p q <;> simp <;> omega
  rcases H with ⟨KY, KX⟩ | ⟨KY, KX⟩ | ⟨KY, KX⟩ | ⟨KY, KX, hd⟩ | ⟨KY, KX, hd, hs⟩ | ⟨KY, KX, hd, hs⟩
  · have hB1 : putB tabE 1 p x = _ := (putE_B p x).trans KX
    have hT1 : putT tabE 1 p x = tabE := putT_no ((putE_B p x).trans KX)
    have hB2 : putB tabE 1 q y = false := (putE_B q y).trans KY
    have hT2 : putT tabE 1 q y = tabE := putT_no ((putE_B q y).trans KY)
    have Q1 := Lib.hid (⟨hB1, hT1⟩ : _ ∧ _)
    have Q2 := Lib.hid (⟨hB2, hT2⟩ : _ ∧ _)
    have Q3 := Lib.hid (show getE tabE 1 p = ent0 ∧ getB tabE 1 p = false from ⟨rfl, rfl⟩)
    have Q4 := Lib.hid (show getE tabE 1 q = ent0 ∧ getB tabE 1 q = false from ⟨rfl, rfl⟩)
    clear hB1 hT1 hB2 hT2
    obtain ⟨⟨a1, a2⟩, ⟨e1, e2⟩, ⟨c1, c2⟩, _, l4⟩ := st.fact
    have l1 : w.heap.size < wc.heap.size := (by omega)
    have l2 : w.heap.size + 1 < wc.heap.size := (by omega)
    have l3 : w.heap.size + 1 + 1 < wc.heap.size := (by omega)
    go_wp2_with (with_reducible refine at_end ?_)
    refine (put_is st.tab OP.out OX.out Q1.out.1 Q1.out.2).mono ?_
    rintro r w5 ⟨rfl, ht, hg⟩
    have st := st.put ht hg
    clear ht hg
    clear a1 a2 e1 e2 c1 c2 l1 l2 l3 l4
    obtain ⟨⟨a1, a2⟩, ⟨e1, e2⟩, ⟨c1, c2⟩, _, l4⟩ := st.fact
    have l1 : w.heap.size < w5.heap.size := (by omega)
    have l2 : w.heap.size + 1 < w5.heap.size := (by omega)
    have l3 : w.heap.size + 1 + 1 < w5.heap.size := (by omega)
    go_wp2_with (with_reducible refine at_end ?_)
    refine (put_is st.tab OQ.out OY.out Q2.out.1 Q2.out.2).mono ?_
    rintro r w6 ⟨rfl, ht, hg⟩
    have st := st.put ht hg
    clear ht hg
    clear a1 a2 e1 e2 c1 c2 l1 l2 l3 l4
    obtain ⟨⟨a1, a2⟩, ⟨e1, e2⟩, ⟨c1, c2⟩, _, l4⟩ := st.fact
    have l1 : w.heap.size < w6.heap.size := (by omega)
    have l2 : w.heap.size + 1 < w6.heap.size := (by omega)
    have l3 : w.heap.size + 1 + 1 < w6.heap.size := (by omega)
    go_upto_region 13 with (first | (go_at_call 59; (refine (same_any p q _ OP.out OQ.out).mono ?_; rintro r w7 ⟨rfl, hb⟩; replace st := st.step hb; clear hb; clear a1 a2 e1 e2 c1 c2 l1 l2 l3 l4; obtain ⟨⟨a1, a2⟩, ⟨e1, e2⟩, ⟨c1, c2⟩, _, l4⟩ := st.fact; have l1 : w.heap.size < w7.heap.size := (by omega); have l2 : w.heap.size + 1 < w7.heap.size := (by omega); have l3 : w.heap.size + 1 + 1 < w7.heap.size := (by omega))) | (go_at_call 49; refine (get_is st.tab OP.out Q3.out.1 Q3.out.2).mono ?_; rintro r w8 ⟨rfl, hb⟩; replace st := st.step hb; clear hb))
    clear a1 a2 e1 e2 c1 c2 l1 l2 l3 l4
    have st := (st.room (.cells (entA ent0) 61)).agg (g := w8.heap.size) (ent_cells (heap_alloc_new w8 _)).2.2 (by have := st.tab.lt.2.1; omega)
    have l8 : w8.heap.size < (w8.alloc (.cells (entA ent0) 61)).heap.size := by simp
    generalize w8.alloc (.cells (entA ent0) 61) = w9 at st l8 ⊢
    generalize w8.heap.size = g1 at st l8 ⊢
    obtain ⟨⟨a1, a2⟩, ⟨e1, e2⟩, ⟨c1, c2⟩, _, l4⟩ := st.fact.1
    have l1 : w.heap.size < w9.heap.size := (by omega)
    have l2 : w.heap.size + 1 < w9.heap.size := (by omega)
    have l3 : w.heap.size + 1 + 1 < w9.heap.size := (by omega)
    go_upto_region 14 with (go_at_call 49; refine (get_is st.tab OQ.out Q4.out.1 Q4.out.2).mono ?_; rintro r w10 ⟨rfl, hb⟩; replace st := st.step hb; replace l8 := Nat.lt_of_lt_of_le l8 hb.size; clear hb)
    clear a1 a2 e1 e2 c1 c2 l1 l2 l3 l4
    have st := (st.room (.cells (entA ent0) 61)).agg (g := w10.heap.size) (ent_cells (heap_alloc_new w10 _)).2.2 (by have := st.tab.lt.2.1; omega)
    have l10 : w10.heap.size < (w10.alloc (.cells (entA ent0) 61)).heap.size := by simp
    replace l8 : g1 < (w10.alloc (.cells (entA ent0) 61)).heap.size := by simp; omega
    generalize w10.alloc (.cells (entA ent0) 61) = w11 at st l8 l10 ⊢
    generalize w10.heap.size = g2 at st l10 ⊢
    have b1 := st.fact.1.2
    have b2 := st.fact.2
    obtain ⟨⟨a1, a2⟩, ⟨e1, e2⟩, ⟨c1, c2⟩, _, l4⟩ := st.fact.1.1
    have l1 : w.heap.size < w11.heap.size := (by omega)
    have l2 : w.heap.size + 1 < w11.heap.size := (by omega)
    have l3 : w.heap.size + 1 + 1 < w11.heap.size := (by omega)
    have ox := OX.out
    have oy := OY.out
    have o0 := EntOk0
    go_wp2_with (first | (with_reducible refine at_end ?_) | (go_at_call 59; refine (same_any p q _ OP.out OQ.out).mono ?_; rintro r w12 ⟨rfl, hb⟩; replace st := st.step hb; clear hb))
    unfold AtEnd
    go_returns
    exact ⟨ret_bool (by simp), st.below⟩
  · obtain ⟨ev, hev⟩ : ∃ ev, (if sameB p q then x else ent0) = ev := ⟨_, rfl⟩
    have hB1 : putB tabE 1 p x = _ := (putE_B p x).trans KX
    have hT1 : putT tabE 1 p x = (oneT x p) := putE_T KX
    have hB2 : putB (oneT x p) 1 q y = false := by rw [one_putB, KY]; rfl
    have hT2 : putT (oneT x p) 1 q y = (oneT x p) := putT_no (by rw [one_putB, KY]; rfl)
    have Q1 := Lib.hid (⟨hB1, hT1⟩ : _ ∧ _)
    have Q2 := Lib.hid (⟨hB2, hT2⟩ : _ ∧ _)
    have Q3 := Lib.hid (show getE (oneT x p) 1 p = x ∧ getB (oneT x p) 1 p = true from ⟨by rw [one_getE, sameB_refl]; rfl, by rw [one_get, sameB_refl]⟩)
    have Q4 := Lib.hid (show getE (oneT x p) 1 q = ev ∧ getB (oneT x p) 1 q = (sameB p q) from ⟨(one_getE x p q).trans hev, one_get x p q⟩)
    clear hB1 hT1 hB2 hT2
    clear hev
    obtain ⟨⟨a1, a2⟩, ⟨e1, e2⟩, ⟨c1, c2⟩, _, l4⟩ := st.fact
    have l1 : w.heap.size < wc.heap.size := (by omega)
    have l2 : w.heap.size + 1 < wc.heap.size := (by omega)
    have l3 : w.heap.size + 1 + 1 < wc.heap.size := (by omega)
    go_wp2_with (with_reducible refine at_end ?_)
    refine (put_is st.tab OP.out OX.out Q1.out.1 Q1.out.2).mono ?_
    rintro r w5 ⟨rfl, ht, hg⟩
    have st := st.put ht hg
    clear ht hg
    clear a1 a2 e1 e2 c1 c2 l1 l2 l3 l4
    obtain ⟨⟨a1, a2⟩, ⟨e1, e2⟩, ⟨c1, c2⟩, _, l4⟩ := st.fact
    have l1 : w.heap.size < w5.heap.size := (by omega)
    have l2 : w.heap.size + 1 < w5.heap.size := (by omega)
    have l3 : w.heap.size + 1 + 1 < w5.heap.size := (by omega)
    go_wp2_with (with_reducible refine at_end ?_)
    refine (put_is st.tab OQ.out OY.out Q2.out.1 Q2.out.2).mono ?_
    rintro r w6 ⟨rfl, ht, hg⟩
    have st := st.put ht hg
    clear ht hg
    clear a1 a2 e1 e2 c1 c2 l1 l2 l3 l4
    obtain ⟨⟨a1, a2⟩, ⟨e1, e2⟩, ⟨c1, c2⟩, _, l4⟩ := st.fact
    have l1 : w.heap.size < w6.heap.size := (by omega)
    have l2 : w.heap.size + 1 < w6.heap.size := (by omega)
    have l3 : w.heap.size + 1 + 1 < w6.heap.size := (by omega)
    go_upto_region 13 with (first | (go_at_call 59; (refine (same_any p q _ OP.out OQ.out).mono ?_; rintro r w7 ⟨rfl, hb⟩; replace st := st.step hb; clear hb; clear a1 a2 e1 e2 c1 c2 l1 l2 l3 l4; obtain ⟨⟨a1, a2⟩, ⟨e1, e2⟩, ⟨c1, c2⟩, _, l4⟩ := st.fact; have l1 : w.heap.size < w7.heap.size := (by omega); have l2 : w.heap.size + 1 < w7.heap.size := (by omega); have l3 : w.heap.size + 1 + 1 < w7.heap.size := (by omega))) | (go_at_call 49; refine (get_is st.tab OP.out Q3.out.1 Q3.out.2).mono ?_; rintro r w8 ⟨rfl, hb⟩; replace st := st.step hb; clear hb))
    clear a1 a2 e1 e2 c1 c2 l1 l2 l3 l4
    have st := (st.room (.cells (entA x) 61)).agg (g := w8.heap.size) (ent_cells (heap_alloc_new w8 _)).2.2 (by have := st.tab.lt.2.1; omega)
    have l8 : w8.heap.size < (w8.alloc (.cells (entA x) 61)).heap.size := by simp
    generalize w8.alloc (.cells (entA x) 61) = w9 at st l8 ⊢
    generalize w8.heap.size = g1 at st l8 ⊢
    obtain ⟨⟨a1, a2⟩, ⟨e1, e2⟩, ⟨c1, c2⟩, _, l4⟩ := st.fact.1
    have l1 : w.heap.size < w9.heap.size := (by omega)
    have l2 : w.heap.size + 1 < w9.heap.size := (by omega)
    have l3 : w.heap.size + 1 + 1 < w9.heap.size := (by omega)
    go_upto_region 14 with (go_at_call 49; refine (get_is st.tab OQ.out Q4.out.1 Q4.out.2).mono ?_; rintro r w10 ⟨rfl, hb⟩; replace st := st.step hb; replace l8 := Nat.lt_of_lt_of_le l8 hb.size; clear hb)
    clear a1 a2 e1 e2 c1 c2 l1 l2 l3 l4
    have st := (st.room (.cells (entA ev) 61)).agg (g := w10.heap.size) (ent_cells (heap_alloc_new w10 _)).2.2 (by have := st.tab.lt.2.1; omega)
    have l10 : w10.heap.size < (w10.alloc (.cells (entA ev) 61)).heap.size := by simp
    replace l8 : g1 < (w10.alloc (.cells (entA ev) 61)).heap.size := by simp; omega
    generalize w10.alloc (.cells (entA ev) 61) = w11 at st l8 l10 ⊢
    generalize w10.heap.size = g2 at st l10 ⊢
    have b1 := st.fact.1.2
    have b2 := st.fact.2
    obtain ⟨⟨a1, a2⟩, ⟨e1, e2⟩, ⟨c1, c2⟩, _, l4⟩ := st.fact.1.1
    have l1 : w.heap.size < w11.heap.size := (by omega)
    have l2 : w.heap.size + 1 < w11.heap.size := (by omega)
    have l3 : w.heap.size + 1 + 1 < w11.heap.size := (by omega)
    have ox := OX.out
    have oy := OY.out
    have o0 := EntOk0
    go_wp2_with (first | (with_reducible refine at_end ?_) | (go_at_call 59; refine (same_any p q _ OP.out OQ.out).mono ?_; rintro r w12 ⟨rfl, hb⟩; replace st := st.step hb; clear hb))
    unfold AtEnd
    go_returns
    exact ⟨ret_bool (by simp), st.below⟩
  · obtain ⟨ev, hev⟩ : ∃ ev, (if sameB q p then y else ent0) = ev := ⟨_, rfl⟩
    have hB1 : putB tabE 1 p x = _ := (putE_B p x).trans KX
    have hT1 : putT tabE 1 p x = tabE := putT_no ((putE_B p x).trans KX)
    have hB2 : putB tabE 1 q y = true := (putE_B q y).trans KY
    have hT2 : putT tabE 1 q y = (oneT y q) := putE_T KY
    have Q1 := Lib.hid (⟨hB1, hT1⟩ : _ ∧ _)
    have Q2 := Lib.hid (⟨hB2, hT2⟩ : _ ∧ _)
    have Q3 := Lib.hid (show getE (oneT y q) 1 p = ev ∧ getB (oneT y q) 1 p = (sameB p q) from ⟨(one_getE y q p).trans hev, (one_get y q p).trans hqp⟩)
    have Q4 := Lib.hid (show getE (oneT y q) 1 q = y ∧ getB (oneT y q) 1 q = true from ⟨by rw [one_getE, sameB_refl]; rfl, by rw [one_get, sameB_refl]⟩)
    clear hB1 hT1 hB2 hT2
    clear hev
    obtain ⟨⟨a1, a2⟩, ⟨e1, e2⟩, ⟨c1, c2⟩, _, l4⟩ := st.fact
    have l1 : w.heap.size < wc.heap.size := (by omega)
    have l2 : w.heap.size + 1 < wc.heap.size := (by omega)
    have l3 : w.heap.size + 1 + 1 < wc.heap.size := (by omega)
    go_wp2_with (with_reducible refine at_end ?_)
    refine (put_is st.tab OP.out OX.out Q1.out.1 Q1.out.2).mono ?_
    rintro r w5 ⟨rfl, ht, hg⟩
    have st := st.put ht hg
    clear ht hg
    clear a1 a2 e1 e2 c1 c2 l1 l2 l3 l4
    obtain ⟨⟨a1, a2⟩, ⟨e1, e2⟩, ⟨c1, c2⟩, _, l4⟩ := st.fact
    have l1 : w.heap.size < w5.heap.size := (by omega)
    have l2 : w.heap.size + 1 < w5.heap.size := (by omega)
    have l3 : w.heap.size + 1 + 1 < w5.heap.size := (by omega)
    go_wp2_with (with_reducible refine at_end ?_)
    refine (put_is st.tab OQ.out OY.out Q2.out.1 Q2.out.2).mono ?_
    rintro r w6 ⟨rfl, ht, hg⟩
    have st := st.put ht hg
    clear ht hg
    clear a1 a2 e1 e2 c1 c2 l1 l2 l3 l4
    obtain ⟨⟨a1, a2⟩, ⟨e1, e2⟩, ⟨c1, c2⟩, _, l4⟩ := st.fact
    have l1 : w.heap.size < w6.heap.size := (by omega)
    have l2 : w.heap.size + 1 < w6.heap.size := (by omega)
    have l3 : w.heap.size + 1 + 1 < w6.heap.size := (by omega)
    go_upto_region 13 with (first | (go_at_call 59; (refine (same_any p q _ OP.out OQ.out).mono ?_; rintro r w7 ⟨rfl, hb⟩; replace st := st.step hb; clear hb; clear a1 a2 e1 e2 c1 c2 l1 l2 l3 l4; obtain ⟨⟨a1, a2⟩, ⟨e1, e2⟩, ⟨c1, c2⟩, _, l4⟩ := st.fact; have l1 : w.heap.size < w7.heap.size := (by omega); have l2 : w.heap.size + 1 < w7.heap.size := (by omega); have l3 : w.heap.size + 1 + 1 < w7.heap.size := (by omega))) | (go_at_call 49; refine (get_is st.tab OP.out Q3.out.1 Q3.out.2).mono ?_; rintro r w8 ⟨rfl, hb⟩; replace st := st.step hb; clear hb))
    clear a1 a2 e1 e2 c1 c2 l1 l2 l3 l4
    have st := (st.room (.cells (entA ev) 61)).agg (g := w8.heap.size) (ent_cells (heap_alloc_new w8 _)).2.2 (by have := st.tab.lt.2.1; omega)
    have l8 : w8.heap.size < (w8.alloc (.cells (entA ev) 61)).heap.size := by simp
    generalize w8.alloc (.cells (entA ev) 61) = w9 at st l8 ⊢
    generalize w8.heap.size = g1 at st l8 ⊢
    obtain ⟨⟨a1, a2⟩, ⟨e1, e2⟩, ⟨c1, c2⟩, _, l4⟩ := st.fact.1
    have l1 : w.heap.size < w9.heap.size := (by omega)
    have l2 : w.heap.size + 1 < w9.heap.size := (by omega)
    have l3 : w.heap.size + 1 + 1 < w9.heap.size := (by omega)
    go_upto_region 14 with (go_at_call 49; refine (get_is st.tab OQ.out Q4.out.1 Q4.out.2).mono ?_; rintro r w10 ⟨rfl, hb⟩; replace st := st.step hb; replace l8 := Nat.lt_of_lt_of_le l8 hb.size; clear hb)
    clear a1 a2 e1 e2 c1 c2 l1 l2 l3 l4
    have st := (st.room (.cells (entA y) 61)).agg (g := w10.heap.size) (ent_cells (heap_alloc_new w10 _)).2.2 (by have := st.tab.lt.2.1; omega)
    have l10 : w10.heap.size < (w10.alloc (.cells (entA y) 61)).heap.size := by simp
    replace l8 : g1 < (w10.alloc (.cells (entA y) 61)).heap.size := by simp; omega
    generalize w10.alloc (.cells (entA y) 61) = w11 at st l8 l10 ⊢
    generalize w10.heap.size = g2 at st l10 ⊢
    have b1 := st.fact.1.2
    have b2 := st.fact.2
    obtain ⟨⟨a1, a2⟩, ⟨e1, e2⟩, ⟨c1, c2⟩, _, l4⟩ := st.fact.1.1
    have l1 : w.heap.size < w11.heap.size := (by omega)
    have l2 : w.heap.size + 1 < w11.heap.size := (by omega)
    have l3 : w.heap.size + 1 + 1 < w11.heap.size := (by omega)
    have ox := OX.out
    have oy := OY.out
    have o0 := EntOk0
    go_wp2_with (first | (with_reducible refine at_end ?_) | (go_at_call 59; refine (same_any p q _ OP.out OQ.out).mono ?_; rintro r w12 ⟨rfl, hb⟩; replace st := st.step hb; clear hb))
    unfold AtEnd
    go_returns
    exact ⟨ret_bool (by simp), st.below⟩
  · obtain ⟨ev, hev⟩ : ∃ ev, (if sameB q p then y else ent0) = ev := ⟨_, rfl⟩
    have hd' : ¬y.d < x.d := by omega
    have hB1 : putB tabE 1 p x = _ := (putE_B p x).trans KX
    have hT1 : putT tabE 1 p x = (oneT x p) := putE_T KX
    have hB2 : putB (oneT x p) 1 q y = true := by rw [one_putB, KY]; simp [hd']
    have hT2 : putT (oneT x p) 1 q y = (oneT y q) := one_putT (by rw [one_putB, KY]; simp [hd'])
    have Q1 := Lib.hid (⟨hB1, hT1⟩ : _ ∧ _)
    have Q2 := Lib.hid (⟨hB2, hT2⟩ : _ ∧ _)
    have Q3 := Lib.hid (show getE (oneT y q) 1 p = ev ∧ getB (oneT y q) 1 p = (sameB p q) from ⟨(one_getE y q p).trans hev, (one_get y q p).trans hqp⟩)
    have Q4 := Lib.hid (show getE (oneT y q) 1 q = y ∧ getB (oneT y q) 1 q = true from ⟨by rw [one_getE, sameB_refl]; rfl, by rw [one_get, sameB_refl]⟩)
    clear hB1 hT1 hB2 hT2
    clear hev
    obtain ⟨⟨a1, a2⟩, ⟨e1, e2⟩, ⟨c1, c2⟩, _, l4⟩ := st.fact
    have l1 : w.heap.size < wc.heap.size := (by omega)
    have l2 : w.heap.size + 1 < wc.heap.size := (by omega)
    have l3 : w.heap.size + 1 + 1 < wc.heap.size := (by omega)
    go_wp2_with (with_reducible refine at_end ?_)
    refine (put_is st.tab OP.out OX.out Q1.out.1 Q1.out.2).mono ?_
    rintro r w5 ⟨rfl, ht, hg⟩
    have st := st.put ht hg
    clear ht hg
    clear a1 a2 e1 e2 c1 c2 l1 l2 l3 l4
    obtain ⟨⟨a1, a2⟩, ⟨e1, e2⟩, ⟨c1, c2⟩, _, l4⟩ := st.fact
    have l1 : w.heap.size < w5.heap.size := (by omega)
    have l2 : w.heap.size + 1 < w5.heap.size := (by omega)
    have l3 : w.heap.size + 1 + 1 < w5.heap.size := (by omega)
    go_wp2_with (with_reducible refine at_end ?_)
    refine (put_is st.tab OQ.out OY.out Q2.out.1 Q2.out.2).mono ?_
    rintro r w6 ⟨rfl, ht, hg⟩
    have st := st.put ht hg
    clear ht hg
    clear a1 a2 e1 e2 c1 c2 l1 l2 l3 l4
    obtain ⟨⟨a1, a2⟩, ⟨e1, e2⟩, ⟨c1, c2⟩, _, l4⟩ := st.fact
    have l1 : w.heap.size < w6.heap.size := (by omega)
    have l2 : w.heap.size + 1 < w6.heap.size := (by omega)
    have l3 : w.heap.size + 1 + 1 < w6.heap.size := (by omega)
    go_upto_region 13 with (first | (go_at_call 59; (refine (same_any p q _ OP.out OQ.out).mono ?_; rintro r w7 ⟨rfl, hb⟩; replace st := st.step hb; clear hb; clear a1 a2 e1 e2 c1 c2 l1 l2 l3 l4; obtain ⟨⟨a1, a2⟩, ⟨e1, e2⟩, ⟨c1, c2⟩, _, l4⟩ := st.fact; have l1 : w.heap.size < w7.heap.size := (by omega); have l2 : w.heap.size + 1 < w7.heap.size := (by omega); have l3 : w.heap.size + 1 + 1 < w7.heap.size := (by omega))) | (go_at_call 49; refine (get_is st.tab OP.out Q3.out.1 Q3.out.2).mono ?_; rintro r w8 ⟨rfl, hb⟩; replace st := st.step hb; clear hb))
    clear a1 a2 e1 e2 c1 c2 l1 l2 l3 l4
    have st := (st.room (.cells (entA ev) 61)).agg (g := w8.heap.size) (ent_cells (heap_alloc_new w8 _)).2.2 (by have := st.tab.lt.2.1; omega)
    have l8 : w8.heap.size < (w8.alloc (.cells (entA ev) 61)).heap.size := by simp
    generalize w8.alloc (.cells (entA ev) 61) = w9 at st l8 ⊢
    generalize w8.heap.size = g1 at st l8 ⊢
    obtain ⟨⟨a1, a2⟩, ⟨e1, e2⟩, ⟨c1, c2⟩, _, l4⟩ := st.fact.1
    have l1 : w.heap.size < w9.heap.size := (by omega)
    have l2 : w.heap.size + 1 < w9.heap.size := (by omega)
    have l3 : w.heap.size + 1 + 1 < w9.heap.size := (by omega)
    go_upto_region 14 with (go_at_call 49; refine (get_is st.tab OQ.out Q4.out.1 Q4.out.2).mono ?_; rintro r w10 ⟨rfl, hb⟩; replace st := st.step hb; replace l8 := Nat.lt_of_lt_of_le l8 hb.size; clear hb)
    clear a1 a2 e1 e2 c1 c2 l1 l2 l3 l4
    have st := (st.room (.cells (entA y) 61)).agg (g := w10.heap.size) (ent_cells (heap_alloc_new w10 _)).2.2 (by have := st.tab.lt.2.1; omega)
    have l10 : w10.heap.size < (w10.alloc (.cells (entA y) 61)).heap.size := by simp
    replace l8 : g1 < (w10.alloc (.cells (entA y) 61)).heap.size := by simp; omega
    generalize w10.alloc (.cells (entA y) 61) = w11 at st l8 l10 ⊢
    generalize w10.heap.size = g2 at st l10 ⊢
    have b1 := st.fact.1.2
    have b2 := st.fact.2
    obtain ⟨⟨a1, a2⟩, ⟨e1, e2⟩, ⟨c1, c2⟩, _, l4⟩ := st.fact.1.1
    have l1 : w.heap.size < w11.heap.size := (by omega)
    have l2 : w.heap.size + 1 < w11.heap.size := (by omega)
    have l3 : w.heap.size + 1 + 1 < w11.heap.size := (by omega)
    have ox := OX.out
    have oy := OY.out
    have o0 := EntOk0
    go_wp2_with (first | (with_reducible refine at_end ?_) | (go_at_call 59; refine (same_any p q _ OP.out OQ.out).mono ?_; rintro r w12 ⟨rfl, hb⟩; replace st := st.step hb; clear hb))
    unfold AtEnd
    go_returns
    exact ⟨ret_bool (by simp), st.below⟩
  · obtain ⟨ev, hev⟩ : ∃ ev, (if sameB q p then y else ent0) = ev := ⟨_, rfl⟩
    have hB1 : putB tabE 1 p x = _ := (putE_B p x).trans KX
    have hT1 : putT tabE 1 p x = (oneT x p) := putE_T KX
    have hB2 : putB (oneT x p) 1 q y = true := by rw [one_putB, KY, hs]; simp
    have hT2 : putT (oneT x p) 1 q y = (oneT y q) := one_putT (by rw [one_putB, KY, hs]; simp)
    have Q1 := Lib.hid (⟨hB1, hT1⟩ : _ ∧ _)
    have Q2 := Lib.hid (⟨hB2, hT2⟩ : _ ∧ _)
    have Q3 := Lib.hid (show getE (oneT y q) 1 p = ev ∧ getB (oneT y q) 1 p = (sameB p q) from ⟨(one_getE y q p).trans hev, (one_get y q p).trans hqp⟩)
    have Q4 := Lib.hid (show getE (oneT y q) 1 q = y ∧ getB (oneT y q) 1 q = true from ⟨by rw [one_getE, sameB_refl]; rfl, by rw [one_get, sameB_refl]⟩)
    clear hB1 hT1 hB2 hT2
    clear hev
    obtain ⟨⟨a1, a2⟩, ⟨e1, e2⟩, ⟨c1, c2⟩, _, l4⟩ := st.fact
    have l1 : w.heap.size < wc.heap.size := (by omega)
    have l2 : w.heap.size + 1 < wc.heap.size := (by omega)
    have l3 : w.heap.size + 1 + 1 < wc.heap.size := (by omega)
    go_wp2_with (with_reducible refine at_end ?_)
    refine (put_is st.tab OP.out OX.out Q1.out.1 Q1.out.2).mono ?_
    rintro r w5 ⟨rfl, ht, hg⟩
    have st := st.put ht hg
    clear ht hg
    clear a1 a2 e1 e2 c1 c2 l1 l2 l3 l4
    obtain ⟨⟨a1, a2⟩, ⟨e1, e2⟩, ⟨c1, c2⟩, _, l4⟩ := st.fact
    have l1 : w.heap.size < w5.heap.size := (by omega)
    have l2 : w.heap.size + 1 < w5.heap.size := (by omega)
    have l3 : w.heap.size + 1 + 1 < w5.heap.size := (by omega)
    go_wp2_with (with_reducible refine at_end ?_)
    refine (put_is st.tab OQ.out OY.out Q2.out.1 Q2.out.2).mono ?_
    rintro r w6 ⟨rfl, ht, hg⟩
    have st := st.put ht hg
    clear ht hg
    clear a1 a2 e1 e2 c1 c2 l1 l2 l3 l4
    obtain ⟨⟨a1, a2⟩, ⟨e1, e2⟩, ⟨c1, c2⟩, _, l4⟩ := st.fact
    have l1 : w.heap.size < w6.heap.size := (by omega)
    have l2 : w.heap.size + 1 < w6.heap.size := (by omega)
    have l3 : w.heap.size + 1 + 1 < w6.heap.size := (by omega)
    go_upto_region 13 with (first | (go_at_call 59; (refine (same_any p q _ OP.out OQ.out).mono ?_; rintro r w7 ⟨rfl, hb⟩; replace st := st.step hb; clear hb; clear a1 a2 e1 e2 c1 c2 l1 l2 l3 l4; obtain ⟨⟨a1, a2⟩, ⟨e1, e2⟩, ⟨c1, c2⟩, _, l4⟩ := st.fact; have l1 : w.heap.size < w7.heap.size := (by omega); have l2 : w.heap.size + 1 < w7.heap.size := (by omega); have l3 : w.heap.size + 1 + 1 < w7.heap.size := (by omega))) | (go_at_call 49; refine (get_is st.tab OP.out Q3.out.1 Q3.out.2).mono ?_; rintro r w8 ⟨rfl, hb⟩; replace st := st.step hb; clear hb))
    clear a1 a2 e1 e2 c1 c2 l1 l2 l3 l4
    have st := (st.room (.cells (entA ev) 61)).agg (g := w8.heap.size) (ent_cells (heap_alloc_new w8 _)).2.2 (by have := st.tab.lt.2.1; omega)
    have l8 : w8.heap.size < (w8.alloc (.cells (entA ev) 61)).heap.size := by simp
    generalize w8.alloc (.cells (entA ev) 61) = w9 at st l8 ⊢
    generalize w8.heap.size = g1 at st l8 ⊢
    obtain ⟨⟨a1, a2⟩, ⟨e1, e2⟩, ⟨c1, c2⟩, _, l4⟩ := st.fact.1
    have l1 : w.heap.size < w9.heap.size := (by omega)
    have l2 : w.heap.size + 1 < w9.heap.size := (by omega)
    have l3 : w.heap.size + 1 + 1 < w9.heap.size := (by omega)
    go_upto_region 14 with (go_at_call 49; refine (get_is st.tab OQ.out Q4.out.1 Q4.out.2).mono ?_; rintro r w10 ⟨rfl, hb⟩; replace st := st.step hb; replace l8 := Nat.lt_of_lt_of_le l8 hb.size; clear hb)
    clear a1 a2 e1 e2 c1 c2 l1 l2 l3 l4
    have st := (st.room (.cells (entA y) 61)).agg (g := w10.heap.size) (ent_cells (heap_alloc_new w10 _)).2.2 (by have := st.tab.lt.2.1; omega)
    have l10 : w10.heap.size < (w10.alloc (.cells (entA y) 61)).heap.size := by simp
    replace l8 : g1 < (w10.alloc (.cells (entA y) 61)).heap.size := by simp; omega
    generalize w10.alloc (.cells (entA y) 61) = w11 at st l8 l10 ⊢
    generalize w10.heap.size = g2 at st l10 ⊢
    have b1 := st.fact.1.2
    have b2 := st.fact.2
    obtain ⟨⟨a1, a2⟩, ⟨e1, e2⟩, ⟨c1, c2⟩, _, l4⟩ := st.fact.1.1
    have l1 : w.heap.size < w11.heap.size := (by omega)
    have l2 : w.heap.size + 1 < w11.heap.size := (by omega)
    have l3 : w.heap.size + 1 + 1 < w11.heap.size := (by omega)
    have ox := OX.out
    have oy := OY.out
    have o0 := EntOk0
    go_wp2_with (first | (with_reducible refine at_end ?_) | (go_at_call 59; refine (same_any p q _ OP.out OQ.out).mono ?_; rintro r w12 ⟨rfl, hb⟩; replace st := st.step hb; clear hb))
    unfold AtEnd
    go_returns
    exact ⟨ret_bool (by simp), st.below⟩
  · obtain ⟨ev, hev⟩ : ∃ ev, (if sameB p q then x else ent0) = ev := ⟨_, rfl⟩
    have hd' : y.d < x.d := by omega
    have hB1 : putB tabE 1 p x = _ := (putE_B p x).trans KX
    have hT1 : putT tabE 1 p x = (oneT x p) := putE_T KX
    have hB2 : putB (oneT x p) 1 q y = false := by rw [one_putB, KY, hs]; simp [hd']
    have hT2 : putT (oneT x p) 1 q y = (oneT x p) := putT_no (by rw [one_putB, KY, hs]; simp [hd'])
    have Q1 := Lib.hid (⟨hB1, hT1⟩ : _ ∧ _)
    have Q2 := Lib.hid (⟨hB2, hT2⟩ : _ ∧ _)
    have Q3 := Lib.hid (show getE (oneT x p) 1 p = x ∧ getB (oneT x p) 1 p = true from ⟨by rw [one_getE, sameB_refl]; rfl, by rw [one_get, sameB_refl]⟩)
    have Q4 := Lib.hid (show getE (oneT x p) 1 q = ev ∧ getB (oneT x p) 1 q = (sameB p q) from ⟨(one_getE x p q).trans hev, one_get x p q⟩)
    clear hB1 hT1 hB2 hT2
    clear hev
    obtain ⟨⟨a1, a2⟩, ⟨e1, e2⟩, ⟨c1, c2⟩, _, l4⟩ := st.fact
    have l1 : w.heap.size < wc.heap.size := (by omega)
    have l2 : w.heap.size + 1 < wc.heap.size := (by omega)
    have l3 : w.heap.size + 1 + 1 < wc.heap.size := (by omega)
    go_wp2_with (with_reducible refine at_end ?_)
    refine (put_is st.tab OP.out OX.out Q1.out.1 Q1.out.2).mono ?_
    rintro r w5 ⟨rfl, ht, hg⟩
    have st := st.put ht hg
    clear ht hg
    clear a1 a2 e1 e2 c1 c2 l1 l2 l3 l4
    obtain ⟨⟨a1, a2⟩, ⟨e1, e2⟩, ⟨c1, c2⟩, _, l4⟩ := st.fact
    have l1 : w.heap.size < w5.heap.size := (by omega)
    have l2 : w.heap.size + 1 < w5.heap.size := (by omega)
    have l3 : w.heap.size + 1 + 1 < w5.heap.size := (by omega)
    go_wp2_with (with_reducible refine at_end ?_)
    refine (put_is st.tab OQ.out OY.out Q2.out.1 Q2.out.2).mono ?_
    rintro r w6 ⟨rfl, ht, hg⟩
    have st := st.put ht hg
    clear ht hg
    clear a1 a2 e1 e2 c1 c2 l1 l2 l3 l4
    obtain ⟨⟨a1, a2⟩, ⟨e1, e2⟩, ⟨c1, c2⟩, _, l4⟩ := st.fact
    have l1 : w.heap.size < w6.heap.size := (by omega)
    have l2 : w.heap.size + 1 < w6.heap.size := (by omega)
    have l3 : w.heap.size + 1 + 1 < w6.heap.size := (by omega)
    go_upto_region 13 with (first | (go_at_call 59; (refine (same_any p q _ OP.out OQ.out).mono ?_; rintro r w7 ⟨rfl, hb⟩; replace st := st.step hb; clear hb; clear a1 a2 e1 e2 c1 c2 l1 l2 l3 l4; obtain ⟨⟨a1, a2⟩, ⟨e1, e2⟩, ⟨c1, c2⟩, _, l4⟩ := st.fact; have l1 : w.heap.size < w7.heap.size := (by omega); have l2 : w.heap.size + 1 < w7.heap.size := (by omega); have l3 : w.heap.size + 1 + 1 < w7.heap.size := (by omega))) | (go_at_call 49; refine (get_is st.tab OP.out Q3.out.1 Q3.out.2).mono ?_; rintro r w8 ⟨rfl, hb⟩; replace st := st.step hb; clear hb))
    clear a1 a2 e1 e2 c1 c2 l1 l2 l3 l4
    have st := (st.room (.cells (entA x) 61)).agg (g := w8.heap.size) (ent_cells (heap_alloc_new w8 _)).2.2 (by have := st.tab.lt.2.1; omega)
    have l8 : w8.heap.size < (w8.alloc (.cells (entA x) 61)).heap.size := by simp
    generalize w8.alloc (.cells (entA x) 61) = w9 at st l8 ⊢
    generalize w8.heap.size = g1 at st l8 ⊢
    obtain ⟨⟨a1, a2⟩, ⟨e1, e2⟩, ⟨c1, c2⟩, _, l4⟩ := st.fact.1
    have l1 : w.heap.size < w9.heap.size := (by omega)
    have l2 : w.heap.size + 1 < w9.heap.size := (by omega)
    have l3 : w.heap.size + 1 + 1 < w9.heap.size := (by omega)
    go_upto_region 14 with (go_at_call 49; refine (get_is st.tab OQ.out Q4.out.1 Q4.out.2).mono ?_; rintro r w10 ⟨rfl, hb⟩; replace st := st.step hb; replace l8 := Nat.lt_of_lt_of_le l8 hb.size; clear hb)
    clear a1 a2 e1 e2 c1 c2 l1 l2 l3 l4
    have st := (st.room (.cells (entA ev) 61)).agg (g := w10.heap.size) (ent_cells (heap_alloc_new w10 _)).2.2 (by have := st.tab.lt.2.1; omega)
    have l10 : w10.heap.size < (w10.alloc (.cells (entA ev) 61)).heap.size := by simp
    replace l8 : g1 < (w10.alloc (.cells (entA ev) 61)).heap.size := by simp; omega
    generalize w10.alloc (.cells (entA ev) 61) = w11 at st l8 l10 ⊢
    generalize w10.heap.size = g2 at st l10 ⊢
    have b1 := st.fact.1.2
    have b2 := st.fact.2
    obtain ⟨⟨a1, a2⟩, ⟨e1, e2⟩, ⟨c1, c2⟩, _, l4⟩ := st.fact.1.1
    have l1 : w.heap.size < w11.heap.size := (by omega)
    have l2 : w.heap.size + 1 < w11.heap.size := (by omega)
    have l3 : w.heap.size + 1 + 1 < w11.heap.size := (by omega)
    have ox := OX.out
    have oy := OY.out
    have o0 := EntOk0
    go_wp2_with (first | (with_reducible refine at_end ?_) | (go_at_call 59; refine (same_any p q _ OP.out OQ.out).mono ?_; rintro r w12 ⟨rfl, hb⟩; replace st := st.step hb; clear hb))
    unfold AtEnd
    go_returns
    exact ⟨ret_bool (by simp), st.below⟩
end Go.Proofs.Ytldacinldgjdcaa
