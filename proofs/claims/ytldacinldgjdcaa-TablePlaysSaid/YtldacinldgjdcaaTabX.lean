/- The walk of the law TablePlays: it returns true; of what was in memory nothing turns. -/
import Derived.Test.YtldacinldgjdcaaTabI
import Derived.Test.YtldacinldgjdcaaTabL
import Derived.Deep.CutRange
import Derived.Deep.CutBlock
namespace Go.Proofs.Ytldacinldgjdcaa
open Go.RowKit Go.Maps
attribute [local go_sem] entA_ne slotA_ne
attribute [local go_sem ↓] lv37 zero37 sv37 lv61 zero61 sv61
attribute [local go_sem] run_lv37 run_zero37 run_sv37 run_lv61 run_sv61 run_zeroEnt rowFree_new rowFree_alloc setRow_new setRow_alloc aggAt_newb aggAt_old aggAt_drew aggAt_drewN posA_size oneCells_pos entA_size oneCells_ent After.cell After.frozen After.agg add_block run_b0
attribute [local go_sem high] run_eql61 run_neq61

def act0 : ActD := ⟨0, pos0, ent0⟩
def zeroAct : Sem Value := zeroValue 63
theorem zero63 : zeroValue 63 = zeroAct := rfl
theorem run_zeroAct (w : World) : zeroAct.run Try.prog w = .ok (.agg (actA act0)) w := by kernel_rfl
theorem oneCells_act (a : ActD) : OneCells (actA a) := by
  unfold OneCells
  rw [Array.all_eq_true_iff_forall_mem]
  intro u hu
  simp only [actA, actL, List.mem_toArray, List.mem_cons, List.mem_append] at hu
  rcases hu with rfl | hu | hu
  · rfl
  · exact seg_one _ u hu
  · simp [entL] at hu
    rcases hu with rfl | rfl | rfl | rfl | rfl | rfl | rfl | rfl <;> rfl
theorem actA_ne (a : ActD) : (actA a = #[]) = False := by simp [actA, actL]
theorem actA_0 (a : ActD) (h : 0 < (actA a).size) : (actA a)[0]'h = .int .i64 a.k := rfl
attribute [local go_sem] actA_0 actA_ne actA_size oneCells_act run_lv63 run_sv63 run_zeroAct
attribute [local go_sem ↓] lv63 zero63 sv63

/-- The table and the reference's, since w0. -/
structure Both (w0 : World) (tb bm rb rr sz : Nat) (f g : Tab) (w : World) : Prop where
  tab : TabSt w tb bm sz f
  ref : RefSt w rb rr sz g
  below : Below w0.heap.size w0 w
  hbm : w0.heap.size ≤ bm
  hrr : w0.heap.size ≤ rr
  n1 : tb ≠ rr
  n2 : bm ≠ rr
  n3 : bm ≠ rb
section
variable {w0 w w' : World} {tb bm rb rr sz : Nat} {f f' g g' : Tab}
theorem Both.step (h : Both w0 tb bm rb rr sz f g w) (hb : Below w.heap.size w w') : Both w0 tb bm rb rr sz f g w' :=
  ⟨h.tab.below hb, h.ref.below hb, below_join h.below hb, h.hbm, h.hrr, h.n1, h.n2, h.n3⟩
theorem Both.put (h : Both w0 tb bm rb rr sz f g w) (ht : TabSt w' tb bm sz f') (hg : w.grownBy w' (some bm)) : Both w0 tb bm rb rr sz f' g w' :=
  ⟨ht, h.ref.kept hg (by simpa using fun e => h.n3 e.symm) (by simpa using fun e => h.n2 e.symm), h.below.grown hg h.below.size (fun g e => by cases e; exact h.hbm), h.hbm, h.hrr, h.n1, h.n2, h.n3⟩
theorem Both.rput (h : Both w0 tb bm rb rr sz f g w) (ht : RefSt w' rb rr sz g') (hg : w.grownBy w' (some rr)) : Both w0 tb bm rb rr sz f g' w' :=
  ⟨h.tab.kept hg (by simpa using h.n1) (by simpa using h.n2), ht, h.below.grown hg h.below.size (fun g e => by cases e; exact h.hrr), h.hbm, h.hrr, h.n1, h.n2, h.n3⟩
theorem Both.new (h : Both w0 tb bm rb rr sz f g w) (hb : Below w.heap.size w w') {rb' rr' : Nat} (ht : RefSt w' rb' rr' sz g') (h1 : w.heap.size ≤ rb') (h2 : w.heap.size ≤ rr') : Both w0 tb bm rb' rr' sz f g' w' := by
  have l := h.tab.lt
  have s := h.below.size
  exact ⟨h.tab.below hb, ht, below_join h.below hb, h.hbm, by omega, by omega, by omega, by omega⟩
end
/-- An act in a block of its own. -/
structure ActIn (bm rr g : Nat) (x : ActD) (w : World) : Prop where
  at_ : aggAt w ⟨g, 0, none⟩ 97 = some (actA x)
  lt : g < w.heap.size
  n1 : g ≠ bm
  n2 : g ≠ rr
section
variable {w w' : World} {bm rr g : Nat} {x : ActD}
theorem ActIn.grown (h : ActIn bm rr g x w) {row : Option Nat} (hg : w.grownBy w' row) (hne : some g ≠ row) : ActIn bm rr g x w' :=
  ⟨agg_grown hg h.at_ hne, Nat.lt_of_lt_of_le h.lt hg.size, h.n1, h.n2⟩
theorem ActIn.step (h : ActIn bm rr g x w) (hb : Below w.heap.size w w') : ActIn bm rr g x w' := h.grown (grown_of hb) (by simp)
theorem ActIn.parts (h : ActIn bm rr g x w) : w.cell? ⟨g, 0, none⟩ = some (.int .i64 x.k) ∧ aggAt w ⟨g, 1, none⟩ 88 = some (posA x.p) ∧ aggAt w ⟨g, 89, none⟩ 8 = some (entA x.x) := by
  obtain ⟨h1, h2, h3⟩ := act_parts h.at_
  rw [add_pos _ _ (by omega)] at h2 h3
  simp only [Nat.zero_add] at h2 h3
  exact ⟨h1, h2, h3⟩
end
theorem getE_ok' {f : Tab} (h : TabOk f) (sz : Nat) (c : Nat → Int) : EntOk (getE f sz c) := by
  unfold getE
  rcases hf : f (idxOf sz c) with _ | ⟨e, c'⟩
  · exact EntOk0
  · simp only
    split
    · exact (h _ _ _ hf).1
    · exact EntOk0
theorem refget_is {w : World} {rb rr sz : Nat} {f : Tab} {c : Nat → Int} {x : Ent} {b : Bool} (st : RefSt w rb rr sz f) (hc : PosOk c) (hx : getE f sz c = x) (hb : getB f sz c = b) :
    Calls Try.prog 50 #[.pointer (some ⟨rb, 0, none⟩), .agg (posA c)] w fun r w' => r = .returned (.tuple #[.agg (entA x), .bool b]) ∧ Below w.heap.size w w' := by
  subst hx; subst hb
  exact refget_any c st hc
set_option maxRecDepth 100000 in
set_option maxHeartbeats 8000000 in
theorem tablePlays_walk (z : Int) (A : Option Addr) (n cap : Nat) (ac : Nat → ActD) (w : World) (_ : (Lit.int .i64 z).wf = true) (hp : ActSl w A n cap ac) :
    Calls Try.prog 7 #[.int .i64 z, .slice A n cap] w fun e w' => e = .returned (.bool true) ∧ Below w.heap.size w w' := by
  obtain ⟨hr, _, _, _⟩ := hp
  by_cases hno : z < 1 ∨ 4096 < z ∨ 60 < n
  · have H : (60 < (n : Int)) ∨ (¬60 < (n : Int) ∧ z < 1) ∨ (¬60 < (n : Int) ∧ ¬z < 1 ∧ 4096 < z) := by omega
    clear hno
    rcases H with h1 | ⟨h1, h2⟩ | ⟨h1, h2, h3⟩
    · go_enter Try.func7, Try.ntmps7
      go_wp2_with (with_reducible refine at_end ?_)
      unfold AtEnd
      go_returns
      exact ⟨rfl, Below.refl _ _⟩
    all_goals
      have hn : z < 1 ∨ 4096 < z := by omega
      go_enter Try.func7, Try.ntmps7
      go_wp2_with (first | (with_reducible refine at_end ?_) | (go_at_call 44; refine (new_no hn _).mono ?_; rintro r w2 ⟨rfl, hb⟩))
      unfold AtEnd
      go_returns
      exact ⟨rfl, hb⟩
  · obtain ⟨sz, rfl, hs1, hs2⟩ : ∃ sz : Nat, z = (sz : Int) ∧ 1 ≤ sz ∧ sz ≤ 4096 := ⟨z.toNat, by omega, by omega, by omega⟩
    have hn : n ≤ 60 := by omega
    have q1 : ¬(sz : Int) < 1 := by omega
    have q2 : ¬(4096 : Int) < sz := by omega
    have q3 : ¬(60 : Int) < n := by omega
    have OK := Lib.hid hr.ok
    clear hno
    go_enter Try.func7, Try.ntmps7
    go_upto_region 6 with (go_at_call 44; refine (new_any hs1 hs2 _).mono ?_; rintro r w3 ⟨tb, bm, rfl, ht, hb, htb, hbm⟩)
    have lt3 := ht.lt
    go_upto_region 9 with (first | (go_at_call 45; refine (size_any ht).mono ?_; rintro r w4 ⟨rfl, hb4⟩; have ht4 := ht.below hb4; have hbb := below_join hb hb4) | (go_at_call 46; refine (refnew_any hs1 hs2 _).mono ?_; rintro r w5 ⟨rb, rr, rfl, hrt, hb5, hrb, hrr⟩))
    have st0 : Both w tb bm rb rr sz tabE tabE w5 := by
      have s1 := hbb.size
      have s2 := ht4.lt
      exact ⟨ht4.below hb5, hrt, below_join hbb hb5, hbm, by omega, by omega, by omega, by omega⟩
    clear ht hb htb hbm hb4 ht4 hbb hrt hb5 hrb hrr lt3
    go_wp2_with (with_reducible refine at_end ?_)
    go_loopw [7, 8] (fun s7 s8 wr => ∃ (k rb rr : Nat) (f : Tab), k ≤ n ∧ s8 = .int .i64 k ∧ s7 = .pointer (some ⟨rb, 0, none⟩) ∧ Both w tb bm rb rr sz f f wr) (fun _ i _ => n - (intOf i).toNat)
    case atStart => exact ⟨0, rb, rr, tabE, by omega, rfl, rfl, st0⟩
    case round =>
      clear st0
      obtain ⟨k, rb, rr, f, hk, rfl, rfl, st⟩ := hrel
      by_cases hlt : k < n
      · obtain ⟨ad, rfl, had, hrow⟩ := (hr.below st.below).row (by omega)
        have c1 := hrow k hlt
        have ok := OK.out k hlt
        have q4 : (k : Int) < (n : Int) := by omega
        clear hrow
        go_upto_block 2 with (fail)
        have l1 := st.tab.lt
        have l2 := st.ref.lt
        have ai : ActIn bm rr wr.heap.size (ac k) (wr.alloc (.cells (actA (ac k)) 63)) := ⟨by have := aggAt_row (heap_alloc_new wr (.cells (actA (ac k)) 63)); rwa [actA_size] at this, by simp, by omega, by omega⟩
        replace st := st.step ((Below.refl _ _).alloc (Nat.le_refl _) (.cells (actA (ac k)) 63))
        generalize wr.alloc (.cells (actA (ac k)) 63) = w6 at st ai ⊢
        generalize wr.heap.size = g9 at ai ⊢
        clear c1 had l1 l2
        go_cut [7, 10, 11, 12, 13, 14] from 49 to 119 (fun s7 _ _ _ _ _ wx => ∃ (rb rr : Nat) (f : Tab), s7 = .pointer (some ⟨rb, 0, none⟩) ∧ Both w tb bm rb rr sz f f wx)
        case first =>
          have HK : ((ac k).k = 0 ∨ (ac k).k = 1) ∨ ((ac k).k = 2 ∨ (ac k).k = 3) ∨ (ac k).k = 4 ∨ (¬(ac k).k = 0 ∧ ¬(ac k).k = 1 ∧ ¬(ac k).k = 2 ∧ ¬(ac k).k = 3 ∧ ¬(ac k).k = 4) := by omega
          obtain ⟨a0, a1, a2⟩ := ai.parts
          have lg := ai.lt
          clear a0
          rcases HK with HK | HK | HK | ⟨k0, k1, k2, k3, k4⟩
          · rcases HK with HK | HK
            all_goals
              go_wp2_with (first | (go_at_call 47; refine (put_any _ _ st.tab ok.p ok.x).mono ?_; rintro r w7 ⟨rfl, ht, hg, _⟩; replace st := st.put ht hg; replace ai := ai.grown hg (by simpa using ai.n1); obtain ⟨a0, a1, a2⟩ := ai.parts; have lg := ai.lt; clear ht hg a0) | (go_at_call 48; refine (refput_any _ _ st.ref ok.p ok.x).mono ?_; rintro r w8 ⟨rfl, ht, hg⟩; replace st := st.rput ht hg; clear ht hg))
              go_meet
              exact ⟨rb, rr, _, rfl, st⟩
          · obtain ⟨x, hx⟩ : ∃ x, getE f sz (ac k).p = x := ⟨_, rfl⟩
            obtain ⟨b, hb⟩ : ∃ b, getB f sz (ac k).p = b := ⟨_, rfl⟩
            have ox : EntOk x := hx ▸ getE_ok' st.tab.ok sz _
            have HX := Lib.hid (⟨hx, hb⟩ : _ ∧ _)
            clear hx hb
            rcases HK with HK | HK
            all_goals
              go_upto_region 22 with (go_at_call 49; refine (get_is st.tab ok.p HX.out.1 HX.out.2).mono ?_; rintro r w7 ⟨rfl, hb7⟩; replace st := st.step hb7; replace ai := ai.step hb7; clear hb7)
              have e1 := (ent_cells (heap_alloc_new w7 (.cells (entA x) 61))).2.2
              have l1 : w7.heap.size < (w7.alloc (.cells (entA x) 61)).heap.size := by simp
              replace st := st.step ((Below.refl _ _).alloc (Nat.le_refl _) (.cells (entA x) 61))
              replace ai := ai.step ((Below.refl _ _).alloc (Nat.le_refl _) (.cells (entA x) 61))
              generalize w7.alloc (.cells (entA x) 61) = w8 at st ai e1 l1 ⊢
              generalize w7.heap.size = g11 at e1 l1 ⊢
              obtain ⟨a0, a1, a2⟩ := ai.parts
              have lg := ai.lt
              clear a0
              go_upto_region 23 with (go_at_call 50; refine (refget_is st.ref ok.p HX.out.1 HX.out.2).mono ?_; rintro r w9 ⟨rfl, hb9⟩; replace st := st.step hb9; replace e1 := aggAt_below e1 hb9 l1; replace l1 := Nat.lt_of_lt_of_le l1 hb9.size; clear hb9)
              replace st := st.step ((Below.refl _ _).alloc (Nat.le_refl _) (.cells (entA x) 61))
              go_wp2_with fail
              go_meet
              exact ⟨rb, rr, f, rfl, st⟩
          · go_wp2_with (first | (go_at_call 51; refine (clear_any st.tab).mono ?_; rintro r w7 ⟨rfl, ht, hg⟩; replace st := st.put ht hg; clear ht hg) | (go_at_call 46; refine (refnew_any hs1 hs2 _).mono ?_; rintro r w8 ⟨rb', rr', rfl, ht, hb, h1, h2⟩; replace st := st.new hb ht h1 h2; clear hb ht h1 h2))
            go_meet
            exact ⟨rb', rr', tabE, rfl, st⟩
          · have k0' : ((ac k).k == 0) = false := by simp [k0]
            have k1' : ((ac k).k == 1) = false := by simp [k1]
            have k2' : ((ac k).k == 2) = false := by simp [k2]
            have k3' : ((ac k).k == 3) = false := by simp [k3]
            have k4' : ((ac k).k == 4) = false := by simp [k4]
            go_wp2_with fail
            go_meet
            exact ⟨rb, rr, f, rfl, st⟩
        case rest =>
          clear st ai
          obtain ⟨rb, rr, f, rfl, st⟩ := hcut
          go_wp2_with (first | (with_reducible refine at_end ?_) | (go_at_call 52; refine (held_any st.tab).mono ?_; rintro r w7 ⟨rfl, hb⟩; replace st := st.step hb; clear hb) | (go_at_call 53; refine (refheld_any st.ref).mono ?_; rintro r w8 ⟨rfl, hb⟩; replace st := st.step hb; clear hb) | (go_at_call 45; refine (size_any st.tab).mono ?_; rintro r w9 ⟨rfl, hb⟩; replace st := st.step hb; clear hb))
          go_roundw
          case rel => exact ⟨k + 1, rb, rr, f, by omega, by go_num, rfl, st⟩
          case measure => simp [intOf]; omega
      · obtain rfl : k = n := by omega
        have q4 : ¬(k : Int) < (k : Int) := by omega
        go_wp2_with (with_reducible refine at_end ?_)
        unfold AtEnd
        go_returns
        exact ⟨rfl, st.below⟩
end Go.Proofs.Ytldacinldgjdcaa
