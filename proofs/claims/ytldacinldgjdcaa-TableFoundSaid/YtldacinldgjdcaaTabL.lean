/- Plain laws of the table's laws; the walk of the law TableClear: it returns true; of what was in memory nothing turns. -/
import Derived.Test.YtldacinldgjdcaaTabD
import Derived.Test.YtldacinldgjdcaaTabO
namespace Go.Proofs.Ytldacinldgjdcaa
open Go.RowKit Go.Maps
attribute [local go_sem] entA_ne slotA_ne
attribute [local go_sem ↓] lv37 zero37 sv37 lv61 zero61 sv61
attribute [local go_sem] run_lv37 run_zero37 run_sv37 run_lv61 run_sv61 run_zeroEnt rowFree_new rowFree_alloc setRow_new setRow_alloc aggAt_newb aggAt_old aggAt_drew aggAt_drewN posA_size oneCells_pos entA_size oneCells_ent After.cell After.frozen After.agg add_block run_b0
attribute [local go_sem high] run_eql61 run_neq61

theorem act_parts {w : World} {a : Addr} {x : ActD} (h : aggAt w a 97 = some (actA x)) : w.cell? a = some (.int .i64 x.k) ∧ aggAt w (a.add 1) 88 = some (posA x.p) ∧ aggAt w (a.add 89) 8 = some (entA x.x) := by
  obtain ⟨_, h2⟩ := aggAt_cell h
  refine ⟨?_, aggAt_of (posA_size _) fun i hi => ?_, aggAt_of (entA_size _) fun i hi => ?_⟩
  · have := h2 0 (by omega)
    rw [show a.add 0 = a by simp [Addr.add]] at this
    rw [this]
    rfl
  · rw [add_add, h2 _ (by omega)]
    have := act_pos x i hi
    simpa [actA] using this
  · rw [add_add, h2 _ (by omega)]
    have := act_ent x i
    simpa [actA] using this
theorem add_pos (a : Addr) (n : Nat) (hn : n ≠ 0) : a.add n = ⟨a.block, a.off + n, none⟩ := by simp [Addr.add, hn]
theorem act_at {w : World} {ad : Addr} {m : Nat} {x : ActD} (h : aggAt w (ad.add m) 97 = some (actA x)) : w.cell? (ad.add m) = some (.int .i64 x.k) ∧ aggAt w ⟨ad.block, (ad.add m).off + 1, none⟩ 88 = some (posA x.p) ∧ aggAt w ⟨ad.block, (ad.add m).off + 89, none⟩ 8 = some (entA x.x) := by
  obtain ⟨h1, h2, h3⟩ := act_parts h
  rw [add_pos _ _ (by omega), add_block] at h2 h3
  exact ⟨h1, h2, h3⟩
theorem held_put (f : Tab) (sz : Nat) (hs : 1 ≤ sz) (c : Nat → Int) (e : Ent) : heldN (putT f sz c e) sz = heldN f sz ∨ heldN (putT f sz c e) sz = heldN f sz + 1 := by
  unfold putT
  split
  · rw [heldN_set f _ _ sz (idxOf_lt hs c)]
    split
    · exact Or.inl rfl
    · exact Or.inr rfl
  · exact Or.inl rfl
set_option maxRecDepth 100000 in
set_option maxHeartbeats 4000000 in
theorem tableClear_walk (z : Int) (A : Option Addr) (n cap : Nat) (ac : Nat → ActD) (w : World) (_ : (Lit.int .i64 z).wf = true) (hp : ActSl w A n cap ac) :
    Calls Try.prog 9 #[.int .i64 z, .slice A n cap] w fun e w' => e = .returned (.bool true) ∧ Below w.heap.size w w' := by
  obtain ⟨hr, _, _, _⟩ := hp
  by_cases hno : z < 1 ∨ 4096 < z ∨ 60 < n
  · have H : z < 1 ∨ (¬z < 1 ∧ 4096 < z) ∨ (¬z < 1 ∧ ¬4096 < z ∧ 60 < (n : Int)) := by omega
    clear hno
    rcases H with h1 | ⟨h1, h2⟩ | ⟨h1, h2, h3⟩
    all_goals
      go_enter Try.func9, Try.ntmps9
      go_wp2_with (first | (with_reducible refine at_end ?_) | (go_at_call 55; refine (awake26_any _).mono ?_; rintro r w2 ⟨rfl, hb⟩))
      unfold AtEnd
      go_returns
      exact ⟨rfl, hb⟩
  · obtain ⟨sz, rfl, hs1, hs2⟩ : ∃ sz : Nat, z = (sz : Int) ∧ 1 ≤ sz ∧ sz ≤ 4096 := ⟨z.toNat, by omega, by omega, by omega⟩
    have hn : n ≤ 60 := by omega
    have q1 : ¬(sz : Int) < 1 := by omega
    have q2 : ¬(4096 : Int) < sz := by omega
    have q3 : ¬(60 : Int) < n := by omega
    have OK := Lib.hid hr.ok
    clear hno
    go_enter Try.func9, Try.ntmps9
    go_wp2_with (first | (with_reducible refine at_end ?_) | (go_at_call 55; refine (awake26_any _).mono ?_; rintro r w2 ⟨rfl, hbw⟩) | (go_at_call 44; refine (new_any hs1 hs2 _).mono ?_; rintro r w3 ⟨tb, bm, rfl, ht, hb, htb, hbm⟩))
    have st0 : Stb w tb bm sz tabE (fun _ => True) w3 := ⟨ht, below_join hbw hb, Nat.le_trans hbw.size hbm, trivial, fun _ _ _ h => h⟩
    clear ht hb htb hbm hbw
    go_loopw [7, 8] (fun s7 s8 wr => ∃ (k : Nat) (f : Tab), k ≤ n ∧ s8 = .int .i64 k ∧ s7 = .int .i64 (heldN f sz : Nat) ∧ Stb w tb bm sz f (fun _ => True) wr) (fun _ i _ => n - (intOf i).toNat)
    case atStart => exact ⟨0, tabE, by omega, rfl, by rw [heldN_tabE]; rfl, st0⟩
    case round =>
      clear st0
      obtain ⟨k, f, hk, rfl, rfl, st⟩ := hrel
      by_cases hlt : k < n
      · obtain ⟨ad, rfl, had, hrow⟩ := (hr.below st.below).row (by omega)
        obtain ⟨c1, c2, c3⟩ := act_at (hrow k hlt)
        have ok := OK.out k hlt
        have q4 : (k : Int) < (n : Int) := by omega
        clear hrow
        go_wp2_with (with_reducible refine at_end ?_)
        have hput := held_put f sz hs1 (ac k).p (ac k).x
        obtain ⟨f', hf'⟩ : ∃ f', putT f sz (ac k).p (ac k).x = f' := ⟨_, rfl⟩
        rw [hf'] at hput
        have HF := Lib.hid hf'
        have HL := Lib.hid (heldN_le f sz)
        clear hf'
        have q5 : ¬(heldN f' sz : Int) < (heldN f sz : Int) := by omega
        have q6 : ¬heldN f' sz < heldN f sz := by omega
        have q7 : IntKind.i64.wrap ((heldN f sz : Int) + 1) = (heldN f sz : Int) + 1 := IntWalk.i64_in _ (by have := HL.out; omega)
        have q8 : ¬(heldN f sz : Int) + 1 < (heldN f' sz : Int) := by omega
        clear hput
        go_still_tail 11, (by kernel_rfl)
        change wpList _ _ _ _ _ (World.drew wr)
        replace st := st.drew
        clear c1 c2 c3 had
        go_wp2_with (first | (with_reducible refine at_end ?_) | (go_at_call 47; refine (put_is st.tab ok.p ok.x rfl HF.out).mono ?_; rintro r w4 ⟨rfl, ht, hg⟩; replace st := st.put ht hg; clear ht hg) | (go_at_call 52; refine (held_any st.tab).mono ?_; rintro r w5 ⟨rfl, hb⟩; replace st := st.step hb; clear hb))
        go_roundw
        case rel => exact ⟨k + 1, f', by omega, by go_num, rfl, st⟩
        case measure => simp [intOf]; omega
      · obtain rfl : k = n := by omega
        have q4 : ¬(k : Int) < (k : Int) := by omega
        go_wp2_with (first | (with_reducible refine at_end ?_) | (go_at_call 51; refine (clear_any st.tab).mono ?_; rintro r w4 ⟨rfl, ht, hg⟩; replace st := st.put ht hg; clear ht hg))
        go_loopw [9] (fun s9 wx => ∃ m : Nat, m ≤ k ∧ s9 = .int .i64 m ∧ Stb w tb bm sz tabE (fun _ => True) wx) (fun i _ => k - (intOf i).toNat)
        case atStart => exact ⟨0, by omega, rfl, st⟩
        case round =>
          clear st
          obtain ⟨m, hm, rfl, st⟩ := hrel
          by_cases hml : m < k
          · obtain ⟨ad, rfl, had, hrow⟩ := (hr.below st.below).row (by omega)
            obtain ⟨c1, c2, c3⟩ := act_at (hrow m hml)
            have ok := OK.out m hml
            have q5 : (m : Int) < (k : Int) := by omega
            clear hrow
            go_wp2_with (first | (with_reducible refine at_end ?_) | (go_at_call 49; refine (get_is st.tab ok.p (tabE_E _ _) (tabE_B _ _)).mono ?_; rintro r w5 ⟨rfl, hb⟩; replace st := st.step hb; clear hb))
            go_roundw
            case rel => exact ⟨m + 1, by omega, by go_num, st.room _⟩
            case measure => simp [intOf]; omega
          · obtain rfl : m = k := by omega
            have q5 : ¬(m : Int) < (m : Int) := by omega
            have hz := heldN_tabE sz
            go_wp2_with (first | (with_reducible refine at_end ?_) | (go_at_call 52; refine (held_any st.tab).mono ?_; rintro r w5 ⟨rfl, hb⟩; replace st := st.step hb; clear hb) | (go_at_call 45; refine (size_any st.tab).mono ?_; rintro r w5 ⟨rfl, hb⟩; replace st := st.step hb; clear hb))
            unfold AtEnd
            go_returns
            exact ⟨ret_bool (by simp), st.below⟩
end Go.Proofs.Ytldacinldgjdcaa
