/- The iterator over the numbers of a position: it tells each of them to the loop, in their order. -/
import Derived.Test.YtldacinldgjdcaaKeyA
namespace Go.Proofs.Ytldacinldgjdcaa
open Go.RowKit
attribute [local go_sem ↓] lv28 lv33 lv30
attribute [local go_sem] run_lv28 run_lv33 run_lv30

theorem run_index {t e n : Nat} {d : TypeDesc} (ht : Try.prog.underlying t = some (.array n e)) (he : Try.prog.underlying e = some d) (hd : (match d with | .struct _ | .array _ _ => true | _ => false) = false) (hs : (Try.prog.info? e).map (·.size) = some 1)
    (A : Array Value) (i : Nat) (v : Value) (hi : i < n) (hA : A[i]? = some v) (w : World) : (Instr.index t (.agg A) (.int .i64 i)).run Try.prog w = .ok v w := by
  have hagg : (isAgg e).run Try.prog w = .ok false w := by
    unfold isAgg
    rw [Sem.run_bind, run_underlying he w]
    cases d <;> simp_all
  cases hq : Try.prog.info? e with
  | none => simp [hq] at hs
  | some inf =>
    have hs1 : inf.size = 1 := by simpa [hq] using hs
    simp [Instr.index, asIntOf, Sem.run_bind, run_underlying ht w, sizeOf, typeInfo, hq, hs1, part, hagg, hi, hA]
theorem run_index28 (c : Nat → Int) (k : Nat) (hk : k < 64) (w : World) : (Instr.index 28 (.agg (segA c 1 64)) (.int .i64 k)).run Try.prog w = .ok (.int .u8 (c (1 + k))) w :=
  run_index Try.underlying28 Try.underlying5 rfl (by kernel_rfl) _ k _ hk (by rw [segA_get _ _ _ _ hk, kind_u8 _ (by omega)]) w
theorem run_index33 (c : Nat → Int) (q k : Nat) (hq : q < 2) (hk : k < 2) (w : World) : (Instr.index 33 (.agg (segA c (79 + q * 2) 2)) (.int .i64 k)).run Try.prog w = .ok (.int .i8 (c (79 + q * 2 + k))) w :=
  run_index Try.underlying33 Try.underlying32 rfl (by kernel_rfl) _ k _ hk (by rw [segA_get _ _ _ _ hk, kind_i8 _ (by omega)]) w
theorem run_index30 (c : Nat → Int) (q k : Nat) (hq : q < 2) (hk : k < 6) (w : World) : (Instr.index 30 (.agg (segA c (66 + q * 6) 6)) (.int .i64 k)).run Try.prog w = .ok (.int .u8 (c (66 + q * 6 + k))) w :=
  run_index Try.underlying30 Try.underlying5 rfl (by kernel_rfl) _ k _ hk (by rw [segA_get _ _ _ _ hk, kind_u8 _ (by omega)]) w
/-! ### The numbers of a position's parts, in the order in which they are told -/
def boardL (c : Nat → Int) (k : Nat) : List Int := (List.range k).map fun s : Nat => pieceV (c (1 + s)) s
theorem boardL_succ (c : Nat → Int) (k : Nat) : boardL c (k + 1) = boardL c k ++ [pieceV (c (1 + k)) k] := by simp [boardL, List.range_succ]
def rooksL (c : Nat → Int) (q k : Nat) : List Int := (List.range k).map fun d : Nat => rookV q d (c (79 + q * 2 + d))
theorem rooksL_succ (c : Nat → Int) (q k : Nat) : rooksL c q (k + 1) = rooksL c q k ++ [rookV q k (c (79 + q * 2 + k))] := by simp [rooksL, List.range_succ]
def pocksL (c : Nat → Int) (q k : Nat) : List Int := (List.range k).map fun j : Nat => pockV q j (c (66 + q * 6 + j))
theorem pocksL_succ (c : Nat → Int) (q k : Nat) : pocksL c q (k + 1) = pocksL c q k ++ [pockV q k (c (66 + q * 6 + k))] := by simp [pocksL, List.range_succ]
def colsL (c : Nat → Int) (q : Nat) : List Int := (List.range q).flatMap fun i => rooksL c i 2 ++ pocksL c i 6 ++ [checkV i (c (84 + i))]
theorem colsL_succ (c : Nat → Int) (q : Nat) : colsL c (q + 1) = colsL c q ++ rooksL c q 2 ++ pocksL c q 6 ++ [checkV q (c (84 + q))] := by simp [colsL, List.range_succ]
def headL (c : Nat → Int) : List Int := boardL c 64 ++ [turnV (c 78)] ++ [passV (c 83)]
def partsL (c : Nat → Int) : List Int := headL c ++ colsL c 2 ++ [promV (c 65)] ++ [partV 8 (c 0)]
def keyV (c : Nat → Int) : Int := xs (partsL c)
theorem R64_ite (b : Bool) (s n : Int) : R64 (if b then partV s n else 0) := by
  split
  · exact R64_part _ _
  · exact R64_0
theorem R64_piece (p s : Int) : R64 (pieceV p s) := R64_ite _ _ _
theorem R64_turn (c : Int) : R64 (turnV c) := R64_ite _ _ _
theorem R64_pass (s : Int) : R64 (passV s) := R64_ite _ _ _
theorem R64_rook (c d f : Int) : R64 (rookV c d f) := R64_ite _ _ _
theorem R64_pock (c k n : Int) : R64 (pockV c k n) := R64_ite _ _ _
theorem R64_check (c n : Int) : R64 (checkV c n) := R64_ite _ _ _
theorem R64_prom (b : Int) : R64 (promV b) := R64_xs _
theorem ok_u8 {c : Nat → Int} (h : PosOk c) (i : Nat) (hi : i < 88) (hk : kindAt i = .u8) : 0 ≤ c i ∧ c i ≤ 255 := by have := h i hi; rw [hk] at this; exact u8_of this
theorem ok_i8 {c : Nat → Int} (h : PosOk c) (i : Nat) (hi : i < 88) (hk : kindAt i = .i8) : -128 ≤ c i ∧ c i ≤ 127 := by have := h i hi; rw [hk] at this; exact i8_of this
theorem ok_u64 {c : Nat → Int} (h : PosOk c) (i : Nat) (hi : i < 88) (hk : kindAt i = .u64) : R64 (c i) := by have := h i hi; rw [hk] at this; exact u64_of this
def PartsPost (J : Int → World → Prop) (c : Nat → Int) (e : Ending) (B : World) : Prop := (∃ v, e = .returned v) ∧ J (keyV c) B
/-- The accumulated list, in one state of the iterator. -/
structure St (n0 l pb : Nat) (c : Nat → Int) (J : Int → World → Prop) (pre : List Int) (A : World) : Prop where
  t : TellSt n0 l pb c A
  j : J (xs pre) A
theorem St.below {n0 l pb : Nat} {c : Nat → Int} {J : Int → World → Prop} {pre : List Int} {A B : World} (hS : Stable n0 J) (h : St n0 l pb c J pre A) (hb : Below A.heap.size A B) : St n0 l pb c J pre B :=
  ⟨h.t.below hb, hS _ _ _ h.j (hb.mono (by have := h.t.lt; omega))⟩
def SayPost (n0 l pb : Nat) (c : Nat → Int) (J : Int → World → Prop) (pre : List Int) (e : Ending) (B : World) : Prop := (∃ v, e = .returned v) ∧ St n0 l pb c J pre B
theorem say_any {m n0 l pb : Nat} {c : Nat → Int} {J : Int → World → Prop} (hm : 1 ≤ m) (hY : Rounds (m - 1) n0 l pb J) (hS : Stable n0 J) (pre : List Int) (x : Int) (hx : R64 x) (A : World) (h : St n0 l pb c J pre A) :
    Calls Try.prog 79 #[.int .u64 x, .pointer (some ⟨n0 + 1, 0, none⟩), .pointer (some ⟨n0, 0, none⟩)] A (SayPost n0 l pb c J (pre ++ [x])) :=
  (tell_any m n0 l pb c J hm hY hS (xs pre) x hx A h.t h.j).mono fun _ _ ⟨he, ht, hj⟩ => ⟨he, ht, by rw [xs_snoc]; exact hj⟩

set_option maxRecDepth 100000 in
set_option maxHeartbeats 4000000 in
theorem parts_any (m l pb : Nat) (c : Nat → Int) (hc : PosOk c) (J : Int → World → Prop) (hm : 1 ≤ m) (W : World) (hpb : pb < W.heap.size) (hp : InBlock W pb c) (hY : Rounds (m - 1) W.heap.size l pb J) (hS : Stable W.heap.size J) (hJ : J 0 W) :
    Calls Try.prog 78 #[.func (.yield l) #[] #[], .pointer (some ⟨pb, 0, none⟩)] W (PartsPost J c) := by
  have HT := Lib.hid (fun (pre : List Int) (x : Int) (hx : R64 x) (A : World) (h : St W.heap.size l pb c J pre A) => say_any hm hY hS pre x hx A h)
  have HB := Lib.hid (fun (pre : List Int) (A B : World) (h : St W.heap.size l pb c J pre A) (hb : Below A.heap.size A B) => h.below hS hb)
  have HC := Lib.hid hc
  clear hY hc
  go_enter Try.func78, Try.ntmps78
  have s0 : St W.heap.size l pb c J [] ((W.alloc (.cells #[.func (.yield l) #[] #[]] 116)).alloc (.cells #[.bool true] 4)) := by
    refine ⟨⟨?_, ?_, (hp.alloc _ hpb).alloc _ (by simp; omega), hpb⟩, hS _ _ _ hJ (((Below.refl _ _).alloc (Nat.le_refl _) _).alloc (by simp) _)⟩
    · rw [heap_alloc_old _ _ _ (by simp)]; exact heap_alloc_new _ _
    · have := heap_alloc_new (W.alloc (.cells #[.func (.yield l) #[] #[]] 116)) (.cells #[.bool true] 4); simpa using this
  have g0 : aggAt ((W.alloc (.cells #[.func (.yield l) #[] #[]] 116)).alloc (.cells #[.bool true] 4)) ⟨pb, 1, none⟩ 64 = some (segA c 1 64) := aggAt_seg (by omega) s0.t.p.cell
  go_wp2_with (with_reducible refine at_end ?_)
  go_loopw [15] (fun i wr => ∃ k : Nat, k ≤ 64 ∧ i = .int .i64 k ∧ St W.heap.size l pb c J (boardL c k) wr) (fun i _ => 64 - (intOf i).toNat)
  case atStart => exact ⟨0, by omega, rfl, s0⟩
  case round =>
    obtain ⟨k, hk, rfl, st⟩ := hrel
    by_cases hlt : k < 64
    · have e1 := run_index28 c k hlt
      obtain ⟨b1, b2⟩ := ok_u8 HC.out (1 + k) (by omega) (kind_u8 _ (by omega))
      go_wp2_with (first | (with_reducible refine at_end ?_) | (go_at_call 28; refine (piece_any _ _ _ b1 b2).mono ?_; rintro e w1 ⟨rfl, hb1⟩; have st1 := HB.out _ _ _ st hb1) | (go_at_call 79; refine (HT.out _ _ (R64_piece _ _) _ st1).mono ?_; rintro e w2 ⟨⟨v, rfl⟩, st2⟩))
      go_roundw
      case rel => exact ⟨k + 1, by omega, by go_num, by rw [boardL_succ]; exact st2⟩
      case measure => simp [intOf]; omega
    · obtain rfl : k = 64 := by omega
      clear s0 g0
      have z1 := st.t.p.at_ 78 .u8 (by omega) rfl
      obtain ⟨b1, b2⟩ := ok_u8 HC.out 78 (by omega) rfl
      obtain ⟨b3, b4⟩ := ok_i8 HC.out 83 (by omega) rfl
      go_wp2_with (first | (with_reducible refine at_end ?_) | (go_at_call 30; refine (turn_any _ _ b1 b2).mono ?_; rintro e w1 ⟨rfl, hb1⟩; have st1 := HB.out _ _ _ st hb1) | (go_at_call 79; refine (HT.out _ _ (R64_turn _) _ st1).mono ?_; rintro e w2 ⟨⟨v, rfl⟩, st2⟩; have z2 := st2.t.p.at_ 83 .i8 (by omega) rfl; clear st st1 z1) | (go_at_call 32; refine (pass_any _ _).mono ?_; rintro e w3 ⟨rfl, hb3⟩; have st3 := HB.out _ _ _ st2 hb3) | (go_at_call 79; refine (HT.out _ _ (R64_pass _) _ st3).mono ?_; rintro e w4 ⟨⟨v, rfl⟩, st4⟩; clear st2 st3 z2))
      have st5 : St W.heap.size l pb c J (headL c ++ colsL c 0) w4 := by simpa [headL, colsL] using st4
      clear st4
      go_loopw [7] (fun t wr => ∃ q : Nat, q ≤ 2 ∧ t = .int .u8 q ∧ St W.heap.size l pb c J (headL c ++ colsL c q) wr) (fun t _ => 2 - (intOf t).toNat)
      case atStart => exact ⟨0, by omega, rfl, st5⟩
      case round =>
        clear st5 hb1 hb3 hlt hk b1 b2 b3 b4
        obtain ⟨q, hq, rfl, st⟩ := hrel
        by_cases hq2 : q < 2
        · have hqd : decide ((q : Int) ≤ 1) = true := by simp; omega
          have q0 : (0 : Int) ≤ (q : Int) := by omega
          have q1 : (q : Int) ≤ 255 := by omega
          have g1 := aggAt_seg (c := c) (off := 79 + q * 2) (n := 2) (by omega) st.t.p.cell
          go_wp2_with (with_reducible refine at_end ?_)
          go_loopw [8, 9, 44] (fun _ _ i wr => ∃ d : Nat, d ≤ 2 ∧ i = .int .i64 d ∧ St W.heap.size l pb c J (headL c ++ colsL c q ++ rooksL c q d) wr) (fun _ _ i _ => 2 - (intOf i).toNat)
          case atStart => exact ⟨0, by omega, rfl, by simpa [rooksL] using st⟩
          case round =>
            clear st g1
            obtain ⟨d, hd, rfl, st⟩ := hrel
            by_cases hd2 : d < 2
            · have e1 := run_index33 c q d hq2 hd2
              obtain ⟨b1, b2⟩ := ok_i8 HC.out (79 + q * 2 + d) (by omega) (kind_i8 _ (by omega))
              go_wp2_with (first | (with_reducible refine at_end ?_) | (go_at_call 34; refine (rook_any _ _ _ _ q0 q1).mono ?_; rintro e w1 ⟨rfl, hb1⟩; have st1 := HB.out _ _ _ st hb1) | (go_at_call 79; refine (HT.out _ _ (R64_rook _ _ _) _ st1).mono ?_; rintro e w2 ⟨⟨v, rfl⟩, st2⟩))
              go_roundw
              case rel => exact ⟨d + 1, by omega, by go_num, by rw [rooksL_succ, ← List.append_assoc]; exact st2⟩
              case measure => simp [intOf]; omega
            · have hdd : decide ((d : Int) < 2) = false := by simp; omega
              rw [show d = 2 by omega] at st
              have g2 := aggAt_seg (c := c) (off := 66 + q * 6) (n := 6) (by omega) st.t.p.cell
              go_wp2_with (with_reducible refine at_end ?_)
              go_loopw [10, 11, 60] (fun _ _ i wr => ∃ j : Nat, j ≤ 6 ∧ i = .int .i64 j ∧ St W.heap.size l pb c J (headL c ++ colsL c q ++ rooksL c q 2 ++ pocksL c q j) wr) (fun _ _ i _ => 6 - (intOf i).toNat)
              case atStart => exact ⟨0, by omega, rfl, by simpa [pocksL] using st⟩
              case round =>
                clear st g2
                obtain ⟨j, hj, rfl, st⟩ := hrel
                by_cases hj6 : j < 6
                · have e1 := run_index30 c q j hq2 hj6
                  obtain ⟨b1, b2⟩ := ok_u8 HC.out (66 + q * 6 + j) (by omega) (kind_u8 _ (by omega))
                  have j0 : (0 : Int) ≤ (j : Int) := by omega
                  have j1 : (j : Int) ≤ 255 := by omega
                  go_wp2_with (first | (with_reducible refine at_end ?_) | (go_at_call 36; refine (pock_any _ _ _ _ q0 q1 j0 j1 b1 b2).mono ?_; rintro e w1 ⟨rfl, hb1⟩; have st1 := HB.out _ _ _ st hb1) | (go_at_call 79; refine (HT.out _ _ (R64_pock _ _ _) _ st1).mono ?_; rintro e w2 ⟨⟨v, rfl⟩, st2⟩))
                  go_roundw
                  case rel => exact ⟨j + 1, by omega, by go_num, by rw [pocksL_succ, ← List.append_assoc]; exact st2⟩
                  case measure => simp [intOf]; omega
                · obtain rfl : j = 6 := by omega
                  have z1 := st.t.p.at_ (84 + q) .u8 (by omega) (kind_u8 _ (by omega))
                  obtain ⟨b1, b2⟩ := ok_u8 HC.out (84 + q) (by omega) (kind_u8 _ (by omega))
                  go_wp2_with (first | (with_reducible refine at_end ?_) | (go_at_call 38; refine (check_any _ _ _ q0 q1 b1 b2).mono ?_; rintro e w1 ⟨rfl, hb1⟩; have st1 := HB.out _ _ _ st hb1) | (go_at_call 79; refine (HT.out _ _ (R64_check _ _) _ st1).mono ?_; rintro e w2 ⟨⟨v, rfl⟩, st2⟩))
                  go_roundw
                  case rel => exact ⟨q + 1, by omega, by go_num, by rw [colsL_succ]; simpa [List.append_assoc] using st2⟩
                  case measure => simp [intOf]; omega
        · obtain rfl : q = 2 := by omega
          have z1 := st.t.p.at_ 65 .u64 (by omega) rfl
          have b0 := ok_u64 HC.out 65 (by omega) rfl
          obtain ⟨b3, b4⟩ := ok_u8 HC.out 0 (by omega) rfl
          go_wp2_with (first | (with_reducible refine at_end ?_) | (go_at_call 40; refine (prom_any _ _ b0).mono ?_; rintro e w1 ⟨rfl, hb1⟩; have st1 := HB.out _ _ _ st hb1) | (go_at_call 79; refine (HT.out _ _ (R64_prom _) _ st1).mono ?_; rintro e w2 ⟨⟨v, rfl⟩, st2⟩; have z2 := st2.t.p.at_ 0 .u8 (by omega) rfl; clear st st1 z1) | (go_at_call 26; refine (part_any _ _ _).mono ?_; rintro e w3 ⟨rfl, hb3⟩; have st3 := HB.out _ _ _ st2 hb3) | (go_at_call 79; refine (HT.out _ _ (R64_part _ _) _ st3).mono ?_; rintro e w4 ⟨⟨v, rfl⟩, st4⟩; clear st2 st3 z2))
          exact bodyPost_end (results_none rfl _ _ _) rfl ⟨⟨_, rfl⟩, st4.j⟩
end Go.Proofs.Ytldacinldgjdcaa
