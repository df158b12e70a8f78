/- The walk of Groups: of each position the first one that is alike to it, in a row of the call's own. -/
import Derived.Test.YtldacinldgjdcaaGrpR
import Derived.Test.YtldacinldgjdcaaThree
import Derived.Deep.Cut
import Derived.Deep.CutRange
import Derived.Deep.CutBlock
namespace Go.Proofs.Ytldacinldgjdcaa
open Go.RowKit Go.Maps
open Go.ChangeShapes (lits)
attribute [local go_sem ↓] lv37 zero37 sv37
attribute [local go_sem] run_lv37 run_zero37 run_sv37 rowFree_new rowFree_alloc setRow_new setRow_alloc aggAt_newb aggAt_old aggAt_drew aggAt_drewN posA_size oneCells_pos After.cell After.frozen After.agg add_block

theorem zero73 (w : World) : (zeroValue 73).run Try.prog w = .ok (.slice none 0 0) w := by kernel_rfl
theorem keyLaw29 : Keyed Try.prog 29 := int_keyed Try.underlying29
/-- What the map reads at a number: nil where nothing has it; else the first ones of the groups that have it. -/
def bornD {H : Type} (zs : List Int) : DataW H := match zs with | [] => .nil | _ => .slice (lits .i64 zs) []
theorem bornD_inj {H : Type} {v : Value} {zs L : List Int} {w : World} {B : Nat} (h : bornD (H := H) L = rowDatum .i64 v zs) (ho : w.ownsInts B 3 .i64 v zs) : zs = L := by
  rcases ho.datum (H := H) with ⟨h1, rfl⟩ | h1
  · rw [h1] at h
    cases L with
    | nil => rfl
    | cons _ _ => cases h
  · rw [h1] at h
    cases L with
    | nil => cases h
    | cons a L =>
      simp only [bornD, DataW.slice.injEq, and_true] at h
      exact ((List.map_inj_right (fun a b hab => by cases hab; rfl)).1 h).symm
theorem bornD_snoc {H : Type} {v : Value} {zs : List Int} {x : Int} {w : World} {B : Nat} (ho : w.ownsInts B 3 .i64 v (zs ++ [x])) : rowDatum (H := H) .i64 v (zs ++ [x]) = bornD (zs ++ [x]) := by
  rw [ho.datum_pos (by simp)]
  cases zs <;> rfl
def mapOk {H : Type} (D : DataW H) (ps : Nat → Nat → Int) (n : Nat) : Prop := IsMap D ∧ ∀ x, D.atKey (.int .u64 x) .nil = bornD (bornL ps x n)
theorem mapOk_made {H : Type} (ps : Nat → Nat → Int) : mapOk (.map [] : DataW H) ps 0 := ⟨isMap_empty, fun _ => rfl⟩
theorem mapOk_stay {H : Type} {D : DataW H} {ps : Nat → Nat → Int} {n : Nat} (h : mapOk D ps n) (hf : ¬firstOf ps n = n) : mapOk D ps (n + 1) := ⟨h.1, fun x => by rw [bornL_no ps n x (Or.inl hf)]; exact h.2 x⟩
theorem mapOk_put {H : Type} {D : DataW H} {ps : Nat → Nat → Int} {n : Nat} (h : mapOk D ps n) (hf : firstOf ps n = n) : mapOk (D.put (.int .u64 (keyV (ps n))) (bornD (bornL ps (keyV (ps n)) n ++ [(n : Int)]))) ps (n + 1) := by
  refine ⟨h.1.put _ _, fun x => ?_⟩
  by_cases hx : x = keyV (ps n)
  · subst hx
    rw [atKey_put_same (k := .int .u64 (keyV (ps n))) h.1 trivial, bornL_yes ps n hf]
  · rw [atKey_put_other (by intro e; exact hx (by cases e; rfl)), bornL_no ps n x (Or.inr fun e => hx e.symm)]
    exact h.2 x
theorem ints_base {w : World} {B C : Nat} {v : Value} {zs : List Int} (h : w.ownsInts B 3 .i64 v zs) (hc : C ≤ B) : w.ownsInts C 3 .i64 v zs := by
  obtain ⟨⟨h1, h2⟩, h3⟩ := h
  refine ⟨⟨h1, ?_⟩, h3⟩
  rcases h2 with h2 | ⟨g, cap, cur, e1, e2, e3⟩
  · exact Or.inl h2
  · exact Or.inr ⟨g, cap, cur, e1, by omega, e3⟩
theorem ints_shape {w : World} {B : Nat} {v : Value} {zs : List Int} (h : w.ownsInts B 3 .i64 v zs) :
    ∃ (A : Option Addr) (cap : Nat), v = .slice A zs.length cap ∧ (0 < zs.length → ∃ g, A = some ⟨g, 0, none⟩ ∧ B ≤ g ∧ g < w.heap.size) ∧ ∀ (g m : Nat) (x : Int), A = some ⟨g, 0, none⟩ → zs[m]? = some x → w.cell? ⟨g, m, none⟩ = some (.int .i64 x) := by
  have hr := h.1
  rcases h.1.2 with ⟨e1, e2⟩ | ⟨g, cap, cur, e1, e2, e3, _⟩
  · exact ⟨none, 0, by rw [e1, e2], fun hz => by omega, fun _ _ _ e => by cases e⟩
  · refine ⟨some ⟨g, 0, none⟩, cap, e1, fun _ => ⟨g, rfl, e2, (Array.getElem?_eq_some_iff.1 e3).1⟩, fun g' m x e hx => ?_⟩
    cases e
    have := hr.cells (g := g) (by rw [e1]; rfl) m (.int .i64 x) (by simp [hx])
    rwa [add0] at this
theorem wf_u64 {x : Int} (h : R64 x) : (Lit.int .u64 x).wf = true := by
  have h1 := h.1
  have h2 := h.2
  have h3 : IntKind.u64.min = 0 := rfl
  have h4 : IntKind.u64.max = 18446744073709551615 := rfl
  simp [Lit.wf]
  omega
/-- The loop's state behind k rounds: the map, the row that is told, and that they lie apart. -/
structure GrpSt (H : Type) (w : World) (ps : Nat → Nat → Int) (k : Nat) (o : Value) (D : DataW H) (A : World) : Prop where
  groups : A.ownsGroups Try.prog 29 (w.heap.size + 1) 3 .i64 w.heap.size k D
  map : mapOk D ps k
  row : A.ownsInts (w.heap.size + 1) 3 .i64 o (firstsL ps k)
  apart : A.Shuns w.heap.size fun g => o.ownBlock = some g
  below : Below w.heap.size w A
  size : w.heap.size + 1 ≤ A.heap.size
theorem GrpSt.after {H : Type} {w : World} {ps : Nat → Nat → Int} {k : Nat} {o : Value} {D : DataW H} {A B : World} (h : GrpSt H w ps k o D A) (hb : Below A.heap.size A B) : GrpSt H w ps k o D B :=
  ⟨h.groups.kept (grown_of hb) (by simp) (fun _ _ _ x _ => by cases x.val.ownBlock <;> simp), h.map, ints_below h.row hb, h.apart.kept (grown_of hb) (by have := h.size; omega) (by simp), h.below.trans (hb.mono (by have := h.size; omega)), Nat.le_trans h.size hb.size⟩
theorem groups_more {H : Type} {A : World} {B b n : Nat} {D : DataW H} (h : A.ownsGroups Try.prog 29 B 3 .i64 b n D) : A.ownsGroups Try.prog 29 B 3 .i64 b (n + 1) D := by
  obtain ⟨es, clock, h1, h2, h3, h4, h5, h6, h7⟩ := h
  exact ⟨es, clock, h1, h2, by omega, h4, h5, fun x hx zs hz => Nat.le_trans (h6 x hx zs hz) (by omega), h7⟩
/-- The round's state behind the map's store, ahead of the append onto the row. -/
structure MidSt (H : Type) (w : World) (ps : Nat → Nat → Int) (k : Nat) (o : Value) (D : DataW H) (A : World) : Prop where
  groups : A.ownsGroups Try.prog 29 (w.heap.size + 1) 3 .i64 w.heap.size (k + 1) D
  map : mapOk D ps (k + 1)
  row : A.ownsInts (w.heap.size + 1) 3 .i64 o (firstsL ps k)
  apart : A.Shuns w.heap.size fun g => o.ownBlock = some g
  below : Below w.heap.size w A
  size : w.heap.size + 1 ≤ A.heap.size
theorem mid_no {H : Type} {w : World} {ps : Nat → Nat → Int} {k : Nat} {o : Value} {D : DataW H} {A : World} (h : GrpSt H w ps k o D A) (hf : ¬firstOf ps k = k) : MidSt H w ps k o D A :=
  ⟨groups_more h.groups, mapOk_stay h.map hf, h.row, h.apart, h.below, h.size⟩
theorem own_ge {w : World} {B : Nat} {v : Value} {zs : List Int} (h : w.ownsInts B 3 .i64 v zs) (g : Nat) (hg : v.ownBlock = some g) : B ≤ g ∧ g < w.heap.size := h.1.lt g hg
theorem own_apart {v o : Value} (h : ∀ g, v.ownBlock = some g → ¬o.ownBlock = some g) : o.ownBlock = none ∨ o.ownBlock ≠ v.ownBlock := by
  cases ho : o.ownBlock with
  | none => exact Or.inl rfl
  | some g => exact Or.inr fun e => h g e.symm ho
theorem mid_yes {H : Type} {w : World} {ps : Nat → Nat → Int} {k : Nat} {o v v' : Value} {D : DataW H} {A A1 A2 A3 : World} {zs : List Int} (h : GrpSt H w ps k o D A) (hf : firstOf ps k = k) (hv : A.ownsInts (w.heap.size + 1) 3 .i64 v zs)
    (hzs : zs = bornL ps (keyV (ps k)) k) (hno : ∀ g, v.ownBlock = some g → ¬o.ownBlock = some g) (h1 : A.grownBy A1 none) (h2 : A1.grownBy A2 v.ownBlock) (hv' : A2.ownsInts (w.heap.size + 1) 3 .i64 v' (zs ++ [(k : Int)]))
    (h3 : A3.ownsGroups Try.prog 29 (w.heap.size + 1) 3 .i64 w.heap.size (k + 1) (D.put (.int .u64 (keyV (ps k))) (rowDatum .i64 v' (zs ++ [(k : Int)])))) (h4 : A2.grownBy A3 (some w.heap.size)) (h5 : A3.Shuns w.heap.size fun g => o.ownBlock = some g) :
    MidSt H w ps k o (D.put (.int .u64 (keyV (ps k))) (bornD (bornL ps (keyV (ps k)) k ++ [(k : Int)]))) A3 := by
  have e := bornD_snoc (H := H) hv'
  rw [hzs] at e
  rw [hzs, e] at h3
  have r1 := h.row.kept h1 (by cases o.ownBlock <;> simp)
  have r2 := r1.kept h2 (own_apart hno)
  have r3 := r2.kept h4 (by
    cases ho : o.ownBlock with
    | none => exact Or.inl rfl
    | some g => exact Or.inr fun e => by cases e; have := (own_ge h.row _ ho).1; omega)
  have b1 := h.below.grown h1 (by have := h.size; omega) (fun g hg => by cases hg)
  have b2 := b1.grown h2 (by have := h.size; have := h1.size; omega) (fun g hg => by have := (own_ge hv g hg).1; omega)
  have b3 := b2.grown h4 (by have := h.size; have := h1.size; have := h2.size; omega) (fun g hg => by cases hg; exact Nat.le_refl _)
  exact ⟨h3, mapOk_put h.map hf, r3, h5, b3, by have := h.size; have := h1.size; have := h2.size; have := h4.size; omega⟩
theorem mid_step {H : Type} {w : World} {ps : Nat → Nat → Int} {k : Nat} {o o' : Value} {D : DataW H} {A A1 A2 : World} (h : MidSt H w ps k o D A) (h1 : A.grownBy A1 none) (h2 : A1.grownBy A2 o.ownBlock)
    (hv' : A2.ownsInts (w.heap.size + 1) 3 .i64 o' (firstsL ps k ++ [(firstOf ps k : Int)])) (hloc : o'.ownBlock = o.ownBlock ∨ o'.ownBlock = some A1.heap.size) : GrpSt H w ps (k + 1) o' D A2 := by
  have hz := h.size
  have hne : some w.heap.size ≠ o.ownBlock := fun e => by have := (own_ge h.row _ e.symm).1; omega
  have g1 := h.groups.kept h1 (by simp) (fun _ _ _ x _ => by cases x.val.ownBlock <;> simp)
  have s1 := h.apart.kept h1 (by omega) (by simp)
  have g2 := g1.kept h2 hne (s1.rowsOff (fun j hj => hj))
  have s2 : A1.Shuns w.heap.size fun g => o'.ownBlock = some g := s1.reno g1 (fun g hg => by
    rcases hloc with e | e
    · exact Or.inl (by rw [← e]; exact hg)
    · rw [e] at hg; cases hg; exact Or.inr (Nat.le_refl _))
  have s3 := s2.kept h2 (by have := h1.size; omega) hne
  have b1 := h.below.grown h1 (by omega) (fun g hg => by cases hg)
  have b2 := b1.grown h2 (by have := h1.size; omega) (fun g hg => by have := (own_ge h.row g hg).1; omega)
  exact ⟨g2, h.map, by rw [firstsL_succ]; exact hv', s3, b2, by have := h1.size; have := h2.size; omega⟩
theorem no_meet {H : Type} {w : World} {ps : Nat → Nat → Int} {k : Nat} {o v v' : Value} {D : DataW H} {A : World} {ob : Obj} (h : GrpSt H w ps k o D A) (hno : ∀ g, v.ownBlock = some g → ¬o.ownBlock = some g)
    (hloc : v'.ownBlock = v.ownBlock ∨ v'.ownBlock = some (A.alloc ob).heap.size) : ∀ g, v'.ownBlock = some g → ¬o.ownBlock = some g := by
  intro g hg hg2
  rcases hloc with e | e
  · exact hno g (e.symm.trans hg) hg2
  · have h1 := (own_ge h.row g hg2).2
    have h2 : g = A.heap.size + 1 := by rw [e] at hg; simpa using hg.symm
    omega
set_option maxRecDepth 100000 in
set_option maxHeartbeats 1000000 in
theorem groups_any (A : Option Addr) (n cap : Nat) (ps : Nat → Nat → Int) (w : World) (hp : PosRow w A n ps) (hn : n ≤ 1000000) :
    Calls Try.prog 57 #[.slice A n cap] w fun e w' => ∃ v, e = .returned v ∧ w'.ownsInts w.heap.size 3 .i64 v (firstsL ps n) ∧ Below w.heap.size w w' := by
  obtain ⟨i0, hi, hz0, hz1, hz2⟩ := info_parts info3
  have hmm := @run_makeMap Try.prog
  go_enter Try.func57, Try.ntmps57
  go_wp2_with (with_reducible refine at_end ?_)
  go_loopw [4, 14] (fun x i wr => ∃ (k : Nat) (D : DataW Unit), k ≤ n ∧ i = .int .i64 k ∧ GrpSt Unit w ps k x D wr) (fun _ i _ => n - (intOf i).toNat)
  case atStart => exact ⟨0, .map [], by omega, rfl, ⟨World.ownsGroups_made _ _ _ _ _, mapOk_made ps, World.ownsInts_nil _ _ _ _, World.Shuns_made _ _, (Below.refl _ _).alloc (Nat.le_refl _) _, by simp⟩⟩
  case round =>
    obtain ⟨k, D, hk, rfl, hst⟩ := hrel
    by_cases hlt : k < n
    · have q1 : (k : Int) < (n : Int) := by omega
      have hsz := hst.size
      have hp1 := hp.below hst.below
      obtain ⟨ad, hA, had, hrow⟩ := hp1.row (by omega)
      have h2 := hrow k hlt
      have o2 := Lib.hid (hp.ok k hlt)
      subst hA
      clear hrow
      go_upto_region 8 with (go_at_call 42; refine (key_any _ o2.out _).mono ?_; rintro e w1 ⟨rfl, hb1⟩)
      have hbw1 : Below wr.heap.size wr w1 := ((Below.refl _ _).alloc (Nat.le_refl _) _).trans (hb1.mono (by simp))
      have st1 := hst.after hbw1
      have hpb : aggAt w1 ⟨wr.heap.size, 0, none⟩ 88 = some (posA (ps k)) := aggAt_below (aggAt_new _ _ _ _ (posA_size _)) hb1 (by simp)
      have hl1 : wr.heap.size < w1.heap.size := Nat.lt_of_lt_of_le (by simp) hb1.size
      clear hb1
      go_upto_block 2 with (first | (at_lookup; refine wpList_lookup_groups_shuns _ rfl _ _ 107 rfl 29 73 3 .i64 keyLaw29 Try.underlying107 (zero73 _) (w.heap.size + 1) w.heap.size k _ rfl st1.groups (by unfold maxLen; omega) _ _ rfl (keyOf_int_mk Try.underlying29 (wf_u64 (R64_xs _))) ?_; intro v zs hat hoi hzl hback hno; have hzs := Lib.hid (bornD_inj ((st1.map.2 _).symm.trans hat) hoi); clear hat hback hno; obtain ⟨vA, vc, rfl, hvb, hvc⟩ := ints_shape hoi; clear hoi))
      go_cut [8] from 26 to 37 (fun s8 wx => s8 = .int .i64 (firstOf ps k) ∧ Below w1.heap.size w1 wx)
      case first =>
        go_wp2
        go_loopw [8, 26] (fun a i wx => ∃ m : Nat, m ≤ zs.length ∧ i = .int .i64 m ∧ a = .int .i64 k ∧ Below w1.heap.size w1 wx ∧ ∀ m' j : Nat, m' < m → (bornN ps (keyV (ps k)) k)[m']? = some j → sameB (ps j) (ps k) = false) (fun _ i _ => zs.length - (intOf i).toNat)
        case atStart => exact ⟨0, by omega, rfl, rfl, Below.refl _ _, fun _ _ h => by omega⟩
        case round =>
          obtain ⟨m, hm, rfl, rfl, hbx, hno⟩ := hrel
          have HN := Lib.hid hno
          clear hno
          by_cases hml : m < zs.length
          · obtain ⟨j, hj1, hjk, hjf, hjx, hjn⟩ := bornL_get (ps := ps) (x := keyV (ps k)) (n := k) (m := m) (by rw [← hzs.out]; exact hml)
            rw [← hzs.out] at hj1
            obtain ⟨g, hA, hgB, hgl⟩ := hvb (by omega)
            subst hA
            have c1 : wr.cell? ⟨g, m, none⟩ = some (.int .i64 j) := (hbx.cell (p := ⟨g, m, none⟩) hgl).trans (hvc g m j rfl hj1)
            obtain ⟨ad', e, had', hrow⟩ := ((hp1.below hbw1).below hbx).row (by omega)
            cases e
            have h1 := hrow j (by omega)
            clear hrow
            have h2 := aggAt_below hpb hbx hl1
            have l1 := Nat.lt_of_lt_of_le hl1 hbx.size
            have o1 := Lib.hid (hp.ok j (by omega))
            have q2 : (j : Int) < (n : Int) := by omega
            have q3 : (m : Int) < (zs.length : Int) := by omega
            have hkf := Lib.hid (hjf)
            clear hj1 hjf hjx hgB hgl
            rcases Bool.eq_false_or_eq_true (sameB (ps j) (ps k)) with hs | hs
            · have HF := born_found hkf.out hs
              go_wp2_with (with_reducible refine at_end ?_)
              refine wp_region_after (by kernel_rfl) (by kernel_rfl) ?_
              repeat (refine wpQuiet_step (fun K hK => ?_); go_simp; first | (refine hK _ ?_; clear hK K) | (apply Exists.intro; refine ⟨fun p => ?_, hK _ ?_⟩; (go_at_call 59; exact After.call p (same_any _ _ _ o1.out o2.out)); clear hK K))
              refine wpQuiet_nil ?_
              intro w2 hb2
              have hbx2 := below_join hbx (hb2.mono (Nat.le_refl _))
              clear c1 h1 h2 q2 q3 l1 hb2 o1 had'
              simp only [hs]
              clear hs
              go_wp2_with (with_reducible refine at_end ?_)
              go_meet
              case rel => exact ⟨by rw [HF], hbx2⟩
            · have HG := Lib.hid (⟨hjn, hs⟩ : (bornN ps (keyV (ps k)) k)[m]? = some j ∧ sameB (ps j) (ps k) = false)
              go_wp2_with (with_reducible refine at_end ?_)
              refine wp_region_after (by kernel_rfl) (by kernel_rfl) ?_
              repeat (refine wpQuiet_step (fun K hK => ?_); go_simp; first | (refine hK _ ?_; clear hK K) | (apply Exists.intro; refine ⟨fun p => ?_, hK _ ?_⟩; (go_at_call 59; exact After.call p (same_any _ _ _ o1.out o2.out)); clear hK K))
              refine wpQuiet_nil ?_
              intro w2 hb2
              have hbx2 := below_join hbx (hb2.mono (Nat.le_refl _))
              clear c1 h1 h2 q2 q3 l1 hb2 o1 had'
              simp only [hs]
              clear hs
              clear hjn
              go_wp2_with (with_reducible refine at_end ?_)
              go_roundw
              case rel =>
                refine ⟨m + 1, by omega, by go_num, rfl, hbx2, fun m' j' hm' hj' => ?_⟩
                by_cases e : m' = m
                · subst e
                  rw [HG.out.1] at hj'
                  cases hj'
                  exact HG.out.2
                · exact HN.out m' j' (by omega) hj'
              case measure => simp [intOf]; omega
          · have q3 : ¬(m : Int) < (zs.length : Int) := by omega
            have HF : firstOf ps k = k := born_none fun m' j' hj' => HN.out m' j' (by have := (List.getElem?_eq_some_iff.1 hj').1; rw [hzs.out] at hml; simp only [bornL, List.length_map] at hml; omega) hj'
            go_wp2_with (with_reducible refine at_end ?_)
            go_meet
            case rel => exact ⟨by rw [HF], hbx⟩
      case rest =>
        obtain ⟨rfl, hbc⟩ := hcut
        have st2 := st1.after hbc
        have hz2' := st2.size
        have hfl := firstOf_le ps k
        clear hst st1 hpb hl1 hbw1 hzs hvb hvc hbc h2 hp1
        by_cases hf : firstOf ps k = k
        · have q4 : (firstOf ps k : Int) = (k : Int) := by omega
          go_wp2_with (first | (at_lookup; refine wpList_lookup_groups_shuns _ rfl _ _ 107 rfl 29 73 3 .i64 keyLaw29 Try.underlying107 (zero73 _) (w.heap.size + 1) w.heap.size k _ rfl st2.groups (by unfold maxLen; omega) _ _ rfl (keyOf_int_mk Try.underlying29 (wf_u64 (R64_xs _))) ?_; intro v zs hat hoi hzl hback hno; have hzs := Lib.hid (bornD_inj ((st2.map.2 _).symm.trans hat) hoi); clear hat) | (at_builtin; refine wpList_append_own_at _ rfl _ _ 73 rfl (w.heap.size + 1) 3 i0 (.int .i64 0) 1 8 Try.underlying73 hi hz0 hz1 hz2 rfl (by decide) _ _ _ rfl (hoi.1.alloc _) ⟨wc.heap.size, 0, none⟩ 1 1 [.int .i64 k] rfl rfl (cell_one_new _ _ _) (ints_oneCell .i64 [(k : Int)]) (by unfold maxLen; omega) (by omega) (by simp; omega) ?_; intro v' w2 hown' hgrow hnil hloc; have hvv := hoi.appended hown' (WalkArith.wf_i64 (by omega)); clear hown' hnil) | (at_mapUpdate; refine wpList_mapUpdate_back_shuns (No := fun g => u4.ownBlock = some g) _ rfl _ _ _ 107 rfl keyLaw29 Try.underlying107 (keyOf_int_mk Try.underlying29 (wf_u64 (R64_xs _))) st2.groups (by unfold maxLen; omega) hoi st2.apart (no_meet st2 (hno _ st2.apart) hloc) hback rfl rfl rfl ((World.grownBy_alloc _ _ _).trans hgrow) hvv (by simp; omega) (hloc.imp id (fun h => ⟨_, h, by simp⟩)) ?_; intro w3 hown3 hgrow3 hsh3; have mid := mid_yes st2 hf hoi hzs.out (fun g hg => hno _ st2.apart g hg) (World.grownBy_alloc _ _ _) hgrow hvv hown3 hgrow3 hsh3; clear hback hgrow hgrow3 hown3 hsh3 hvv hloc hzs hzl hno hoi) | (at_builtin; refine wpList_append_own_at _ rfl _ _ 73 rfl (w.heap.size + 1) 3 i0 (.int .i64 0) 1 8 Try.underlying73 hi hz0 hz1 hz2 rfl (by decide) _ _ _ rfl (mid.row.1.alloc _) ⟨World.heap w3 |>.size, 0, none⟩ 1 1 [.int .i64 k] rfl rfl (cell_one_new _ _ _) (ints_oneCell .i64 [(k : Int)]) (by simp only [firstsL_len]; unfold maxLen; omega) (by simp only [firstsL_len]; omega) (by simp; have := mid.size; omega) ?_; intro o' w4 hown4 hgrow4 hnil4 hloc4) | (with_reducible refine at_end ?_))
          go_roundw
          case rel =>
            refine ⟨k + 1, _, by omega, by go_num, mid_step mid (World.grownBy_alloc _ _ _) hgrow4 (by rw [q4]; exact mid.row.appended hown4 (WalkArith.wf_i64 (by omega))) hloc4⟩
          case measure => simp [intOf]; omega
        · have q4 : ¬(firstOf ps k : Int) = (k : Int) := by omega
          have mid := mid_no st2 hf
          go_wp2_with (first | (at_builtin; refine wpList_append_own_at _ rfl _ _ 73 rfl (w.heap.size + 1) 3 i0 (.int .i64 0) 1 8 Try.underlying73 hi hz0 hz1 hz2 rfl (by decide) _ _ _ rfl (mid.row.1.alloc _) ⟨World.heap wc |>.size, 0, none⟩ 1 1 [.int .i64 (firstOf ps k)] rfl rfl (cell_one_new _ _ _) (ints_oneCell .i64 [(firstOf ps k : Int)]) (by simp only [firstsL_len]; unfold maxLen; omega) (by simp only [firstsL_len]; omega) (by simp; have := mid.size; omega) ?_; intro o' w4 hown4 hgrow4 hnil4 hloc4) | (with_reducible refine at_end ?_))
          go_roundw
          case rel =>
            refine ⟨k + 1, _, by omega, by go_num, mid_step mid (World.grownBy_alloc _ _ _) hgrow4 (mid.row.appended hown4 (WalkArith.wf_i64 (by omega))) hloc4⟩
          case measure => simp [intOf]; omega
    · have q1 : ¬(k : Int) < (n : Int) := by omega
      obtain rfl : k = n := by omega
      go_wp2_with (with_reducible refine at_end ?_)
      unfold AtEnd
      go_returns
      exact ⟨_, rfl, ints_base hst.row (by omega), hst.below⟩
end Go.Proofs.Ytldacinldgjdcaa
