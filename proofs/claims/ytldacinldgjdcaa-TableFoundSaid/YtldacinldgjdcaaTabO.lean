/- What the reading in the statement says of the cells of an entry, of an act, and of a slice of acts. -/
import Derived.Test.YtldacinldgjdcaaTabB
import Derived.Test.YtldacinldgjdcaaOpen
namespace Go.Proofs.Ytldacinldgjdcaa
open Go.RowKit Go.ChangeShapes Go.WideShapes Go.ChangeAt

/-- An act: its kind, a position, an entry. -/
structure ActD where
  k : Int
  p : Nat → Int
  x : Ent
structure ActOk (a : ActD) : Prop where
  k : (Lit.int .i64 a.k).wf = true
  p : PosOk a.p
  x : EntOk a.x
def actL (a : ActD) : List Value := .int .i64 a.k :: (seg a.p 0 88 ++ entL a.x)
def actA (a : ActD) : Array Value := ⟨actL a⟩
@[simp] theorem actL_len (a : ActD) : (actL a).length = 97 := by simp [actL]
@[simp] theorem actA_size (a : ActD) : (actA a).size = 97 := by simp [actA]
theorem one_of {l : List Value} {i : Nat} {v : Value} (h : (l.drop i).take 1 = [v]) : l[i]? = some v := by
  have := congrArg (fun l => l[0]?) h
  simpa [List.getElem?_take, List.getElem?_drop] using this
theorem act_pos (a : ActD) (i : Nat) (h : i < 88) : (actL a)[1 + i]? = (posA a.p)[i]? := by
  unfold actL
  rw [show 1 + i = i + 1 by omega, List.getElem?_cons_succ, List.getElem?_append_left (by simpa using h)]
  simp [posA, segA]
theorem act_ent (a : ActD) (i : Nat) : (actL a)[89 + i]? = (entA a.x)[i]? := by
  unfold actL
  rw [show 89 + i = (88 + i) + 1 by omega, List.getElem?_cons_succ, List.getElem?_append_right (by simp)]
  simp [entA]
section
variable {H : Type} {enc : TypeId × Value → H} {w : World} {base : Nat} {spare : Nat → Bool} {held : Bool}
theorem ent_of (fuel : Nat) (x : DataW H × List MemPlace) (l : List Value) (h : DataW.trod enc Try.prog w base spare held fuel 61 l = some x) : ∃ e, EntOk e ∧ l = entL e := by
  obtain ⟨xs, m, _, _, hlen, hl, hx⟩ := DataW.trod_struct Try.underlying61 h
  have c3 : Try.prog.cellsOf 3 = 1 := by kernel_rfl
  have c5 : Try.prog.cellsOf 5 = 1 := by kernel_rfl
  have c4 : Try.prog.cellsOf 4 = 1 := by kernel_rfl
  have c32 : Try.prog.cellsOf 32 = 1 := by kernel_rfl
  have c59 : Try.prog.cellsOf 59 = 5 := by kernel_rfl
  have c61 : Try.prog.cellsOf 61 = 8 := by kernel_rfl
  rw [c61] at hlen
  have hl4 : xs.length = 4 := hl
  have g (i : Nat) (hi : i < 4) : xs[i]? = some (xs[i]'(by omega)) := List.getElem?_eq_getElem (by omega)
  have f0 : DataW.trod enc Try.prog w base spare held m 3 ((l.drop 0).take (Try.prog.cellsOf 3)) = some (xs[0]'(by omega)) := (hx 0 _ rfl).trans (g 0 (by omega))
  have f1 : DataW.trod enc Try.prog w base spare held m 3 ((l.drop 1).take (Try.prog.cellsOf 3)) = some (xs[1]'(by omega)) := (hx 1 _ rfl).trans (g 1 (by omega))
  have f2 : DataW.trod enc Try.prog w base spare held m 5 ((l.drop 2).take (Try.prog.cellsOf 5)) = some (xs[2]'(by omega)) := (hx 2 _ rfl).trans (g 2 (by omega))
  have f3 : DataW.trod enc Try.prog w base spare held m 59 ((l.drop 3).take (Try.prog.cellsOf 59)) = some (xs[3]'(by omega)) := (hx 3 _ rfl).trans (g 3 (by omega))
  rw [c3] at f0 f1
  rw [c5] at f2
  rw [c59] at f3
  obtain ⟨d, hd, _, wd⟩ := DataW.trod_int Try.underlying3 f0
  obtain ⟨v, hv, _, wv⟩ := DataW.trod_int Try.underlying3 f1
  obtain ⟨k, hk, _, wk⟩ := DataW.trod_int Try.underlying5 f2
  obtain ⟨ys, n, _, _, hlen2, hl2, hy⟩ := DataW.trod_struct Try.underlying59 f3
  have hl5 : ys.length = 5 := hl2
  have g' (i : Nat) (hi : i < 5) : ys[i]? = some (ys[i]'(by omega)) := List.getElem?_eq_getElem (by omega)
  have e0 : DataW.trod enc Try.prog w base spare held n 32 ((((l.drop 3).take 5).drop 0).take (Try.prog.cellsOf 32)) = some (ys[0]'(by omega)) := (hy 0 _ rfl).trans (g' 0 (by omega))
  have e1 : DataW.trod enc Try.prog w base spare held n 32 ((((l.drop 3).take 5).drop 1).take (Try.prog.cellsOf 32)) = some (ys[1]'(by omega)) := (hy 1 _ rfl).trans (g' 1 (by omega))
  have e2 : DataW.trod enc Try.prog w base spare held n 5 ((((l.drop 3).take 5).drop 2).take (Try.prog.cellsOf 5)) = some (ys[2]'(by omega)) := (hy 2 _ rfl).trans (g' 2 (by omega))
  have e3 : DataW.trod enc Try.prog w base spare held n 5 ((((l.drop 3).take 5).drop 3).take (Try.prog.cellsOf 5)) = some (ys[3]'(by omega)) := (hy 3 _ rfl).trans (g' 3 (by omega))
  have e4 : DataW.trod enc Try.prog w base spare held n 4 ((((l.drop 3).take 5).drop 4).take (Try.prog.cellsOf 4)) = some (ys[4]'(by omega)) := (hy 4 _ rfl).trans (g' 4 (by omega))
  rw [c32] at e0 e1
  rw [c5] at e2 e3
  rw [c4] at e4
  rw [take_of_drop _ _ _ _ _ (by omega)] at e0 e1 e2 e3 e4
  obtain ⟨ff, hf, _, wf⟩ := DataW.trod_int Try.underlying32 e0
  obtain ⟨t, ht, _, wt⟩ := DataW.trod_int Try.underlying32 e1
  obtain ⟨p, hp, _, wp⟩ := DataW.trod_int Try.underlying5 e2
  obtain ⟨r, hr, _, wr⟩ := DataW.trod_int Try.underlying5 e3
  obtain ⟨c, hc, _⟩ := DataW.trod_bool Try.underlying4 e4
  refine ⟨⟨d, v, k, ff, t, p, r, c⟩, ⟨wd, wv, wk, wf, wt, wp, wr⟩, ?_⟩
  apply List.ext_getElem?
  intro i
  by_cases h0 : i = 0
  · subst h0; rw [one_of hd]; rfl
  by_cases h1 : i = 1
  · subst h1; rw [one_of hv]; rfl
  by_cases h2 : i = 2
  · subst h2; rw [one_of hk]; rfl
  by_cases h3 : i = 3
  · subst h3; rw [one_of hf]; rfl
  by_cases h4 : i = 4
  · subst h4; rw [one_of ht]; rfl
  by_cases h5 : i = 5
  · subst h5; rw [one_of hp]; rfl
  by_cases h6 : i = 6
  · subst h6; rw [one_of hr]; rfl
  by_cases h7 : i = 7
  · subst h7; rw [one_of hc]; rfl
  rw [List.getElem?_eq_none (by omega), List.getElem?_eq_none (by simp; omega)]
theorem act_of (fuel : Nat) (x : DataW H × List MemPlace) (l : List Value) (h : DataW.trod enc Try.prog w base spare held fuel 63 l = some x) : ∃ a, ActOk a ∧ l = actL a := by
  obtain ⟨xs, m, _, _, hlen, hl, hx⟩ := DataW.trod_struct Try.underlying63 h
  have c3 : Try.prog.cellsOf 3 = 1 := by kernel_rfl
  have c37 : Try.prog.cellsOf 37 = 88 := by kernel_rfl
  have c61 : Try.prog.cellsOf 61 = 8 := by kernel_rfl
  have c63 : Try.prog.cellsOf 63 = 97 := by kernel_rfl
  rw [c63] at hlen
  have hl3 : xs.length = 3 := hl
  have g (i : Nat) (hi : i < 3) : xs[i]? = some (xs[i]'(by omega)) := List.getElem?_eq_getElem (by omega)
  have f0 : DataW.trod enc Try.prog w base spare held m 3 ((l.drop 0).take (Try.prog.cellsOf 3)) = some (xs[0]'(by omega)) := (hx 0 _ rfl).trans (g 0 (by omega))
  have f1 : DataW.trod enc Try.prog w base spare held m 37 ((l.drop 1).take (Try.prog.cellsOf 37)) = some (xs[1]'(by omega)) := (hx 1 _ rfl).trans (g 1 (by omega))
  have f2 : DataW.trod enc Try.prog w base spare held m 61 ((l.drop 89).take (Try.prog.cellsOf 61)) = some (xs[2]'(by omega)) := (hx 2 _ rfl).trans (g 2 (by omega))
  rw [c3] at f0
  rw [c37] at f1
  rw [c61] at f2
  obtain ⟨k, hk, _, wk⟩ := DataW.trod_int Try.underlying3 f0
  have hg := good37 l 1 m _ f1
  obtain ⟨e, he, hl8⟩ := ent_of m _ _ f2
  refine ⟨⟨k, posOf l 1, e⟩, ⟨wk, posOf_ok hg, he⟩, ?_⟩
  apply List.ext_getElem?
  intro i
  by_cases h0 : i = 0
  · subst h0; rw [one_of hk]; rfl
  by_cases h1 : i < 89
  · obtain ⟨j, rfl⟩ : ∃ j, i = 1 + j := ⟨i - 1, by omega⟩
    rw [act_pos _ _ (by omega), posOf_get hg j (by omega)]
  by_cases h2 : i < 97
  · obtain ⟨j, rfl⟩ : ∃ j, i = 89 + j := ⟨i - 89, by omega⟩
    have := congrArg (fun z => z[j]?) hl8
    rw [act_ent]
    simp only [List.getElem?_take, List.getElem?_drop] at this
    rw [if_pos (by omega)] at this
    rw [this]
    simp [entA]
  · rw [List.getElem?_eq_none (by omega), List.getElem?_eq_none (by simp; omega)]
set_option maxRecDepth 100000 in
theorem open_ent {r : Reach} {b0 : Nat} {v : Value} {d : DataW H} {pl : List MemPlace} (hv : Value.okWide Try.prog w r b0 61 v) (h : DataW.Trod enc Try.prog w base spare held 61 v d pl) : ∃ e, v = .agg (entA e) ∧ EntOk e := by
  obtain ⟨cs, rfl, hsz⟩ := okWide_struct Try.underlying61 hv
  obtain ⟨fuel, hf⟩ := h
  obtain ⟨e, he, hl⟩ := ent_of fuel _ cs.toList hf
  refine ⟨e, ?_, he⟩
  congr 1
  have : cs = ⟨cs.toList⟩ := by simp
  rw [this, hl]
  rfl
/-- A slice of acts: its elements lie one behind the other. -/
structure ActRow (w : World) (A : Option Addr) (n : Nat) (ac : Nat → ActD) : Prop where
  ok : ∀ i, i < n → ActOk (ac i)
  row : 0 < n → ∃ ad, A = some ad ∧ ad.block < w.heap.size ∧ ∀ i, i < n → aggAt w (ad.add (i * 97)) 97 = some (actA (ac i))
theorem ActRow.below {w w' : World} {A : Option Addr} {n : Nat} {ac : Nat → ActD} (h : ActRow w A n ac) (hb : Below w.heap.size w w') : ActRow w' A n ac :=
  ⟨h.ok, fun hn => by
    obtain ⟨ad, h1, h2, h3⟩ := h.row hn
    exact ⟨ad, h1, Nat.lt_of_lt_of_le h2 hb.size, fun i hi => aggAt_below (h3 i hi) hb (by rw [add_block]; exact h2)⟩⟩
structure ActSl (w : World) (A : Option Addr) (n cap : Nat) (ac : Nat → ActD) : Prop where
  rows : ActRow w A n ac
  le : n ≤ cap
  max : cap ≤ maxLen
  nil : A = none → n = 0 ∧ cap = 0
set_option maxRecDepth 100000 in
theorem open_acts {r : Reach} {b0 : Nat} {v : Value} {d : DataW H} {pl : List MemPlace} (hv : Value.okWide Try.prog w r b0 50 v) (h : DataW.Trod enc Try.prog w base spare held 50 v d pl) :
    ∃ (A : Option Addr) (n cap : Nat) (ac : Nat → ActD), v = .slice A n cap ∧ ActSl w A n cap ac := by
  obtain ⟨A, n, cap, rfl⟩ := okWide_slice Try.underlying50 hv
  obtain ⟨fuel, hf⟩ := h
  have c63 : Try.prog.cellsOf 63 = 97 := by kernel_rfl
  rcases Go.Deep.open_slice Try.underlying50 hf with ⟨hcs, _⟩ | ⟨a, l, c, m, k, D, Pl, hcs, _, hl, hm, hmm, _, hi⟩
  · simp [Value.cells] at hcs
    obtain ⟨rfl, rfl, rfl⟩ := hcs
    exact ⟨none, 0, 0, fun _ => ⟨0, pos0, ent0⟩, rfl, ⟨⟨fun i hi => absurd hi (by omega), fun hi => absurd hi (by omega)⟩, Nat.le_refl _, by unfold maxLen; omega, fun _ => ⟨rfl, rfl⟩⟩⟩
  · simp [Value.cells] at hcs
    obtain ⟨rfl, rfl, rfl⟩ := hcs
    have hnm : n ≤ m := by rw [hmm]; split <;> omega
    rw [c63] at hi
    have hex : ∀ i, ∃ b : ActD, i < n → (ActOk b ∧ ∀ j, j < 97 → w.cell? ((a.add (i * 97)).add j) = (actA b)[j]?) := by
      intro i
      by_cases hin : i < n
      · obtain ⟨cs', hc, ht⟩ := hi i (by omega)
        obtain ⟨_, hcl, hat⟩ := World.cells?_some hc
        obtain ⟨b, hb, hl⟩ := act_of k _ cs' ht
        exact ⟨b, fun _ => ⟨hb, fun j hj => by rw [hat j hj, hl]; simp [actA]⟩⟩
      · exact ⟨⟨0, pos0, ent0⟩, fun h => absurd h hin⟩
    obtain ⟨F, hF⟩ := Classical.axiomOfChoice hex
    refine ⟨some a, n, cap, F, rfl, ⟨⟨fun i hin => (hF i hin).1, fun hn => ⟨a, rfl, ?_, fun i hin => aggAt_of (actA_size _) (hF i hin).2⟩⟩, hl, hm, fun e => (by cases e)⟩⟩
    have h4 := (hF 0 hn).2 0 (by omega)
    rw [show (actA (F 0))[0]? = some (.int .i64 (F 0).k) from rfl] at h4
    have := block_lt_of_cell h4
    rw [add_block, add_block] at this
    exact this
end
end Go.Proofs.Ytldacinldgjdcaa
