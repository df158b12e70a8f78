/- What the statement's reading of a position, and of a slice of positions, says of their cells. -/
import Derived.Test.YtldacinldgjdcaaSameB
import Derived.ProofKit
import Derived.OpenShut
import Derived.Deep.Slices
namespace Go.Proofs.Ytldacinldgjdcaa
open Go.RowKit Go.ChangeShapes Go.WideShapes Go.ChangeAt

def intAt (cs : List Value) (i : Nat) : Int := match cs[i]? with | some (.int _ z) => z | _ => 0
def Good (cs : List Value) (p off n : Nat) : Prop := ∀ i, i < n → cs[p + off + i]? = some (.int (kindAt (off + i)) (intAt cs (p + off + i))) ∧ (Lit.int (kindAt (off + i)) (intAt cs (p + off + i))).wf = true
theorem take_of_drop (cs : List Value) (a n i m : Nat) (h : i + m ≤ n) : ((cs.drop a).take n |>.drop i).take m = (cs.drop (a + i)).take m := by
  apply List.ext_getElem?
  intro k
  by_cases hk : k < m
  · simp [List.getElem?_drop, hk, show i + k < n by omega, Nat.add_assoc]
  · simp [List.getElem?_take, hk]
section
variable {H : Type} {enc : TypeId × Value → H} {w : World} {base : Nat} {spare : Nat → Bool} {held : Bool}
theorem good_int {e : TypeId} {q : IntKind} (hu : Try.prog.underlying e = some (.int q)) (cs : List Value) (p off : Nat) (hk : kindAt off = q) (fuel : Nat) (x : DataW H × List MemPlace)
    (h : DataW.trod enc Try.prog w base spare held fuel e ((cs.drop (p + off)).take 1) = some x) : Good cs p off 1 := by
  obtain ⟨z, hz, _, hwf⟩ := DataW.trod_int hu h
  intro i hi
  obtain rfl : i = 0 := by omega
  have h0 : cs[p + off]? = some (.int q z) := by
    have := congrArg (fun l => l[0]?) hz
    simpa [List.getElem?_take, List.getElem?_drop] using this
  have e : intAt cs (p + off) = z := by simp [intAt, h0]
  simp only [Nat.add_zero, hk, e]
  exact ⟨h0, hwf⟩
theorem good_arr {t e : TypeId} {n s : Nat} (hu : Try.prog.underlying t = some (.array n e)) (he : Try.prog.cellsOf e = s) (cs : List Value) (p off : Nat)
    (hel : ∀ i, i < n → ∀ (fuel : Nat) (x : DataW H × List MemPlace), DataW.trod enc Try.prog w base spare held fuel e ((cs.drop (p + (off + i * s))).take s) = some x → Good cs p (off + i * s) s)
    (fuel : Nat) (x : DataW H × List MemPlace) (h : DataW.trod enc Try.prog w base spare held fuel t ((cs.drop (p + off)).take (n * s)) = some x) : Good cs p off (n * s) := by
  obtain ⟨xs, m, _, _, _, hl, hx⟩ := DataW.trod_array hu h
  intro j hj
  have hs : 0 < s := by
    rcases Nat.eq_zero_or_pos s with e | e
    · subst e; simp at hj
    · exact e
  have hi : j / s < n := by rw [Nat.div_lt_iff_lt_mul hs]; exact hj
  have h1 := hx (j / s) hi
  rw [he] at h1
  have hle : j / s * s + s ≤ n * s := by have := Nat.mul_le_mul_right s (show j / s + 1 ≤ n by omega); rw [Nat.add_mul, Nat.one_mul] at this; exact this
  rw [take_of_drop _ _ _ _ _ hle, Nat.add_assoc] at h1
  have hx2 : xs[j / s]? = some (xs[j / s]'(by omega)) := List.getElem?_eq_getElem (by omega)
  have := hel (j / s) hi m _ (h1.trans hx2) (j % s) (Nat.mod_lt _ hs)
  have e1 : off + j / s * s + j % s = off + j := by have := Nat.div_add_mod j s; rw [Nat.mul_comm] at this; omega
  have e2 : p + (off + j / s * s) + j % s = p + off + j := by omega
  rw [e1, e2] at this
  exact this
theorem good1 {t e : TypeId} {q : IntKind} {n : Nat} (hue : Try.prog.underlying e = some (.int q)) (hu : Try.prog.underlying t = some (.array n e)) (he : Try.prog.cellsOf e = 1) (cs : List Value) (p off : Nat) (hk : ∀ i, i < n → kindAt (off + i) = q)
    (fuel : Nat) (x : DataW H × List MemPlace) (h : DataW.trod enc Try.prog w base spare held fuel t ((cs.drop (p + off)).take n) = some x) : Good cs p off n := by
  have := good_arr (n := n) (s := 1) hu he cs p off (fun i hi fuel x hx => good_int hue cs p _ (by rw [Nat.mul_one]; exact hk i hi) fuel x hx) fuel x (by rw [Nat.mul_one]; exact h)
  rwa [Nat.mul_one] at this
theorem good37 (cs : List Value) (p fuel : Nat) (x : DataW H × List MemPlace) (h : DataW.trod enc Try.prog w base spare held fuel 37 ((cs.drop p).take 88) = some x) : Good cs p 0 88 := by
  obtain ⟨xs, m, _, _, _, hl, hx⟩ := DataW.trod_struct Try.underlying37 h
  have c5 : Try.prog.cellsOf 5 = 1 := by kernel_rfl
  have c28 : Try.prog.cellsOf 28 = 64 := by kernel_rfl
  have c29 : Try.prog.cellsOf 29 = 1 := by kernel_rfl
  have c31 : Try.prog.cellsOf 31 = 12 := by kernel_rfl
  have c30 : Try.prog.cellsOf 30 = 6 := by kernel_rfl
  have c34 : Try.prog.cellsOf 34 = 4 := by kernel_rfl
  have c33 : Try.prog.cellsOf 33 = 2 := by kernel_rfl
  have c32 : Try.prog.cellsOf 32 = 1 := by kernel_rfl
  have c35 : Try.prog.cellsOf 35 = 2 := by kernel_rfl
  have c3 : Try.prog.cellsOf 3 = 1 := by kernel_rfl
  have hl10 : xs.length = 10 := hl
  have g (i : Nat) (hi : i < 10) : xs[i]? = some (xs[i]'(by omega)) := List.getElem?_eq_getElem (by omega)
  have f0 : DataW.trod enc Try.prog w base spare held m 5 ((((cs.drop p).take 88).drop 0).take (Try.prog.cellsOf 5)) = some (xs[0]'(by omega)) := (hx 0 _ rfl).trans (g 0 (by omega))
  have f1 : DataW.trod enc Try.prog w base spare held m 28 ((((cs.drop p).take 88).drop 1).take (Try.prog.cellsOf 28)) = some (xs[1]'(by omega)) := (hx 1 _ rfl).trans (g 1 (by omega))
  have f2 : DataW.trod enc Try.prog w base spare held m 29 ((((cs.drop p).take 88).drop 65).take (Try.prog.cellsOf 29)) = some (xs[2]'(by omega)) := (hx 2 _ rfl).trans (g 2 (by omega))
  have f3 : DataW.trod enc Try.prog w base spare held m 31 ((((cs.drop p).take 88).drop 66).take (Try.prog.cellsOf 31)) = some (xs[3]'(by omega)) := (hx 3 _ rfl).trans (g 3 (by omega))
  have f4 : DataW.trod enc Try.prog w base spare held m 5 ((((cs.drop p).take 88).drop 78).take (Try.prog.cellsOf 5)) = some (xs[4]'(by omega)) := (hx 4 _ rfl).trans (g 4 (by omega))
  have f5 : DataW.trod enc Try.prog w base spare held m 34 ((((cs.drop p).take 88).drop 79).take (Try.prog.cellsOf 34)) = some (xs[5]'(by omega)) := (hx 5 _ rfl).trans (g 5 (by omega))
  have f6 : DataW.trod enc Try.prog w base spare held m 32 ((((cs.drop p).take 88).drop 83).take (Try.prog.cellsOf 32)) = some (xs[6]'(by omega)) := (hx 6 _ rfl).trans (g 6 (by omega))
  have f7 : DataW.trod enc Try.prog w base spare held m 35 ((((cs.drop p).take 88).drop 84).take (Try.prog.cellsOf 35)) = some (xs[7]'(by omega)) := (hx 7 _ rfl).trans (g 7 (by omega))
  have f8 : DataW.trod enc Try.prog w base spare held m 3 ((((cs.drop p).take 88).drop 86).take (Try.prog.cellsOf 3)) = some (xs[8]'(by omega)) := (hx 8 _ rfl).trans (g 8 (by omega))
  have f9 : DataW.trod enc Try.prog w base spare held m 3 ((((cs.drop p).take 88).drop 87).take (Try.prog.cellsOf 3)) = some (xs[9]'(by omega)) := (hx 9 _ rfl).trans (g 9 (by omega))
  rw [c5] at f0 f4
  rw [c28] at f1
  rw [c29] at f2
  rw [c31] at f3
  rw [c34] at f5
  rw [c32] at f6
  rw [c35] at f7
  rw [c3] at f8 f9
  rw [take_of_drop _ _ _ _ _ (by omega)] at f0 f1 f2 f3 f4 f5 f6 f7 f8 f9
  have k0 := good_int Try.underlying5 cs p 0 rfl _ _ f0
  have k1 := good1 Try.underlying5 Try.underlying28 c5 cs p 1 (fun i hi => kind_u8 _ (by omega)) _ _ f1
  have k2 := good_int Try.underlying29 cs p 65 rfl _ _ f2
  have k3 := good_arr (n := 2) (s := 6) Try.underlying31 c30 cs p 66 (fun i hi fuel x hx => good1 Try.underlying5 Try.underlying30 c5 cs p _ (fun j hj => kind_u8 _ (by omega)) fuel x hx) _ _ f3
  have k4 := good_int Try.underlying5 cs p 78 rfl _ _ f4
  have k5 := good_arr (n := 2) (s := 2) Try.underlying34 c33 cs p 79 (fun i hi fuel x hx => good1 Try.underlying32 Try.underlying33 c32 cs p _ (fun j hj => kind_i8 _ (by omega)) fuel x hx) _ _ f5
  have k6 := good_int Try.underlying32 cs p 83 rfl _ _ f6
  have k7 := good1 Try.underlying5 Try.underlying35 c5 cs p 84 (fun i hi => kind_u8 _ (by omega)) _ _ f7
  have k8 := good_int Try.underlying3 cs p 86 rfl _ _ f8
  have k9 := good_int Try.underlying3 cs p 87 rfl _ _ f9
  have pick (off n i : Nat) (hg : Good cs p off n) (h1 : off ≤ i) (h2 : i < off + n) : cs[p + 0 + i]? = some (.int (kindAt (0 + i)) (intAt cs (p + 0 + i))) ∧ (Lit.int (kindAt (0 + i)) (intAt cs (p + 0 + i))).wf = true := by
    have := hg (i - off) (by omega)
    rw [show p + off + (i - off) = p + 0 + i by omega, show off + (i - off) = 0 + i by omega] at this
    exact this
  intro i hi
  by_cases e0 : i < 1
  · exact pick 0 1 i k0 (by omega) (by omega)
  by_cases e1 : i < 65
  · exact pick 1 64 i k1 (by omega) (by omega)
  by_cases e2 : i < 66
  · exact pick 65 1 i k2 (by omega) (by omega)
  by_cases e3 : i < 78
  · exact pick 66 12 i k3 (by omega) (by omega)
  by_cases e4 : i < 79
  · exact pick 78 1 i k4 (by omega) (by omega)
  by_cases e5 : i < 83
  · exact pick 79 4 i k5 (by omega) (by omega)
  by_cases e6 : i < 84
  · exact pick 83 1 i k6 (by omega) (by omega)
  by_cases e7 : i < 86
  · exact pick 84 2 i k7 (by omega) (by omega)
  by_cases e8 : i < 87
  · exact pick 86 1 i k8 (by omega) (by omega)
  · exact pick 87 1 i k9 (by omega) (by omega)
/-- The cells of a position that lie from p on. -/
def posOf (cs : List Value) (p : Nat) : Nat → Int := fun i => intAt cs (p + i)
theorem posOf_ok {cs : List Value} {p : Nat} (h : Good cs p 0 88) : PosOk (posOf cs p) := fun i hi => by
  have := (h i hi).2; simpa [posOf] using this
theorem posOf_get {cs : List Value} {p : Nat} (h : Good cs p 0 88) (i : Nat) (hi : i < 88) : cs[p + i]? = (posA (posOf cs p))[i]? := by
  have := (h i hi).1
  rw [posA_get _ _ hi]
  simpa [posOf] using this
set_option maxRecDepth 100000 in
theorem open_pos {r : Reach} {b0 : Nat} {v : Value} {d : DataW H} {pl : List MemPlace} (hv : Value.okWide Try.prog w r b0 37 v) (h : DataW.Trod enc Try.prog w base spare held 37 v d pl) : ∃ c, v = .agg (posA c) ∧ PosOk c := by
  obtain ⟨cs, rfl, hsz⟩ := okWide_struct Try.underlying37 hv
  have hs : cs.size = 88 := hsz.trans (by kernel_rfl)
  obtain ⟨fuel, hf⟩ := h
  have hg : Good cs.toList 0 0 88 := good37 cs.toList 0 fuel _ (by rw [List.drop_zero, List.take_of_length_le (by simp; omega)]; exact hf)
  refine ⟨posOf cs.toList 0, ?_, posOf_ok hg⟩
  congr 1
  apply Array.ext_getElem?
  intro i
  by_cases hi : i < 88
  · have := posOf_get hg i hi
    simpa using this
  · rw [Array.getElem?_eq_none (by omega), Array.getElem?_eq_none (by simp; omega)]
set_option maxRecDepth 100000 in
theorem open_ps {r : Reach} {b0 : Nat} {v : Value} {d : DataW H} {pl : List MemPlace} (hv : Value.okWide Try.prog w r b0 22 v) (h : DataW.Trod enc Try.prog w base spare held 22 v d pl) :
    ∃ (A : Option Addr) (n cap : Nat) (ps : Nat → Nat → Int), v = .slice A n cap ∧ PosSl w A n cap ps := by
  obtain ⟨A, n, cap, rfl⟩ := okWide_slice Try.underlying22 hv
  obtain ⟨fuel, hf⟩ := h
  have c37 : Try.prog.cellsOf 37 = 88 := by kernel_rfl
  rcases Go.Deep.open_slice Try.underlying22 hf with ⟨hcs, _⟩ | ⟨a, l, c, m, k, D, Pl, hcs, _, hl, hm, hmm, _, hi⟩
  · simp [Value.cells] at hcs
    obtain ⟨rfl, rfl, rfl⟩ := hcs
    exact ⟨none, 0, 0, fun _ _ => 0, rfl, ⟨⟨fun i hi => absurd hi (by omega), fun hi => absurd hi (by omega)⟩, Nat.le_refl _, by unfold maxLen; omega, fun _ => ⟨rfl, rfl⟩⟩⟩
  · simp [Value.cells] at hcs
    obtain ⟨rfl, rfl, rfl⟩ := hcs
    have hnm : n ≤ m := by rw [hmm]; split <;> omega
    rw [c37] at hi
    have hex : ∀ i, ∃ cs' : List Value, i < n → (cs'.length = 88 ∧ (∀ j, j < 88 → w.cell? ((a.add (i * 88)).add j) = cs'[j]?) ∧ Good cs' 0 0 88) := by
      intro i
      by_cases hin : i < n
      · obtain ⟨cs', hc, ht⟩ := hi i (by omega)
        obtain ⟨_, hcl, hat⟩ := World.cells?_some hc
        exact ⟨cs', fun _ => ⟨hcl, hat, good37 cs' 0 k _ (by rw [List.drop_zero, List.take_of_length_le (by omega)]; exact ht)⟩⟩
      · exact ⟨[], fun h => absurd h hin⟩
    obtain ⟨F, hF⟩ := Classical.axiomOfChoice hex
    refine ⟨some a, n, cap, fun i => posOf (F i) 0, rfl, ⟨⟨fun i hin => posOf_ok (hF i hin).2.2, fun hn => ⟨a, rfl, ?_, fun i hin => ?_⟩⟩, hl, hm, fun e => (by cases e)⟩⟩
    · obtain ⟨h1, h2, h3⟩ := hF 0 hn
      have h4 := h2 0 (by omega)
      have h5 : (F 0)[0]? = some ((F 0)[0]'(by omega)) := List.getElem?_eq_getElem (by omega)
      have := block_lt_of_cell (h4.trans h5)
      rw [add_block, add_block] at this
      exact this
    · obtain ⟨h1, h2, h3⟩ := hF i hin
      refine aggAt_of (posA_size _) fun j hj => ?_
      rw [h2 j hj]
      have := posOf_get h3 j hj
      simpa using this
end
end Go.Proofs.Ytldacinldgjdcaa
