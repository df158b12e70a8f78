/- A position as its 88 cells; when two are equal; what a load and a store of a whole struct or array do. -/
import Derived.Test.YtldacinldgjdcaaHashD
import Derived.Laws.Rows
import Derived.DeepKeys
import Derived.Laws.StructEq
namespace Go.Proofs.Ytldacinldgjdcaa
open Go.RowKit

/-! ### A position: the numbers of its 88 cells -/
def kindAt (i : Nat) : IntKind := if i = 65 then .u64 else if 79 ≤ i ∧ i ≤ 83 then .i8 else if 86 ≤ i then .i64 else .u8
def seg (c : Nat → Int) (off n : Nat) : List Value := (List.range n).map fun i => Value.int (kindAt (off + i)) (c (off + i))
def segA (c : Nat → Int) (off n : Nat) : Array Value := ⟨seg c off n⟩
def posA (c : Nat → Int) : Array Value := segA c 0 88
@[simp] theorem seg_len (c : Nat → Int) (off n : Nat) : (seg c off n).length = n := by simp [seg]
@[simp] theorem segA_size (c : Nat → Int) (off n : Nat) : (segA c off n).size = n := by simp [segA]
@[simp] theorem posA_size (c : Nat → Int) : (posA c).size = 88 := segA_size c 0 88
theorem segA_get (c : Nat → Int) (off n i : Nat) (h : i < n) : (segA c off n)[i]? = some (.int (kindAt (off + i)) (c (off + i))) := by simp [segA, seg, h]
theorem posA_get (c : Nat → Int) (i : Nat) (h : i < 88) : (posA c)[i]? = some (.int (kindAt i) (c i)) := by
  have := segA_get c 0 88 i h; simpa [posA] using this
def PosOk (c : Nat → Int) : Prop := ∀ i, i < 88 → (Lit.int (kindAt i) (c i)).wf = true
theorem segA_one (c : Nat → Int) (off n : Nat) : (segA c off n).all (·.oneCell') = true := by
  rw [Array.all_eq_true_iff_forall_mem]
  intro x hx
  simp [segA, seg] at hx
  obtain ⟨i, _, rfl⟩ := hx
  rfl
theorem posA_one (c : Nat → Int) : (posA c).all (·.oneCell') = true := segA_one c 0 88
theorem seg_sub (c : Nat → Int) (off n i m : Nat) (h : i + m ≤ n) : ((seg c off n).drop i).take m = seg c (off + i) m := by
  apply List.ext_getElem?
  intro k
  by_cases hk : k < m
  · simp [seg, hk, show i + k < n by omega, Nat.add_assoc]
  · simp [seg, hk]; omega

/-! ### When two are equal -/
def eqSeg (a b : Nat → Int) (off n : Nat) : Bool := (List.range n).all fun i => a (off + i) == b (off + i)
theorem eqSeg_iff {a b : Nat → Int} {off n : Nat} : eqSeg a b off n = true ↔ ∀ i, i < n → a (off + i) = b (off + i) := by simp [eqSeg]
def segL (c : Nat → Int) (off n : Nat) : List Lit := (List.range n).map fun i => Lit.int (kindAt (off + i)) (c (off + i))
theorem segL_eq {a b : Nat → Int} {off n : Nat} : segL a off n = segL b off n ↔ eqSeg a b off n = true := by
  rw [eqSeg_iff]
  constructor
  · intro h i hi
    have := congrArg (fun l => l[i]?) h
    simpa [segL, hi] using this
  · intro h
    apply List.map_congr_left
    intro i hi
    rw [h i (by simpa using hi)]
theorem segL_append (c : Nat → Int) (off n m : Nat) : segL c off n ++ segL c (off + n) m = segL c off (n + m) := by
  simp [segL, List.range_add, Nat.add_assoc]
theorem kind_u8 (i : Nat) (h : i ≤ 64 ∨ 66 ≤ i ∧ i ≤ 78 ∨ i = 84 ∨ i = 85) : kindAt i = .u8 := by unfold kindAt; rw [if_neg (by omega), if_neg (by omega), if_neg (by omega)]
theorem kind_i8 (i : Nat) (h : 79 ≤ i ∧ i ≤ 83) : kindAt i = .i8 := by unfold kindAt; rw [if_neg (by omega), if_pos h]
theorem segL_flat (c : Nat → Int) (off s : Nat) : ∀ n, ((List.range n).map fun i => segL c (off + i * s) s).flatten = segL c off (n * s)
  | 0 => by simp [segL]
  | n + 1 => by
    rw [List.range_succ, List.map_append, List.flatten_append, segL_flat c off s n, List.map_cons, List.map_nil, List.flatten_cons, List.flatten_nil, List.append_nil, segL_append, Nat.add_mul, Nat.one_mul]
def SegOk (c : Nat → Int) (off n : Nat) : Prop := ∀ i, i < n → (Lit.int (kindAt (off + i)) (c (off + i))).wf = true
theorem PosOk.seg {c : Nat → Int} (h : PosOk c) (off n : Nat) (hn : off + n ≤ 88) : SegOk c off n := fun i hi => h _ (by omega)
def Lits (d t : Nat) (c : Nat → Int) (off n : Nat) : Prop := Try.prog.keyLits d t (Go.Proofs.Ytldacinldgjdcaa.seg c off n) = some (segL c off n)
theorem lits_int {e : TypeId} {q : IntKind} (hu : Try.prog.underlying e = some (.int q)) (d : Nat) (c : Nat → Int) (off : Nat) (hk : kindAt off = q) (h : SegOk c off 1) : Lits (d + 1) e c off 1 := by
  have h0 := h 0 (by omega)
  simp only [Nat.add_zero, hk] at h0
  simp [Lits, Program.keyLits, seg, segL, hu, hk, h0]
theorem lits_arr {t e : TypeId} {n s : Nat} (hu : Try.prog.underlying t = some (.array n e)) (ht : Try.prog.cellsOf t = n * s) (he : Try.prog.cellsOf e = s) (d : Nat) (c : Nat → Int) (off : Nat)
    (h : ∀ i, i < n → Lits d e c (off + i * s) s) : Lits (d + 1) t c off (n * s) := by
  unfold Lits Program.keyLits
  have hm : (List.range n).mapM (fun i => Try.prog.keyLits d e (((seg c off (n * s)).drop (i * s)).take s)) = some ((List.range n).map fun i => segL c (off + i * s) s) := by
    have : ∀ l : List Nat, (∀ i ∈ l, i < n) → l.mapM (fun i => Try.prog.keyLits d e (((seg c off (n * s)).drop (i * s)).take s)) = some (l.map fun i => segL c (off + i * s) s) := by
      intro l
      induction l with
      | nil => intro _; rfl
      | cons i l ih =>
        intro hl
        have hi := hl i (by simp)
        have hle : i * s + s ≤ n * s := by have := Nat.mul_le_mul_right s (show i + 1 ≤ n by omega); rw [Nat.add_mul, Nat.one_mul] at this; exact this
        rw [List.mapM_cons, ih (fun j hj => hl j (by simp [hj])), seg_sub c off (n * s) (i * s) s hle]
        have := h i hi
        unfold Lits at this
        rw [this]
        rfl
    exact this _ (fun i hi => by simpa using hi)
  simp only [hu, seg_len, ht, he, if_true, hm, Option.map_some, segL_flat]
theorem lits1 (d e : Nat) (q : IntKind) (hu : Try.prog.underlying e = some (.int q)) {t : TypeId} {n : Nat} (ht : Try.prog.underlying t = some (.array n e)) (h1 : Try.prog.cellsOf t = n) (h2 : Try.prog.cellsOf e = 1) (c : Nat → Int) (off : Nat)
    (hk : ∀ i, i < n → kindAt (off + i) = q) (h : SegOk c off n) : Lits (d + 2) t c off n := by
  have := lits_arr (n := n) (s := 1) ht (by omega) h2 (d + 1) c off (fun i hi => lits_int hu d c _ (by rw [Nat.mul_one]; exact hk i hi) (fun j hj => by
    obtain rfl : j = 0 := by omega
    have := h i hi
    simpa using this))
  simpa using this
theorem lits2 (d e : Nat) {t : TypeId} {n s : Nat} (ht : Try.prog.underlying t = some (.array n e)) (h1 : Try.prog.cellsOf t = n * s) (h2 : Try.prog.cellsOf e = s) (c : Nat → Int) (off : Nat)
    (h : ∀ i, i < n → Lits d e c (off + i * s) s) : Lits (d + 1) t c off (n * s) := lits_arr ht h1 h2 d c off h

theorem lits35 (c : Nat → Int) (d : Nat) (h : SegOk c 84 2) : Lits (d + 2) 35 c 84 2 := lits1 d 5 .u8 Try.underlying5 Try.underlying35 (by kernel_rfl) (by kernel_rfl) c 84 (fun i hi => kind_u8 _ (by omega)) h
theorem lits28 (c : Nat → Int) (d : Nat) (h : SegOk c 1 64) : Lits (d + 2) 28 c 1 64 := lits1 d 5 .u8 Try.underlying5 Try.underlying28 (by kernel_rfl) (by kernel_rfl) c 1 (fun i hi => kind_u8 _ (by omega)) h
theorem lits31 (c : Nat → Int) (d : Nat) (h : SegOk c 66 12) : Lits (d + 3) 31 c 66 12 :=
  lits2 (d + 2) 30 (n := 2) (s := 6) Try.underlying31 (by kernel_rfl) (by kernel_rfl) c 66 (fun i hi => lits1 d 5 .u8 Try.underlying5 Try.underlying30 (by kernel_rfl) (by kernel_rfl) c _ (fun j hj => kind_u8 _ (by omega)) (fun j hj => by
    have := h (i * 6 + j) (by omega); rwa [← Nat.add_assoc] at this))
theorem lits34 (c : Nat → Int) (d : Nat) (h : SegOk c 79 4) : Lits (d + 3) 34 c 79 4 :=
  lits2 (d + 2) 33 (n := 2) (s := 2) Try.underlying34 (by kernel_rfl) (by kernel_rfl) c 79 (fun i hi => lits1 d 32 .i8 Try.underlying32 Try.underlying33 (by kernel_rfl) (by kernel_rfl) c _ (fun j hj => kind_i8 _ (by omega)) (fun j hj => by
    have := h (i * 2 + j) (by omega); rwa [← Nat.add_assoc] at this))
theorem lits37 (c : Nat → Int) (h : PosOk c) : Lits 5 37 c 0 88 := by
  have hs (i : Nat) (n : Nat) (hn : i + n ≤ 88) : ((Go.Proofs.Ytldacinldgjdcaa.seg c 0 88).drop i).take n = Go.Proofs.Ytldacinldgjdcaa.seg c i n := by have := seg_sub c 0 88 i n hn; simpa using this
  have l0 := lits_int Try.underlying5 3 c 0 rfl (h.seg 0 1 (by omega))
  have l1 := lits28 c 2 (h.seg 1 64 (by omega))
  have l2 := lits_int Try.underlying29 3 c 65 rfl (h.seg 65 1 (by omega))
  have l3 := lits31 c 1 (h.seg 66 12 (by omega))
  have l4 := lits_int Try.underlying5 3 c 78 rfl (h.seg 78 1 (by omega))
  have l5 := lits34 c 1 (h.seg 79 4 (by omega))
  have l6 := lits_int Try.underlying32 3 c 83 rfl (h.seg 83 1 (by omega))
  have l7 := lits35 c 2 (h.seg 84 2 (by omega))
  have l8 := lits_int Try.underlying3 3 c 86 rfl (h.seg 86 1 (by omega))
  have l9 := lits_int Try.underlying3 3 c 87 rfl (h.seg 87 1 (by omega))
  unfold Lits at *
  have c5 : Try.prog.cellsOf 5 = 1 := by kernel_rfl
  have c28 : Try.prog.cellsOf 28 = 64 := by kernel_rfl
  have c29 : Try.prog.cellsOf 29 = 1 := by kernel_rfl
  have c31 : Try.prog.cellsOf 31 = 12 := by kernel_rfl
  have c34 : Try.prog.cellsOf 34 = 4 := by kernel_rfl
  have c32 : Try.prog.cellsOf 32 = 1 := by kernel_rfl
  have c35 : Try.prog.cellsOf 35 = 2 := by kernel_rfl
  have c3 : Try.prog.cellsOf 3 = 1 := by kernel_rfl
  have c37 : Try.prog.cellsOf 37 = 88 := by kernel_rfl
  unfold Program.keyLits
  rw [Try.underlying37]
  simp only [seg_len, c37]
  rw [if_pos ⟨trivial, by kernel_rfl⟩]
  simp only [List.mapM_cons, List.mapM_nil, c5, c28, c29, c31, c34, c32, c35, c3, hs 0 1 (by omega), hs 1 64 (by omega), hs 65 1 (by omega), hs 66 12 (by omega), hs 78 1 (by omega), hs 79 4 (by omega), hs 83 1 (by omega), hs 84 2 (by omega), hs 86 1 (by omega), hs 87 1 (by omega), l0, l1, l2, l3, l4, l5, l6, l7, l8, l9]
  simp only [bind, Option.bind, pure, Option.map_some, List.flatten_cons, List.flatten_nil, List.append_nil]
  congr 1
theorem run_eq_of (D d m t : Nat) (hD : d + m = D) (hk : Try.prog.keyTypeAt m t = true) (a b : Nat → Int) (off n d' : Nat) (fa : (Value.agg (segA a off n)).formed Try.prog t = true) (fb : (Value.agg (segA b off n)).formed Try.prog t = true)
    (ha : Lits d' t a off n) (hb : Lits d' t b off n) (w : World) : (Op.equalIn D t (.agg (segA a off n)) (.agg (segA b off n))).run Try.prog w = .ok (eqSeg a b off n) w := by
  subst hD
  obtain ⟨r, hr, hi⟩ := run_equalIn_deep d m t hk w d' d' _ _ _ _ fa fb ha hb
  have e : r = eqSeg a b off n := by rw [Bool.eq_iff_iff, hi, segL_eq]
  rw [hr, e]
theorem run_eql37 (a b : Nat → Int) (ha : PosOk a) (hb : PosOk b) (w : World) : (binOp .eql 37 (.agg (posA a)) (.agg (posA b))).run Try.prog w = .ok (.bool (eqSeg a b 0 88)) w := by
  have := run_eq_of 10000 9995 5 37 (by omega) (by kernel_rfl) a b 0 88 _ (by simp [Value.formed, Try.underlying37]; kernel_rfl) (by simp [Value.formed, Try.underlying37]; kernel_rfl) (lits37 a ha) (lits37 b hb) w
  have e : (Op.equalIn 10000 37 (.agg (posA a)) (.agg (posA b))).run Try.prog w = .ok (eqSeg a b 0 88) w := this
  exact (run_eql_struct w 37 _ _).trans (by rw [e]; rfl)
theorem run_neq37 (a b : Nat → Int) (ha : PosOk a) (hb : PosOk b) (w : World) : (binOp .neq 37 (.agg (posA a)) (.agg (posA b))).run Try.prog w = .ok (.bool (!eqSeg a b 0 88)) w := by
  have := run_eq_of 10000 9995 5 37 (by omega) (by kernel_rfl) a b 0 88 _ (by simp [Value.formed, Try.underlying37]; kernel_rfl) (by simp [Value.formed, Try.underlying37]; kernel_rfl) (lits37 a ha) (lits37 b hb) w
  have e : (Op.equalIn 10000 37 (.agg (posA a)) (.agg (posA b))).run Try.prog w = .ok (eqSeg a b 0 88) w := this
  exact (run_neq_struct w 37 _ _).trans (by rw [e]; rfl)
theorem run_eql31 (a b : Nat → Int) (ha : SegOk a 66 12) (hb : SegOk b 66 12) (w : World) : (binOp .eql 31 (.agg (segA a 66 12)) (.agg (segA b 66 12))).run Try.prog w = .ok (.bool (eqSeg a b 66 12)) w := by
  have := run_eq_of 10000 9997 3 31 (by omega) (by kernel_rfl) a b 66 12 _ (by simp [Value.formed, Try.underlying31]; kernel_rfl) (by simp [Value.formed, Try.underlying31]; kernel_rfl) (lits31 a 0 ha) (lits31 b 0 hb) w
  have e : (Op.equalIn 10000 31 (.agg (segA a 66 12)) (.agg (segA b 66 12))).run Try.prog w = .ok (eqSeg a b 66 12) w := this
  exact (run_eql_struct w 31 _ _).trans (by rw [e]; rfl)
theorem run_neq31 (a b : Nat → Int) (ha : SegOk a 66 12) (hb : SegOk b 66 12) (w : World) : (binOp .neq 31 (.agg (segA a 66 12)) (.agg (segA b 66 12))).run Try.prog w = .ok (.bool (!eqSeg a b 66 12)) w := by
  have := run_eq_of 10000 9997 3 31 (by omega) (by kernel_rfl) a b 66 12 _ (by simp [Value.formed, Try.underlying31]; kernel_rfl) (by simp [Value.formed, Try.underlying31]; kernel_rfl) (lits31 a 0 ha) (lits31 b 0 hb) w
  have e : (Op.equalIn 10000 31 (.agg (segA a 66 12)) (.agg (segA b 66 12))).run Try.prog w = .ok (eqSeg a b 66 12) w := this
  exact (run_neq_struct w 31 _ _).trans (by rw [e]; rfl)
theorem run_eql34 (a b : Nat → Int) (ha : SegOk a 79 4) (hb : SegOk b 79 4) (w : World) : (binOp .eql 34 (.agg (segA a 79 4)) (.agg (segA b 79 4))).run Try.prog w = .ok (.bool (eqSeg a b 79 4)) w := by
  have := run_eq_of 10000 9997 3 34 (by omega) (by kernel_rfl) a b 79 4 _ (by simp [Value.formed, Try.underlying34]; kernel_rfl) (by simp [Value.formed, Try.underlying34]; kernel_rfl) (lits34 a 0 ha) (lits34 b 0 hb) w
  have e : (Op.equalIn 10000 34 (.agg (segA a 79 4)) (.agg (segA b 79 4))).run Try.prog w = .ok (eqSeg a b 79 4) w := this
  exact (run_eql_struct w 34 _ _).trans (by rw [e]; rfl)
theorem run_neq34 (a b : Nat → Int) (ha : SegOk a 79 4) (hb : SegOk b 79 4) (w : World) : (binOp .neq 34 (.agg (segA a 79 4)) (.agg (segA b 79 4))).run Try.prog w = .ok (.bool (!eqSeg a b 79 4)) w := by
  have := run_eq_of 10000 9997 3 34 (by omega) (by kernel_rfl) a b 79 4 _ (by simp [Value.formed, Try.underlying34]; kernel_rfl) (by simp [Value.formed, Try.underlying34]; kernel_rfl) (lits34 a 0 ha) (lits34 b 0 hb) w
  have e : (Op.equalIn 10000 34 (.agg (segA a 79 4)) (.agg (segA b 79 4))).run Try.prog w = .ok (eqSeg a b 79 4) w := this
  exact (run_neq_struct w 34 _ _).trans (by rw [e]; rfl)
theorem run_eql35 (a b : Nat → Int) (ha : SegOk a 84 2) (hb : SegOk b 84 2) (w : World) : (binOp .eql 35 (.agg (segA a 84 2)) (.agg (segA b 84 2))).run Try.prog w = .ok (.bool (eqSeg a b 84 2)) w := by
  have := run_eq_of 10000 9998 2 35 (by omega) (by kernel_rfl) a b 84 2 _ (by simp [Value.formed, Try.underlying35]; kernel_rfl) (by simp [Value.formed, Try.underlying35]; kernel_rfl) (lits35 a 0 ha) (lits35 b 0 hb) w
  have e : (Op.equalIn 10000 35 (.agg (segA a 84 2)) (.agg (segA b 84 2))).run Try.prog w = .ok (eqSeg a b 84 2) w := this
  exact (run_eql_struct w 35 _ _).trans (by rw [e]; rfl)
theorem run_neq35 (a b : Nat → Int) (ha : SegOk a 84 2) (hb : SegOk b 84 2) (w : World) : (binOp .neq 35 (.agg (segA a 84 2)) (.agg (segA b 84 2))).run Try.prog w = .ok (.bool (!eqSeg a b 84 2)) w := by
  have := run_eq_of 10000 9998 2 35 (by omega) (by kernel_rfl) a b 84 2 _ (by simp [Value.formed, Try.underlying35]; kernel_rfl) (by simp [Value.formed, Try.underlying35]; kernel_rfl) (lits35 a 0 ha) (lits35 b 0 hb) w
  have e : (Op.equalIn 10000 35 (.agg (segA a 84 2)) (.agg (segA b 84 2))).run Try.prog w = .ok (eqSeg a b 84 2) w := this
  exact (run_neq_struct w 35 _ _).trans (by rw [e]; rfl)

/-! ### What lies in memory from an address on -/
def aggAt (w : World) (a : Addr) (n : Nat) : Option (Array Value) :=
  if (List.range n).all (fun i => (w.cell? (a.add i)).isSome) then some ⟨(List.range n).map fun i => (w.cell? (a.add i)).getD undef⟩ else none
theorem aggAt_of {w : World} {a : Addr} {n : Nat} {cs : Array Value} (hs : cs.size = n) (h : ∀ i, i < n → w.cell? (a.add i) = cs[i]?) : aggAt w a n = some cs := by
  subst hs
  have h1 : (List.range cs.size).all (fun i => (w.cell? (a.add i)).isSome) = true := by
    rw [List.all_eq_true]
    intro i hi
    rw [h i (by simpa using hi)]
    simp at hi
    simp [hi]
  unfold aggAt
  rw [if_pos h1]
  congr 1
  apply Array.ext_getElem?
  intro i
  by_cases hi : i < cs.size
  · simp [hi, h i hi]
  · simp [hi]
theorem aggAt_cell {w : World} {a : Addr} {n : Nat} {cs : Array Value} (h : aggAt w a n = some cs) : cs.size = n ∧ ∀ i, i < n → w.cell? (a.add i) = cs[i]? := by
  unfold aggAt at h
  split at h
  · rename_i h1
    injection h with h
    subst h
    refine ⟨by simp, fun i hi => ?_⟩
    rw [List.all_eq_true] at h1
    have := h1 i (by simpa using hi)
    obtain ⟨v, hv⟩ := Option.isSome_iff_exists.1 this
    simp [hi, hv]
  · cases h
theorem aggAt_same {w w' : World} {a : Addr} {n : Nat} {cs : Array Value} (h : aggAt w a n = some cs) (hk : ∀ i, i < n → w'.cell? (a.add i) = w.cell? (a.add i)) : aggAt w' a n = some cs := by
  obtain ⟨h1, h2⟩ := aggAt_cell h
  exact aggAt_of h1 fun i hi => (hk i hi).trans (h2 i hi)
theorem add_block (a : Addr) (n : Nat) : (a.add n).block = a.block := by unfold Addr.add; split <;> rfl
theorem aggAt_below {w w' : World} {B : Nat} {a : Addr} {n : Nat} {cs : Array Value} (h : aggAt w a n = some cs) (hb : Below B w w') (ha : a.block < B) : aggAt w' a n = some cs :=
  aggAt_same h fun i _ => hb.cell (by rw [add_block]; exact ha)
theorem add0 (g i : Nat) : (⟨g, 0, none⟩ : Addr).add i = ⟨g, i, none⟩ := by unfold Addr.add; split <;> simp_all
theorem aggAt_row {w : World} {g : Nat} {cs : Array Value} {t : TypeId} {fr : Nat × Nat} (h : w.heap[g]? = some (.cells cs t fr)) : aggAt w ⟨g, 0, none⟩ cs.size = some cs :=
  aggAt_of rfl fun i _ => by rw [add0, cell_of_row w g i cs t fr h]
theorem aggAt_new (w : World) (cs : Array Value) (t : TypeId) (n : Nat) (h : cs.size = n) : aggAt (w.alloc (.cells cs t)) ⟨w.heap.size, 0, none⟩ n = some cs := by
  subst h; exact aggAt_row (heap_alloc_new w _)
theorem aggAt_alloc {w : World} {a : Addr} {n : Nat} {cs : Array Value} (h : aggAt w a n = some cs) (ha : a.block < w.heap.size) (o : Obj) : aggAt (w.alloc o) a n = some cs :=
  aggAt_same h fun i _ => World.cell?_alloc_lt w o _ (by rw [add_block]; exact ha)
theorem aggAt_drew (w : World) (a : Addr) (n : Nat) : aggAt w.drew a n = aggAt w a n := rfl
theorem aggAt_drewN (w : World) (k : Nat) (a : Addr) (n : Nat) : aggAt (w.drewN k) a n = aggAt w a n := rfl

/-! ### A load of a whole struct or array -/
def loadAgg (t : TypeId) (a : Addr) : Sem Value := loadVar t a
def noLoad (P : Program) (t : TypeId) (a : Addr) (w : World) : Result Value := (loadVar t a).run P w
def LoadsAs (t n : Nat) : Prop := ∀ (w : World) (a : Addr), (loadAgg t a).run Try.prog w = match aggAt w a n with | some cs => .ok (.agg cs) w | none => noLoad Try.prog t a w
theorem loadsAs {t n : Nat} {d : TypeDesc} (hu : Try.prog.underlying t = some d) (hd : (match d with | .struct _ | .array _ _ => true | _ => false) = true) (hi : (Try.prog.info? t).map (·.size) = some n) : LoadsAs t n := by
  intro w a
  cases h : aggAt w a n with
  | none => rfl
  | some cs =>
    obtain ⟨h1, h2⟩ := aggAt_cell h
    cases hq : Try.prog.info? t with
    | none => simp [hq] at hi
    | some i =>
      have hs : i.size = cs.size := by simp [hq] at hi; omega
      have hagg : (isAgg t).run Try.prog w = .ok true w := by
        unfold isAgg
        rw [Sem.run_bind, run_underlying hu w]
        cases d <;> simp_all
      have hl : (loadCells a cs.toList.length).run Try.prog w = .ok cs.toList.toArray w :=
        run_loadCells_list (P := Try.prog) w a cs.toList (fun j v hv => by
          have hj : j < n := by have := (List.getElem?_eq_some_iff.1 hv).1; simpa [h1] using this
          rw [h2 j hj]; simpa using hv)
      simp only [Array.length_toList, Array.toArray_toList] at hl
      simp [loadAgg, loadVar, Sem.run_bind, hagg, sizeOf, typeInfo, hq, hs, hl]
theorem lv37 (a : Addr) : loadVar 37 a = loadAgg 37 a := rfl
theorem run_lv37 (w : World) (a : Addr) : (loadAgg 37 a).run Try.prog w = match aggAt w a 88 with | some cs => .ok (.agg cs) w | none => noLoad Try.prog 37 a w := loadsAs Try.underlying37 rfl (by kernel_rfl) w a
theorem lv28 (a : Addr) : loadVar 28 a = loadAgg 28 a := rfl
theorem run_lv28 (w : World) (a : Addr) : (loadAgg 28 a).run Try.prog w = match aggAt w a 64 with | some cs => .ok (.agg cs) w | none => noLoad Try.prog 28 a w := loadsAs Try.underlying28 rfl (by kernel_rfl) w a
theorem lv31 (a : Addr) : loadVar 31 a = loadAgg 31 a := rfl
theorem run_lv31 (w : World) (a : Addr) : (loadAgg 31 a).run Try.prog w = match aggAt w a 12 with | some cs => .ok (.agg cs) w | none => noLoad Try.prog 31 a w := loadsAs Try.underlying31 rfl (by kernel_rfl) w a
theorem lv34 (a : Addr) : loadVar 34 a = loadAgg 34 a := rfl
theorem run_lv34 (w : World) (a : Addr) : (loadAgg 34 a).run Try.prog w = match aggAt w a 4 with | some cs => .ok (.agg cs) w | none => noLoad Try.prog 34 a w := loadsAs Try.underlying34 rfl (by kernel_rfl) w a
theorem lv30 (a : Addr) : loadVar 30 a = loadAgg 30 a := rfl
theorem run_lv30 (w : World) (a : Addr) : (loadAgg 30 a).run Try.prog w = match aggAt w a 6 with | some cs => .ok (.agg cs) w | none => noLoad Try.prog 30 a w := loadsAs Try.underlying30 rfl (by kernel_rfl) w a
theorem lv33 (a : Addr) : loadVar 33 a = loadAgg 33 a := rfl
theorem run_lv33 (w : World) (a : Addr) : (loadAgg 33 a).run Try.prog w = match aggAt w a 2 with | some cs => .ok (.agg cs) w | none => noLoad Try.prog 33 a w := loadsAs Try.underlying33 rfl (by kernel_rfl) w a
theorem lv35 (a : Addr) : loadVar 35 a = loadAgg 35 a := rfl
theorem run_lv35 (w : World) (a : Addr) : (loadAgg 35 a).run Try.prog w = match aggAt w a 2 with | some cs => .ok (.agg cs) w | none => noLoad Try.prog 35 a w := loadsAs Try.underlying35 rfl (by kernel_rfl) w a
theorem lv63 (a : Addr) : loadVar 63 a = loadAgg 63 a := rfl
theorem run_lv63 (w : World) (a : Addr) : (loadAgg 63 a).run Try.prog w = match aggAt w a 97 with | some cs => .ok (.agg cs) w | none => noLoad Try.prog 63 a w := loadsAs Try.underlying63 rfl (by kernel_rfl) w a
theorem lv101 (a : Addr) : loadVar 101 a = loadAgg 101 a := rfl
theorem run_lv101 (w : World) (a : Addr) : (loadAgg 101 a).run Try.prog w = match aggAt w a 96 with | some cs => .ok (.agg cs) w | none => noLoad Try.prog 101 a w := loadsAs Try.underlying101 rfl (by kernel_rfl) w a
theorem lv105 (a : Addr) : loadVar 105 a = loadAgg 105 a := rfl
theorem run_lv105 (w : World) (a : Addr) : (loadAgg 105 a).run Try.prog w = match aggAt w a 97 with | some cs => .ok (.agg cs) w | none => noLoad Try.prog 105 a w := loadsAs Try.underlying105 rfl (by kernel_rfl) w a
theorem lv61 (a : Addr) : loadVar 61 a = loadAgg 61 a := rfl
theorem run_lv61 (w : World) (a : Addr) : (loadAgg 61 a).run Try.prog w = match aggAt w a 8 with | some cs => .ok (.agg cs) w | none => noLoad Try.prog 61 a w := loadsAs Try.underlying61 rfl (by kernel_rfl) w a
end Go.Proofs.Ytldacinldgjdcaa
