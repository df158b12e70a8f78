/- Entries and slots as their cells; when two entries are equal; what a build, a zero, a load and a store of them do. -/
import Derived.Test.YtldacinldgjdcaaSto
import Derived.Maps.OwnSet
namespace Go.Proofs.Ytldacinldgjdcaa
open Go.RowKit Go.Maps

/-- An entry: depth, value, kind, and a move: from, to, promote, drop, castle. -/
structure Ent where
  d : Int
  v : Int
  k : Int
  f : Int
  t : Int
  p : Int
  r : Int
  c : Bool
deriving DecidableEq
def entL (e : Ent) : List Value := [.int .i64 e.d, .int .i64 e.v, .int .u8 e.k, .int .i8 e.f, .int .i8 e.t, .int .u8 e.p, .int .u8 e.r, .bool e.c]
def entA (e : Ent) : Array Value := ⟨entL e⟩
def ent0 : Ent := ⟨0, 0, 0, 0, 0, 0, 0, false⟩
structure EntOk (e : Ent) : Prop where
  d : (Lit.int .i64 e.d).wf = true
  v : (Lit.int .i64 e.v).wf = true
  k : (Lit.int .u8 e.k).wf = true
  f : (Lit.int .i8 e.f).wf = true
  t : (Lit.int .i8 e.t).wf = true
  p : (Lit.int .u8 e.p).wf = true
  r : (Lit.int .u8 e.r).wf = true
theorem EntOk0 : EntOk ent0 := ⟨rfl, rfl, rfl, rfl, rfl, rfl, rfl⟩
@[simp] theorem entL_len (e : Ent) : (entL e).length = 8 := by simp [entL]
@[simp] theorem entA_size (e : Ent) : (entA e).size = 8 := by simp [entA]
theorem oneCells_ent (e : Ent) : OneCells (entA e) := by simp [OneCells, entA, entL, Value.oneCell']
/-- A slot: an entry, and of which position it is. -/
def slotA (e : Ent) (c : Nat → Int) : Array Value := ⟨entL e ++ seg c 0 88⟩
@[simp] theorem slotA_size (e : Ent) (c : Nat → Int) : (slotA e c).size = 96 := by simp [slotA]
theorem seg_one (c : Nat → Int) (u : Value) (h : u ∈ seg c 0 88) : u.oneCell' = true := by
  simp [seg] at h
  obtain ⟨i, _, rfl⟩ := h
  rfl
theorem oneCells_slot (e : Ent) (c : Nat → Int) : OneCells (slotA e c) := by
  unfold OneCells
  rw [Array.all_eq_true_iff_forall_mem]
  intro u hu
  simp only [slotA, List.mem_toArray, List.mem_append] at hu
  rcases hu with hu | hu
  · simp [entL] at hu
    rcases hu with rfl | rfl | rfl | rfl | rfl | rfl | rfl | rfl <;> rfl
  · exact seg_one c u hu
theorem slot_ent (e : Ent) (c : Nat → Int) (i : Nat) (h : i < 8) : (slotA e c)[i]? = (entA e)[i]? := by
  simp [slotA, entA, List.getElem?_append, h]
theorem slot_pos (e : Ent) (c : Nat → Int) (i : Nat) : (slotA e c)[8 + i]? = (posA c)[i]? := by
  simp [slotA, posA, segA, List.getElem?_append]
  omega

def entLits (e : Ent) : List Lit := [.int .i64 e.d, .int .i64 e.v, .int .u8 e.k, .int .i8 e.f, .int .i8 e.t, .int .u8 e.p, .int .u8 e.r, .bool e.c]
theorem entLits_inj (a b : Ent) : entLits a = entLits b ↔ a = b := by
  constructor
  · intro h
    cases a; cases b
    simp [entLits] at h
    simp [h]
  · intro h; rw [h]
theorem keyLits59 (e : Ent) (h : EntOk e) : Try.prog.keyLits 3 59 [.int .i8 e.f, .int .i8 e.t, .int .u8 e.p, .int .u8 e.r, .bool e.c] = some [.int .i8 e.f, .int .i8 e.t, .int .u8 e.p, .int .u8 e.r, .bool e.c] := by
  obtain ⟨h1, h2, h3, h4, h5, h6, h7⟩ := h
  have c5 : Try.prog.cellsOf 5 = 1 := by kernel_rfl
  have c32 : Try.prog.cellsOf 32 = 1 := by kernel_rfl
  have c4 : Try.prog.cellsOf 4 = 1 := by kernel_rfl
  unfold Program.keyLits
  rw [Try.underlying59]
  simp only []
  rw [if_pos ⟨by kernel_rfl, by kernel_rfl⟩]
  simp [Program.keyLits, Try.underlying5, Try.underlying32, Try.underlying4, c4, c5, c32, h4, h5, h6, h7]
theorem keyLits61 (e : Ent) (h : EntOk e) : Try.prog.keyLits 4 61 (entL e) = some (entLits e) := by
  have h59 := keyLits59 e h
  obtain ⟨h1, h2, h3, h4, h5, h6, h7⟩ := h
  have c3 : Try.prog.cellsOf 3 = 1 := by kernel_rfl
  have c5 : Try.prog.cellsOf 5 = 1 := by kernel_rfl
  have c59 : Try.prog.cellsOf 59 = 5 := by kernel_rfl
  have k3 (z : Int) (hz : (Lit.int .i64 z).wf = true) : Try.prog.keyLits 3 3 [.int .i64 z] = some [.int .i64 z] := by simp [Program.keyLits, Try.underlying3, hz]
  have k5 (z : Int) (hz : (Lit.int .u8 z).wf = true) : Try.prog.keyLits 3 5 [.int .u8 z] = some [.int .u8 z] := by simp [Program.keyLits, Try.underlying5, hz]
  unfold Program.keyLits
  rw [Try.underlying61]
  simp only []
  rw [if_pos ⟨by kernel_rfl, by kernel_rfl⟩]
  simp [c3, c5, c59, entL, h59, k3 _ h1, k3 _ h2, k5 _ h3, entLits]
theorem run_eqEnt (D d : Nat) (hD : d + 4 = D) (a b : Ent) (ha : EntOk a) (hb : EntOk b) (w : World) : (Op.equalIn D 61 (.agg (entA a)) (.agg (entA b))).run Try.prog w = .ok (decide (a = b)) w := by
  subst hD
  have f1 : ∀ e : Ent, (Value.agg (entA e)).formed Try.prog 61 = true := fun e => by simp [Value.formed, Try.underlying61]; kernel_rfl
  obtain ⟨r, hr, hi⟩ := run_equalIn_deep d 4 61 (by kernel_rfl) w 4 4 _ _ _ _ (f1 a) (f1 b) (keyLits61 a ha) (keyLits61 b hb)
  have e : r = decide (a = b) := by rw [Bool.eq_iff_iff, hi, entLits_inj, decide_eq_true_eq]
  rw [← e]
  exact hr
theorem run_eql61 (a b : Ent) (ha : EntOk a) (hb : EntOk b) (w : World) : (binOp .eql 61 (.agg (entA a)) (.agg (entA b))).run Try.prog w = .ok (.bool (decide (a = b))) w :=
  (run_eql_struct w 61 _ _).trans (by
    have e := run_eqEnt 10000 9996 (by omega) a b ha hb w
    rw [e]; rfl)
theorem run_neq61 (a b : Ent) (ha : EntOk a) (hb : EntOk b) (w : World) : (binOp .neq 61 (.agg (entA a)) (.agg (entA b))).run Try.prog w = .ok (.bool (!decide (a = b))) w :=
  (run_neq_struct w 61 _ _).trans (by
    have e := run_eqEnt 10000 9996 (by omega) a b ha hb w
    rw [e]; rfl)
theorem run_b0 (w : World) : (Instr.build 61 #[]).run Try.prog w = .ok (.agg (entA ent0)) w := by kernel_rfl
theorem run_b1 (z : Int) (w : World) : (Instr.build 61 #[(0, .int .i64 z), (2, .int .u8 1)]).run Try.prog w = .ok (.agg (entA ⟨z, 0, 1, 0, 0, 0, 0, false⟩)) w := by kernel_rfl
theorem run_b5 (w : World) : (Instr.build 61 #[(0, .int .i64 5)]).run Try.prog w = .ok (.agg (entA ⟨5, 0, 0, 0, 0, 0, 0, false⟩)) w := by kernel_rfl
theorem run_zero61 (w : World) : (zeroValue 61).run Try.prog w = .ok (.agg (entA ent0)) w := by kernel_rfl
theorem run_zero101 (w : World) : (zeroValue 101).run Try.prog w = .ok (.agg (slotA ent0 pos0)) w := by kernel_rfl
theorem run_b101 (e : Ent) (c : Nat → Int) (w : World) : (Instr.build 101 #[(0, .agg (entA e)), (1, .agg (posA c))]).run Try.prog w = .ok (.agg (slotA e c)) w := by kernel_rfl
theorem run_b96 (z : Int) (bm : Nat) (w : World) : (Instr.build 96 #[(0, .int .i64 z), (1, .map (some bm))]).run Try.prog w = .ok (.agg #[.int .i64 z, .map (some bm)]) w := by kernel_rfl
end Go.Proofs.Ytldacinldgjdcaa
