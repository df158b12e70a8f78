/- The closure that tells one number to the loop: what it does where the loop's round goes on. -/
import Derived.RangeFuncNested
import Derived.RangeFuncBound
import Derived.RangeFuncCalls
import Derived.RangeFuncLeaves
import Derived.Shelf.Abstract
import Derived.Shelf.RegionOpen
import Derived.OwnWalkIn
import Derived.TacticsInMore
import Derived.LoopNIn
import Derived.LoopIn
import Derived.Test.YtldacinldgjdcaaSameC
import Derived.Test.YtldacinldgjdcaaHashG
namespace Go.Proofs.Ytldacinldgjdcaa
open Go.RowKit Go.Shelf
attribute [local go_sem] Oper.semAt_some

/-- The two boxes of the iterator's own: yield, and whether to go on; and the position. -/
structure TellSt (n0 l pb : Nat) (c : Nat → Int) (A : World) : Prop where
  y : A.heap[n0]? = some (.cells #[.func (.yield l) #[] #[]] 116 (0, 0))
  m : A.heap[n0 + 1]? = some (.cells #[.bool true] 4 (0, 0))
  p : InBlock A pb c
  hpb : pb < n0
theorem TellSt.lt {n0 l pb : Nat} {c : Nat → Int} {A : World} (h : TellSt n0 l pb c A) : n0 + 1 < A.heap.size := (Array.getElem?_eq_some_iff.1 h.m).1
theorem TellSt.below {n0 l pb : Nat} {c : Nat → Int} {A B : World} (h : TellSt n0 l pb c A) (hb : Below A.heap.size A B) : TellSt n0 l pb c B :=
  ⟨(hb.block _ (by have := h.lt; omega)).trans h.y, (hb.block _ h.lt).trans h.m, h.p.below hb (by have := h.lt; have := h.hpb; omega), h.hpb⟩
/-- What a round that goes on keeps of the iterator's: the position and all blocks from n0 on. -/
structure KeepIt (n0 pb : Nat) (A B : World) : Prop where
  pos : B.heap[pb]? = A.heap[pb]?
  own : ∀ k, n0 ≤ k → k < A.heap.size → B.heap[k]? = A.heap[k]?
theorem TellSt.keep {n0 l pb : Nat} {c : Nat → Int} {A B : World} (h : TellSt n0 l pb c A) (hk : KeepIt n0 pb A B) : TellSt n0 l pb c B :=
  ⟨(hk.own _ (Nat.le_refl _) (by have := h.lt; omega)).trans h.y, (hk.own _ (by omega) h.lt).trans h.m, ⟨fun o => (World.cell?_of_block (w := A) (a := ⟨pb, o, none⟩) hk.pos).trans (h.p.cell o)⟩, h.hpb⟩
def TellPost (n0 l pb : Nat) (c : Nat → Int) (J : Int → World → Prop) (acc : Int) (e : Ending) (B : World) : Prop := (∃ v, e = .returned v) ∧ TellSt n0 l pb c B ∧ J acc B
/-- The loop's round, told one number: it goes on. -/
def Rounds (m n0 l pb : Nat) (J : Int → World → Prop) : Prop := ∀ acc x A, J acc A → R64 x → YieldAt Fence.wide m Try.prog l #[.int .u64 x] A fun e B => e = .returned (.bool true) ∧ J (xr acc x) B ∧ KeepIt n0 pb A B
def Stable (n0 : Nat) (J : Int → World → Prop) : Prop := ∀ acc A B, J acc A → Below n0 A B → J acc B
set_option maxRecDepth 100000 in
set_option maxHeartbeats 1000000 in
theorem tell_any (m n0 l pb : Nat) (c : Nat → Int) (J : Int → World → Prop) (hm : 1 ≤ m) (hY : Rounds (m - 1) n0 l pb J) (hS : Stable n0 J) (acc x : Int) (hx : R64 x) (A : World) (hT : TellSt n0 l pb c A) (hJ : J acc A) :
    Calls Try.prog 79 #[.int .u64 x, .pointer (some ⟨n0 + 1, 0, none⟩), .pointer (some ⟨n0, 0, none⟩)] A (TellPost n0 l pb c J (xr acc x)) := by
  refine (callsIn_wide (n := m)).1 ?_
  have HY := Lib.hid (hY acc x A hJ hx)
  have HS := Lib.hid hS
  clear hY hS
  obtain ⟨fn, tmps, assign, body, hy, hR⟩ := HY.out
  have c1 : A.cell? ⟨n0 + 1, 0, none⟩ = some (.bool true) := by rw [cell_of_row _ _ _ _ _ _ hT.m]; rfl
  have c2 : A.cell? ⟨n0, 0, none⟩ = some (.func (.yield l) #[] #[]) := by rw [cell_of_row _ _ _ _ _ _ hT.y]; rfl
  refine callsIn_of_wp Try.func79 rfl trivial ?_ rfl
  simp only [Try.ntmps79, List.size_toArray, List.length_cons, List.length_nil, Nat.reduceAdd, Nat.reduceSub, Array.replicate_succ, Array.replicate_zero, List.push_toArray, List.append_toArray, List.nil_append, List.cons_append]
  gi_wp2
  refine hR.mono ?_
  rintro e B ⟨rfl, hJ', hk⟩
  have hT' := hT.keep hk
  have c3 : B.cell? ⟨n0 + 1, 0, none⟩ = some (.bool true) := by rw [cell_of_row _ _ _ _ _ _ hT'.m]; rfl
  have c4 : B.frozen? ⟨n0 + 1, 0, none⟩ = false := frozen_of_row _ _ _ _ _ hT'.m
  clear hy hR
  gi_wp2
  have hset : Below n0 B (B.setCell ⟨n0 + 1, 0, none⟩ (.bool true)) := (Below.refl _ _).setCell (p := ⟨n0 + 1, 0, none⟩) (by simp) _
  have hmm : (B.setCell ⟨n0 + 1, 0, none⟩ (.bool true)).heap[n0 + 1]? = some (.cells #[.bool true] 4 (0, 0)) := heap_setCell_same B (n0 + 1) 0 #[.bool true] 4 (.bool true) hT'.m
  exact bodyPost_end (results_none rfl _ _ _) rfl ⟨⟨_, rfl⟩, ⟨(heap_setCell_other _ _ _ _ (by simp)).trans hT'.y, hmm, hT'.p.below hset hT'.hpb, hT'.hpb⟩, HS.out _ _ _ hJ' hset⟩
end Go.Proofs.Ytldacinldgjdcaa
