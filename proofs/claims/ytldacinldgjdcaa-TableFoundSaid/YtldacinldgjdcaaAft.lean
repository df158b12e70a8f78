/- A region that draws its order, whose operations read and whose callees leave what was there: walked once, in the order of the text. -/
import Derived.Test.YtldacinldgjdcaaSto
import Derived.Deep.Quiet
import Derived.Deep.QuietTactic
namespace Go.Proofs.Ytldacinldgjdcaa
open Go.RowKit

/-- The end of a body, kept from the walk's own last step. -/
def AtEnd (P : Program) (fn : Func) (R : Ending → World → Prop) (a : Act) (w : World) : Prop := bodyPost P fn R .ret a w
theorem at_end {P : Program} {fn : Func} {R : Ending → World → Prop} {a : Act} {w : World} (h : AtEnd P fn R a w) : bodyPost P fn R .ret a w := h
theorem end_of {P : Program} {fn : Func} {R : Ending → World → Prop} {a : Act} {w : World} (h : bodyPost P fn R .ret a w) : AtEnd P fn R a w := h

/-- A world in which what was in w is as it was. -/
structure After (w : World) where
  world : World
  below : Below w.heap.size w world
instance (w : World) : Nonempty (After w) := ⟨⟨w, Below.refl _ _⟩⟩
def InAfter (w w' : World) : Prop := ∃ p : After w, w' = p.world
theorem InAfter.below {w w' : World} (h : InAfter w w') : Below w.heap.size w w' := by obtain ⟨p, rfl⟩ := h; exact p.below
section
variable {P : Program} {w : World}
theorem wp_region_after {id : Nat} {Q : Exit → Act → World → Prop} {a : Act} {l : List Oper} (hm : P.follows .mixedOrders = true) (hB : Region.lexB .any l.toArray = true)
    (h : wpQuiet P l.toArray (fun w' => ∃ p : After w, w' = p.world) (fun a' => ∀ w', Below w.heap.size w w' → Q .normal a' w') l a) : (Code.region id l.toArray true).wp P Q a w :=
  wp_region_quiet (C := fun w' => ∃ p : After w, w' = p.world) hm hB ⟨⟨w.drew, (Below.refl _ _).drew⟩, rfl⟩
    (by
      have e : (fun a' => ∀ w', (∃ p : After w, w' = p.world) → Q .normal a' w') = (fun a' => ∀ w', Below w.heap.size w w' → Q .normal a' w') := by
        funext a'
        apply propext
        exact ⟨fun h w' hb => h w' ⟨⟨w', hb⟩, rfl⟩, fun h w' ⟨p, hp⟩ => h w' (hp ▸ p.below)⟩
      rw [e]
      simpa using h)
theorem After.call (p : After w) {f : FuncId} {args : Array Value} {v : Value} (h : Calls P f args p.world fun e w' => e = .returned v ∧ Below p.world.heap.size p.world w') :
    Calls P f args p.world fun e w'' => e = .returned v ∧ ∃ q : After w, w'' = q.world :=
  h.mono fun _ w' ⟨he, hb⟩ => ⟨he, ⟨w', p.below.trans (hb.mono p.below.size)⟩, rfl⟩
theorem After.call_same (p : After w) {f : FuncId} {args : Array Value} {v : Value} (h : Calls P f args p.world fun e w' => e = .returned v ∧ p.world = w') :
    Calls P f args p.world fun e w'' => e = .returned v ∧ ∃ q : After w, w'' = q.world :=
  h.mono fun _ _ ⟨he, hb⟩ => ⟨he, p, hb.symm⟩
theorem After.cell (p : After w) (a : Addr) (h : a.block < w.heap.size) : p.world.cell? a = w.cell? a := p.below.cell h
theorem After.frozen (p : After w) (a : Addr) (h : a.block < w.heap.size) : p.world.frozen? a = w.frozen? a := p.below.frozen h
theorem After.agg (p : After w) (a : Addr) (n : Nat) (h : a.block < w.heap.size) : aggAt p.world a n = aggAt w a n :=
  aggAt_congr fun i => p.below.cell (by rw [add_block]; exact h)
end
end Go.Proofs.Ytldacinldgjdcaa
