/- The walks of List and of the reference of Promoted, and what append of one whole number does. -/
import Derived.Test.YtldacinldgjdcaaHashE
import Derived.Maps.AppendAt
import Derived.Deep.AppendLies
import Derived.Lib.SmallJoins
namespace Go.Proofs.Ytldacinldgjdcaa
open Go.RowKit
theorem append_int {ops : Array Oper} {rest : List Oper} {o : Oper} {a : Act} {Q : Exit → Act → World → Prop} (w : World) (hgd : o.guard = none) (s x : Operand)
    (ho : o.op = .call { callee := .builtin .append, args := #[s, x], argTypes := #[73, 73] }) (base : Nat) (v : Value) (n : Nat) (l : List Value) (hs : a.eval s = v) (hown : w.ownsRow base 3 1 v n l)
    (ad : Addr) (c : Nat) (u : Value) (hx : a.eval x = .slice (some ad) 1 c) (hc : w.cell? (ad.add 0) = some u) (h1 : u.oneCell' = true) (hn : n ≤ 1000000) (hbase : base ≤ w.heap.size)
    (h : ∀ v' w', w'.ownsRow base 3 1 v' (n + 1) (l ++ [u]) → w.grownBy w' v.ownBlock → (v'.ownBlock = v.ownBlock ∨ v'.ownBlock = some w.heap.size) → wpList Try.prog ops Q rest (a.put o.dst v') w') : wpList Try.prog ops Q (o :: rest) a w := by
  obtain ⟨i0, hi, hz0, hz1, hz2⟩ := info_parts int_info
  refine wpList_append_own_at w hgd s x 73 ho base 3 i0 (.int .i64 0) 1 8 Try.underlying73 hi hz0 hz1 hz2 rfl (by decide) v n l hs hown ad 1 c [u] hx rfl ?_ (by simpa using h1) (by unfold maxLen; omega) (by omega) hbase (fun v' w' h2 h3 _ h5 => h v' w' h2 h3 h5)
  intro j y hy
  rcases j with _ | j
  · simp at hy; subst hy; exact hc
  · simp at hy
def ListPost (b : Int) (w : World) (e : Ending) (w' : World) : Prop :=
  ∃ v, e = .returned v ∧ w'.ownsRow w.heap.size 3 1 v (listL b 64).length (intsOf (listL b 64)) ∧ Below w.heap.size w w'
set_option maxHeartbeats 400000 in
theorem list_any (b : Int) (w : World) (hb : R64 b) :
    Calls Try.prog 67 #[.int .u64 b] w (ListPost b w) := by
  have HA := Lib.hid (fun (s : Nat) (w : World) (hs : s < 64) => has_any b s w hb hs)
  clear hb
  go_enter Try.func67, Try.ntmps67
  go_wp2
  go_loopw [3, 4] (fun v i wr => ∃ k : Nat, k ≤ 64 ∧ i = .int .i64 k ∧ wr.ownsRow w.heap.size 3 1 v (listL b k).length (intsOf (listL b k)) ∧ Below w.heap.size w wr) (fun _ i _ => 64 - (intOf i).toNat)
  case atStart => exact ⟨0, by omega, rfl, World.ownsRow_nil _ _ _ _, Below.refl _ _⟩
  case round =>
    obtain ⟨k, hk, rfl, hown, hbw⟩ := hrel
    have hll := listL_len b k
    by_cases hlt : k < 64
    · rcases (Bool.eq_false_or_eq_true (bitB b k)).symm with hbit | hbit
      · have HE := Lib.hid (show listL b (k + 1) = listL b k by rw [listL_succ, hbit]; simp)
        go_wp2_with (go_at_call 77; refine (HA.out k _ hlt).mono ?_; rw [hbit]; rintro e w1 ⟨rfl, rfl⟩)
        go_roundw
        case rel => exact ⟨k + 1, by omega, by go_num, by rw [HE.out]; exact hown, hbw⟩
        case measure => simp [intOf]; omega
      · have HE := Lib.hid (show listL b (k + 1) = listL b k ++ [k] by rw [listL_succ, hbit]; simp)
        have hsz := hbw.size
        go_wp2_with (first | (go_at_call 77; refine (HA.out k _ hlt).mono ?_; rw [hbit]; rintro e w1 ⟨rfl, rfl⟩) | (at_builtin; refine append_int _ rfl _ _ rfl w.heap.size _ _ _ rfl (hown.alloc _) ⟨wr.heap.size, 0, none⟩ 1 (.int .i64 (k : Int)) rfl ?c1 rfl ?c2 ?c3 ?c4))
        case c1 => simp [go_sem]
        case c2 => omega
        case c3 => simp; omega
        case c4 =>
          intro v' w1 hown' hgrow hat
          go_wp2
          go_roundw
          case rel => exact ⟨k + 1, by omega, by go_num, by rw [HE.out]; simpa [intsOf] using hown', (hbw.alloc hsz _).grown hgrow (by simp; omega) (fun g e => (World.ownsRow.lt hown _ e).1)⟩
          case measure => simp [intOf]; omega
    · obtain rfl : k = 64 := by omega
      go_wp2
      go_returns
      exact ⟨_, rfl, hown, hbw⟩

def part7 (l : List Nat) : Int := xs (l.map fun s : Nat => partV 7 s)
theorem part7_snoc (l : List Nat) (s : Nat) : part7 (l ++ [s]) = xr (part7 l) (partV 7 s) := by
  unfold part7; rw [List.map_append, List.map_cons, List.map_nil, xs_snoc]
theorem part7_succ (l : List Nat) (k : Nat) (h : k < l.length) : part7 (l.take (k + 1)) = xr (part7 (l.take k)) (partV 7 (l[k])) := by
  rw [List.take_succ_eq_append_getElem h, part7_snoc]
set_option maxHeartbeats 400000 in
theorem refprom_any (b : Int) (w : World) (hb : R64 b) :
    Calls Try.prog 41 #[.int .u64 b] w fun e w' => e = .returned (.int .u64 (promV b)) ∧ Below w.heap.size w w' := by
  have HX := Lib.hid (show part7 (listL b 64) = promV b from xs_list b 64)
  have HL := Lib.hid (list_any b · hb)
  have hlen : (listL b 64).length ≤ 64 := listL_len b 64
  unfold ListPost at HL
  generalize listL b 64 = L at HX HL hlen
  clear hb
  go_enter Try.func41, Try.ntmps41
  go_wp2_with (go_at_call 67; refine (HL.out _).mono ?_; rintro e w1 ⟨v, rfl, hown, hbw⟩)
  rcases Joins.ownsRow_forms hown with ⟨rfl, hn⟩ | ⟨g, cap, rfl⟩
  · have hL : L = [] := List.eq_nil_of_length_eq_zero hn
    subst hL
    clear hn hown
    refine wp_loop_rounds 1 ?_
    rw [rounds_succ]
    go_wp2
    go_returns
    exact ⟨ret_int HX.out, hbw⟩
  · have hcell : ∀ (k : Nat) (hk : k < L.length), w1.cell? ⟨g, k, none⟩ = some (.int .i64 (L[k] : Nat)) := by
      intro k hk
      rw [hown.cellAt k (by omega)]
      simp [intsOf, hk]
    clear hown
    have HC := Lib.hid hcell
    clear hcell
    go_loop [3, 5] (fun x i => ∃ k : Nat, k ≤ L.length ∧ i = .int .i64 k ∧ x = .int .u64 (part7 (L.take k))) (fun _ i => L.length - (intOf i).toNat)
    case atStart => exact ⟨0, by omega, rfl, rfl⟩
    case round =>
      obtain ⟨k, hk, rfl, rfl⟩ := hrel
      by_cases hlt : k < L.length
      · have hc := HC.out k hlt
        have HS := Lib.hid (part7_succ L k hlt)
        go_wp2_with (go_at_call 27; refine (refpart_any _ _ _).mono ?_; rintro e w2 ⟨rfl, rfl⟩)
        go_round
        case rel => exact ⟨k + 1, by omega, by go_num, by rw [HS.out]⟩
        case measure => simp [intOf]; omega
      · have HS := Lib.hid (show part7 (L.take k) = promV b by rw [List.take_of_length_le (by omega)]; exact HX.out)
        go_wp2
        go_returns
        exact ⟨ret_int HS.out, hbw⟩
end Go.Proofs.Ytldacinldgjdcaa
