/- The walk of the law HashParts: it returns true; of what was in memory nothing turns. -/
import Derived.Test.YtldacinldgjdcaaHashC
import Derived.OpenShut
namespace Go.Proofs.Ytldacinldgjdcaa
open Go.RowKit
theorem u8_of {a : Int} (h : (Lit.int .u8 a).wf = true) : 0 ≤ a ∧ a ≤ 255 := by
  simp [Lit.wf, IntKind.min, IntKind.max, IntKind.signed, IntKind.bits] at h; omega
theorem i8_of {a : Int} (h : (Lit.int .i8 a).wf = true) : -128 ≤ a ∧ a ≤ 127 := by
  simp [Lit.wf, IntKind.min, IntKind.max, IntKind.signed, IntKind.bits] at h; omega
theorem i64_of {a : Int} (h : (Lit.int .i64 a).wf = true) : -9223372036854775808 ≤ a ∧ a ≤ 9223372036854775807 := by
  simp [Lit.wf, IntKind.min, IntKind.max, IntKind.signed, IntKind.bits] at h; omega
theorem u64_of {a : Int} (h : (Lit.int .u64 a).wf = true) : 0 ≤ a ∧ a < 18446744073709551616 := by
  simp [Lit.wf, IntKind.min, IntKind.max, IntKind.signed, IntKind.bits] at h; omega
set_option maxHeartbeats 400000 in
theorem hashParts_walk (s n p c : Int) (w : World) (_w0 : (Lit.int .i64 s).wf = true) (_w1 : (Lit.int .i64 n).wf = true) (w2 : (Lit.int .u8 p).wf = true) (w3 : (Lit.int .u8 c).wf = true) :
    Calls Try.prog 4 #[.int .i64 s, .int .i64 n, .int .u8 p, .int .u8 c] w fun e w' => e = .returned (.bool true) ∧ Below w.heap.size w w' := by
  obtain ⟨p0, p1⟩ := u8_of w2
  obtain ⟨c0, c1⟩ := u8_of w3
  clear w2 w3 _w0 _w1
  go_enter Try.func4, Try.ntmps4
  go_wp2_with (first
    | (go_at_call 26; refine (part_any _ _ _).mono ?_; rintro e w1 ⟨rfl, hb1⟩)
    | (go_at_call 27; refine (refpart_any _ _ _).mono ?_; rintro e w1' ⟨rfl, rfl⟩)
    | (go_at_call 28; refine (piece_any _ _ _ p0 p1).mono ?_; rintro e w2 ⟨rfl, hb2⟩)
    | (go_at_call 29; refine (refpiece_any _ _ _ p0 p1).mono ?_; rintro e w3 ⟨rfl, hb3⟩)
    | (go_at_call 30; refine (turn_any _ _ c0 c1).mono ?_; rintro e w4 ⟨rfl, hb4⟩)
    | (go_at_call 31; refine (refturn_any _ _ c0 c1).mono ?_; rintro e w5 ⟨rfl, hb5⟩)
    | (go_at_call 32; refine (pass_any _ _).mono ?_; rintro e w6 ⟨rfl, hb6⟩)
    | (go_at_call 33; refine (refpass_any _ _).mono ?_; rintro e w7 ⟨rfl, hb7⟩))
  go_returns
  exact ⟨rfl, below_join hb1 (below_join hb2 (below_join hb3 (below_join hb4 (below_join hb5 (below_join hb6 hb7)))))⟩
end Go.Proofs.Ytldacinldgjdcaa
