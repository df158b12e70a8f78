/- The walk of the law HashRights: it returns true; of what was in memory nothing turns. -/
import Derived.Test.YtldacinldgjdcaaHashF
namespace Go.Proofs.Ytldacinldgjdcaa
open Go.RowKit
set_option maxHeartbeats 400000 in
theorem hashRights_walk (c k n d f b : Int) (w : World) (w0 : (Lit.int .u8 c).wf = true) (w1 : (Lit.int .u8 k).wf = true) (w2 : (Lit.int .u8 n).wf = true) (_w3 : (Lit.int .i64 d).wf = true) (_w4 : (Lit.int .i64 f).wf = true) (w5 : (Lit.int .u64 b).wf = true) :
    Calls Try.prog 5 #[.int .u8 c, .int .u8 k, .int .u8 n, .int .i64 d, .int .i64 f, .int .u64 b] w fun e w' => e = .returned (.bool true) ∧ Below w.heap.size w w' := by
  obtain ⟨c0, c1⟩ := u8_of w0
  obtain ⟨k0, k1⟩ := u8_of w1
  obtain ⟨n0, n1⟩ := u8_of w2
  have hb := u64_of w5
  clear w0 w1 w2 _w3 _w4 w5
  go_enter Try.func5, Try.ntmps5
  go_wp2_with (first
    | (go_at_call 34; refine (rook_any _ _ _ _ c0 c1).mono ?_; rintro e w1 ⟨rfl, hb1⟩)
    | (go_at_call 35; refine (refrook_any _ _ _ _ c0 c1).mono ?_; rintro e w2 ⟨rfl, hb2⟩)
    | (go_at_call 36; refine (pock_any _ _ _ _ c0 c1 k0 k1 n0 n1).mono ?_; rintro e w3 ⟨rfl, hb3⟩)
    | (go_at_call 37; refine (refpock_any _ _ _ _ c0 c1 k0 k1 n0 n1).mono ?_; rintro e w4 ⟨rfl, hb4⟩)
    | (go_at_call 38; refine (check_any _ _ _ c0 c1 n0 n1).mono ?_; rintro e w5 ⟨rfl, hb5⟩)
    | (go_at_call 39; refine (refcheck_any _ _ _ c0 c1 n0 n1).mono ?_; rintro e w6 ⟨rfl, hb6⟩)
    | (go_at_call 40; refine (prom_any _ _ hb).mono ?_; rintro e w7 ⟨rfl, hb7⟩)
    | (go_at_call 41; refine (refprom_any _ _ hb).mono ?_; rintro e w8 ⟨rfl, hb8⟩))
  go_returns
  exact ⟨rfl, below_join hb1 (below_join hb2 (below_join hb3 (below_join hb4 (below_join hb5 (below_join hb6 (below_join hb7 hb8))))))⟩
end Go.Proofs.Ytldacinldgjdcaa
