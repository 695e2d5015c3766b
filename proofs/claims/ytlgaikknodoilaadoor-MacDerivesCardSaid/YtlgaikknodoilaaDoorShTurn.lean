/- The contract of sha.turn. -/
import Derived.Test.YtlgaikknodoilaaDoorShBits
import Derived.Test.YtlgaikknodoilaaDoorChecked
import Derived.BigQuiet
import Derived.Deep.QuietTactic
import Derived.Outline
namespace Go.Proofs.YtlgaikknodoilaaDoor.Sh
set_option linter.unusedVariables false
set_option linter.unusedSimpArgs false
open Go Go.RowKit
set_option maxHeartbeats 400000 in
theorem turn_calls (x : W) (n : Nat) (hn : n ≤ 32) (w : World) :
    Calls Tryd.prog 40 #[wv x, .int .i64 (n : Int)] w fun e w' => e = .returned (wv (rotr x n)) ∧ ∃ k, w' = w.drewN k := by
  unfold wv
  go_enter Tryd.func40, Tryd.ntmps40
  go_wp2
  go_quiet (fail)
  go_wp2
  go_ret
  exact ⟨congrArg (fun z => Ending.returned (.int .u32 z)) (u32_rotr' x n hn), nq, rfl⟩
theorem turn_callsI (x : W) (n : Int) (h0 : 0 ≤ n) (hn : n ≤ 32) (w : World) :
    Calls Tryd.prog 40 #[.int .u32 (x.toNat : Int), .int .i64 n] w fun e w' => e = .returned (.int .u32 ((rotr x n.toNat).toNat : Int)) ∧ ∃ k, w' = w.drewN k := by
  obtain ⟨n, rfl⟩ := Int.eq_ofNat_of_zero_le h0
  exact turn_calls x n (by omega) w
end Go.Proofs.YtlgaikknodoilaaDoor.Sh
