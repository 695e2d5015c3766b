/- The contract of Bring. -/
import Derived.Test.YtlgaikknodoilaaDoorShPkg
namespace Go.Proofs.YtlgaikknodoilaaDoor.Sh
set_option linter.unusedVariables false
set_option linter.unusedSimpArgs false
open Go Go.RowKit

/-- Bring: the number that is from 0 to below n. -/
theorem bring_calls (i n : Int) (hn : 0 < n) (hm : n ≤ 9223372036854775807) (hi0 : -9223372036854775808 ≤ i) (hi1 : i ≤ 9223372036854775807) (w : World) :
    Calls Tryd.prog 12 #[.int .i64 i, .int .i64 n] w fun e w' => e = .returned (.int .i64 (i % n)) ∧ w = w' := by
  go_enter Tryd.func12, Tryd.ntmps12
  go_wp2_with fail
  · have hneg : i.tmod n < 0 := by assumption
    have e : wrap64 (i.tmod n + n) = i % n := by
      have e1 := Int.tmod_eq_emod (a := i) (b := n)
      have e2 := Int.emod_nonneg i (Int.ne_of_gt hn)
      have e3 := Int.emod_lt_of_pos i hn
      have e4 : (n.natAbs : Int) = n := by omega
      split at e1
      · omega
      · rw [e1, e4, show i % n - n + n = i % n from by omega]
        exact IntWalk.wrap64_in _ (by omega)
    have E := Lib.hid e
    clear e
    go_ret
    exact ⟨congrArg (fun z => Ending.returned (.int .i64 z)) E.out, rfl⟩
  · have hpos : 0 ≤ i.tmod n := by assumption
    have e : i.tmod n = i % n := by
      have e1 := Int.tmod_eq_emod (a := i) (b := n)
      have e2 := Int.emod_nonneg i (Int.ne_of_gt hn)
      have e3 := Int.emod_lt_of_pos i hn
      have e4 : (n.natAbs : Int) = n := by omega
      split at e1 <;> omega
    have E := Lib.hid e
    clear e
    go_ret
    exact ⟨congrArg (fun z => Ending.returned (.int .i64 z)) E.out, rfl⟩
end Go.Proofs.YtlgaikknodoilaaDoor.Sh
