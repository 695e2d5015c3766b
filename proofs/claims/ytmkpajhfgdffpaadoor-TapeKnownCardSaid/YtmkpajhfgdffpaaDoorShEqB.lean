/- The contract of EqBytes. -/
import Derived.Test.YtmkpajhfgdffpaaDoorShGo
namespace Go.Proofs.YtmkpajhfgdffpaaDoor.Sh
set_option linter.unusedVariables false
set_option linter.unusedSimpArgs false
open Go Go.RowKit

theorem eqBytes_calls (av bvv : Value) (a b : Bs) (w : World) (ha : RD w.heap.size w av a) (hb : RD w.heap.size w bvv b) :
    Calls Tryd.prog 14 #[av, bvv] w fun e w' => e = .returned (.bool (a == b)) ∧ w = w' := by
  have ra := run_bytes_str (P := Tryd.prog) Tryd.underlying9 Tryd.underlying22 Tryd.underlying5 ha
  have rb := run_bytes_str (P := Tryd.prog) Tryd.underlying9 Tryd.underlying22 Tryd.underlying5 hb
  generalize hsa : (⟨a.toArray⟩ : ByteArray) = sa at ra
  generalize hsb : (⟨b.toArray⟩ : ByteArray) = sb at rb
  have HA := Lib.hid hsa
  have HB := Lib.hid hsb
  clear ha hb hsa hsb
  go_enter Tryd.func14, Tryd.ntmps14
  go_wp2
  go_ret
  refine ⟨?_, rfl⟩
  rw [← HA.out, ← HB.out]
  show Ending.returned (Value.bool ((⟨a.toArray⟩ : ByteArray).toList == (⟨b.toArray⟩ : ByteArray).toList)) = _
  rw [ByteArray.toList_eq, ByteArray.toList_eq]
end Go.Proofs.YtmkpajhfgdffpaaDoor.Sh
