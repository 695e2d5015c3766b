/- strings.ContainsRune at 0. -/
import Derived.Test.YtlgaikknodoilaaDoorShGo
import Derived.Lib.Bytealg
import Derived.Laws.Externs
namespace Go.Proofs.YtlgaikknodoilaaDoor.Sh
set_option linter.unusedVariables false
set_option linter.unusedSimpArgs false
open Go Go.RowKit

theorem slib_calls (s : ByteArray) (w : World) :
    Calls Tryd.prog 54 #[.string s, .int .u8 0] w fun e w' => e = .returned (.int .i64 (Lib.indexByte s.data.toList 0)) ∧ w = w' := by
  go_enter Tryd.func54, Tryd.ntmps54
  go_wp2
  rw [run_callFunc_extern Tryd.func55 (by kernel_rfl) (by kernel_rfl) (by kernel_rfl) (e := Extern.BytealgIndexByte.indexByte) (by kernel_rfl), Lib.run_indexByteString]
  simp only [Result.andThen]
  rw [Oper.upon_value]
  go_wp2
  go_ret
  exact ⟨rfl, rfl⟩
theorem sib_calls (s : ByteArray) (w : World) :
    Calls Tryd.prog 46 #[.string s, .int .u8 0] w fun e w' => e = .returned (.int .i64 (Lib.indexByte s.data.toList 0)) ∧ w = w' := by
  go_enter Tryd.func46, Tryd.ntmps46
  go_wp2_with (go_at_call 54; refine (slib_calls s w).mono ?_; rintro e w1 ⟨rfl, rfl⟩)
  go_ret
  exact ⟨rfl, rfl⟩
set_option maxHeartbeats 2000000 in
set_option maxRecDepth 1000000 in
theorem sir_calls (s : ByteArray) (w : World) :
    Calls Tryd.prog 41 #[.string s, .int .i32 0] w fun e w' => e = .returned (.int .i64 (Lib.indexByte s.data.toList 0)) ∧ w = w' := by
  go_enter Tryd.func41, Tryd.ntmps41
  go_wp2_with (go_at_call 46; refine (sib_calls s w).mono ?_; rintro e w1 ⟨rfl, rfl⟩)
  go_ret
  exact ⟨rfl, rfl⟩
theorem contains_calls (s : ByteArray) (w : World) :
    Calls Tryd.prog 30 #[.string s, .int .i32 0] w fun e w' => e = .returned (.bool (decide (0 ≤ Lib.indexByte s.data.toList 0))) ∧ w = w' := by
  go_enter Tryd.func30, Tryd.ntmps30
  go_wp2_with (go_at_call 41; refine (sir_calls s w).mono ?_; rintro e w1 ⟨rfl, rfl⟩)
  go_ret
  exact ⟨rfl, rfl⟩
theorem indexByte_none (l : List UInt8) : Lib.indexByte l 0 < 0 ↔ ∀ x ∈ l, x ≠ 0 := by
  induction l with
  | nil => simp [Lib.indexByte]
  | cons b l ih =>
    have hge := Lib.indexByte_ge l 0
    unfold Lib.indexByte
    by_cases hb : b = 0
    · subst hb
      simp
    · have e1 : (b == 0) = false := by simpa using hb
      rw [e1]
      simp only [Bool.false_eq_true, if_false]
      by_cases hl : Lib.indexByte l 0 = -1
      · rw [hl]
        have := ih.1 (by omega)
        simp only [List.mem_cons, forall_eq_or_imp]
        exact ⟨fun _ => ⟨hb, this⟩, fun _ => by decide⟩
      · have e2 : (Lib.indexByte l 0 == -1) = false := by simpa using hl
        rw [e2]
        simp only [Bool.false_eq_true, if_false]
        constructor
        · intro h; omega
        · intro h
          have := ih.2 fun x hx => h x (List.mem_cons_of_mem _ hx)
          omega
end Go.Proofs.YtlgaikknodoilaaDoor.Sh
