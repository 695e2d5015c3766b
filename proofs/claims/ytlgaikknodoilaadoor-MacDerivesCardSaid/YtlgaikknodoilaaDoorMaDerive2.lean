/- Derive where it tells an error; EqBytes. -/
import Derived.Test.YtlgaikknodoilaaDoorMaDerive
namespace Go.Proofs.YtlgaikknodoilaaDoor.Sh
set_option linter.unusedVariables false
set_option linter.unusedSimpArgs false
open Go Go.RowKit

set_option maxRecDepth 4000 in
set_option maxHeartbeats 1000000 in
theorem derive_bad (kv : Value) (s : ByteArray) (n : Int) (h : (∃ x ∈ s.data.toList, x = 0) ∨ n < 0 ∨ 9007199254740991 < n) (w : World) :
    Calls Tryd.prog 20 #[kv, .string s, .int .i64 n] w fun e w' => e = .returned (.tuple #[.agg (A16 (List.replicate 16 0)), .int .i64 2]) ∧ Below w.heap.size w w' := by
  have HR := Lib.hid (show (WD w).heap[w.heap.size]? = some (.cells (A16 (List.replicate 16 0)) 41 (0, 0)) from WD_res w)
  have H16 := Lib.hid (show (List.replicate 16 (0 : UInt8)).length = 16 from rfl)
  generalize hL : List.replicate 16 (0 : UInt8) = L at *
  clear hL
  have key : ∀ c : Bool, decide (0 ≤ Lib.indexByte s.data.toList 0) = c → (c = true ∨ n < 0 ∨ 9007199254740991 < n) →
      Calls Tryd.prog 20 #[kv, .string s, .int .i64 n] w fun e w' => e = .returned (.tuple #[.agg (A16 L), .int .i64 2]) ∧ Below w.heap.size w w' := by
    intro c hc hor
    have HC := Lib.hid hc
    clear hc h
    have split : c = true ∨ (c = false ∧ n < 0) ∨ (c = false ∧ ¬ n < 0 ∧ 9007199254740991 < n) := by
      cases c
      · rcases hor with h | h | h
        · cases h
        · exact .inr (.inl ⟨rfl, h⟩)
        · by_cases h0 : n < 0
          · exact .inr (.inl ⟨rfl, h0⟩)
          · exact .inr (.inr ⟨rfl, h0, h⟩)
      · exact .inl rfl
    clear hor
    rcases split with rfl | ⟨rfl, h1⟩ | ⟨rfl, h1, h2⟩
    all_goals (
      go_enter Tryd.func20, Tryd.ntmps20
      go_wp2_with (first
        | (go_at_call 30; refine (contains_calls s _).mono ?_; rintro e w1 ⟨rfl, rfl⟩; rw [HC.out])
        | (refine wpList_load_blk rfl 41 (.tmp 6) rfl w.heap.size 0 rfl _ _ _ HR.out (A16 L) (List.take_of_length_le (Nat.le_refl _)) _ Tryd.underlying41 rfl (info_A16 _ H16.out) ?_)
        | (refine wpList_store_upd rfl 41 (.tmp 6) (.tmp 20) rfl w.heap.size 0 (.agg (A16 L)) rfl rfl _ _ HR.out (info_A16 _ H16.out) (Nat.le_of_eq (Nat.zero_add _)) (one_A16 _) rfl ?_; intro w10 hu10; rw [put_A16 _ H16.out] at hu10; replace hu10 := Lib.hid hu10))
      refine bodyPost_ret (ret_row2 rfl _ _ w.heap.size _ (A16 L) _ _ (.int .i64 2) rfl rfl hu10.out.here Tryd.underlying41 rfl (info_A16 _ H16.out)) rfl ⟨rfl, ?_⟩
      exact (WD_below w).trans (hu10.out.below (Nat.le_refl _)))
  refine key _ rfl ?_
  rcases h with ⟨x, hx, rfl⟩ | h | h
  · left
    rw [decide_eq_true_iff]
    have hge := Lib.indexByte_ge s.data.toList 0
    have hno : ¬ Lib.indexByte s.data.toList 0 < 0 := fun hlt => (indexByte_none s.data.toList).1 hlt 0 hx rfl
    omega
  · exact .inr (.inl h)
  · exact .inr (.inr h)

theorem eqBytes_calls (av bvv : Value) (a b : Bs) (w : World) (ha : RD w.heap.size w av a) (hb : RD w.heap.size w bvv b) :
    Calls Tryd.prog 21 #[av, bvv] w fun e w' => e = .returned (.bool (a == b)) ∧ w = w' := by
  have ra := run_bytes_str (P := Tryd.prog) Tryd.underlying9 Tryd.underlying22 Tryd.underlying5 ha
  have rb := run_bytes_str (P := Tryd.prog) Tryd.underlying9 Tryd.underlying22 Tryd.underlying5 hb
  generalize hsa : (⟨a.toArray⟩ : ByteArray) = sa at ra
  generalize hsb : (⟨b.toArray⟩ : ByteArray) = sb at rb
  have HA := Lib.hid hsa
  have HB := Lib.hid hsb
  clear ha hb hsa hsb
  go_enter Tryd.func21, Tryd.ntmps21
  go_wp2
  go_ret
  refine ⟨?_, rfl⟩
  rw [← HA.out, ← HB.out]
  show Ending.returned (Value.bool ((⟨a.toArray⟩ : ByteArray).toList == (⟨b.toArray⟩ : ByteArray).toList)) = _
  rw [ByteArray.toList_eq, ByteArray.toList_eq]
end Go.Proofs.YtlgaikknodoilaaDoor.Sh
