/- The walk of ShaLengths. -/
import Derived.Test.YtkfoalfnjeachaaDoorShGo
import Derived.Test.YtkfoalfnjeachaaDoorShOpen
import Derived.Test.YtkfoalfnjeachaaDoorShNoughts
namespace Go.Proofs.YtkfoalfnjeachaaDoor.Sh
open Go Go.RowKit

theorem bring_nat (i : Int) : ∃ n : Nat, i % 201 = n ∧ n < 201 := ⟨(i % 201).toNat, by omega, by omega⟩


set_option maxHeartbeats 400000 in
theorem lengths_calls (w : World) (ht : Tab w) (a : Int) (fa : Fits a) (b : Int) (fb : Fits b) :
    Calls Tryd.prog 3 #[.int .i64 a, .int .i64 b] w fun e w' => e = .returned (.bool true) ∧ Below w.heap.size w w' := by
  obtain ⟨ha, ha'⟩ := fa
  obtain ⟨hb, hb'⟩ := fb
  obtain ⟨n, hn, hn'⟩ := bring_nat a
  obtain ⟨m, hm, hm'⟩ := bring_nat b
  have HN := Lib.hid hn
  have HM := Lib.hid hm
  clear hn hm
  have mn := run_make_Z n (by omega)
  have mm := run_make_Z m (by omega)
  have hq : ∀ w, (binOp .eql 23 (.agg (A32 (sha (List.replicate n 0)))) (.agg (A32 (sha (List.replicate m 0))))).run Tryd.prog w = .ok (.bool ((n : Int) == (m : Int))) w := fun w => by rw [run_eql_A32 _ _ (length_sha _) (length_sha _), unlike n m hn' hm']
  go_enter Tryd.func3, Tryd.ntmps3
  go_upto_region 2 with (go_at_call 9; refine (bring_calls _ 201 (by omega) (by omega) (by assumption) (by assumption) _).mono ?_; rintro e w' ⟨rfl, rfl⟩; first | rw [HN.out] | rw [HM.out])
  have li := LI.start ht
  have hn2 : n ≤ 549755813888 := by omega
  have hm2 : m ≤ 549755813888 := by omega
  go_region_with (first
    | (go_at_call 10
       refine (shaSum_L w _ _ _ (by assumption) ?_ ?_).mono ?_
       · repeat (first | exact li | apply LI.drew | apply LI.alloc)
       · first
         | exact heap_new _ _
         | exact heap_old (heap_new _ _) _
         | exact heap_new2 _ _ _
         | exact (hb1.block _ (by simp)).trans (heap_new2 w _ _)
         | exact (hb1.block _ (by simp; omega)).trans (heap_old (heap_new w _) _)
       rintro e w1 ⟨rfl, li, hb1⟩)
    | (go_at_call 11
       refine (works_L w _ li).mono ?_
       rintro e w1 ⟨rfl, li⟩))
  all_goals (go_wp2_with fail)
  all_goals (go_ret; exact ⟨rfl, li.bel⟩)
end Go.Proofs.YtkfoalfnjeachaaDoor.Sh
