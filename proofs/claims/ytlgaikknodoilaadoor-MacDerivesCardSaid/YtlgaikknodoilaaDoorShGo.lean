/- What the laws' walks share: rows of noughts; what a walk keeps. -/
import Derived.Test.YtlgaikknodoilaaDoorShBring
import Derived.Test.YtlgaikknodoilaaDoorShStr
import Derived.Test.YtlgaikknodoilaaDoorShEq
import Derived.Deep.RegionWith
import Derived.Deep.Cut
namespace Go.Proofs.YtlgaikknodoilaaDoor.Sh
set_option linter.unusedVariables false
set_option linter.unusedSimpArgs false
open Go Go.RowKit

/-- A row of noughts. -/
def Z (n : Nat) : Array Value := ((List.replicate n (0 : UInt8)).map bv).toArray
theorem size_Z (n : Nat) : (Z n).size = n := by simp [Z]
theorem run_make_Z (n : Nat) (hn : n ≤ 140737488355328) (w : World) : (Instr.makeSlice 22 (.int .i64 (n : Int)) (.int .i64 (n : Int))).run Tryd.prog w = .ok (.slice (some ⟨w.heap.size, 0, none⟩) n n) (w.alloc (.cells (Z n) 5)) := by
  obtain ⟨i, hi, hz0, hz1, hz2⟩ := info_parts (P := Tryd.prog) (e := 5) (z := .int .u8 0) (size := 1) (bytes := 1) (by kernel_rfl)
  have h := run_make (P := Tryd.prog) w 22 5 i _ Tryd.underlying22 hi hz0 .i64 .i64 (n : Int) (n : Int) (by omega) (by omega) (by rw [hz2]; omega) (by omega)
  rw [h]
  simp only [Int.toNat_natCast, hz1, Nat.mul_one]
  have : madeCells (Value.cells (.int .u8 0)) n = Z n := by
    apply Array.ext'
    rw [show Value.cells (.int .u8 0) = #[.int .u8 0] from rfl, toList_madeCells_one]
    unfold Z
    rw [List.map_replicate]
    rfl
  rw [this]
theorem rd_Z (w : World) (p n : Nat) (hn : n ≤ 140737488355328) (t : TypeId) (fr : Nat × Nat) (h : w.heap[p]? = some (.cells (Z n) t fr)) : RD w.heap.size w (.slice (some ⟨p, 0, none⟩) n n) (List.replicate n 0) := by
  refine ⟨_, n, by simp, by simp, by simp only [maxLen]; omega, by simp, fun _ => ⟨p, 0, rfl, lt_of_heap h, fun j u hu => ?_⟩⟩
  rw [cell_of_row _ _ _ _ _ _ h, Nat.zero_add]
  show ((List.replicate n (0 : UInt8)).map bv).toArray[j]? = some u
  rw [List.getElem?_toArray]
  exact hu
theorem shaSum_Z (p n : Nat) (w : World) (hn : n ≤ 549755813888) (ht : Tab w) (h : w.heap[p]? = some (.cells (Z n) 5 (0, 0))) :
    Calls Tryd.prog 11 #[.slice (some ⟨p, 0, none⟩) n n] w fun e w' => e = .returned (.agg (A32 (sha (List.replicate n 0)))) ∧ Below w.heap.size w w' :=
  shaSum_calls _ _ w ht (rd_Z w p n (by omega) _ _ h) (by simp; omega)

/-- What a walk keeps as it goes: the tables; of what was there, all. -/
structure LI (w0 w : World) : Prop where
  tab : Tab w
  bel : Below w0.heap.size w0 w
theorem LI.start {w : World} (h : Tab w) : LI w w := ⟨h, Below.refl _ _⟩
theorem LI.alloc {w0 w : World} (h : LI w0 w) (o : Obj) : LI w0 (w.alloc o) := ⟨h.tab.alloc o, h.bel.alloc h.bel.size o⟩
theorem LI.drew {w0 w : World} (h : LI w0 w) : LI w0 w.drew := ⟨h.tab.drew, below_drewN' (n := 1) h.bel⟩
theorem LI.call {w0 w w' : World} (h : LI w0 w) (hb : Below w.heap.size w w') : LI w0 w' := ⟨h.tab.below hb h.tab.lt, h.bel.trans (hb.mono h.bel.size)⟩
theorem heap_new2 (w : World) (o o' : Obj) : ((w.alloc o).alloc o').heap[w.heap.size + 1]? = some o' := by
  have h := heap_new (w.alloc o) o'
  rwa [World.size_alloc] at h

theorem shaSum_L (w0 : World) (p n : Nat) (w : World) (hn : n ≤ 549755813888) (li : LI w0 w) (h : w.heap[p]? = some (.cells (Z n) 5 (0, 0))) :
    Calls Tryd.prog 11 #[.slice (some ⟨p, 0, none⟩) n n] w fun e w' => e = .returned (.agg (A32 (sha (List.replicate n 0)))) ∧ LI w0 w' ∧ Below w.heap.size w w' :=
  (shaSum_Z p n w hn li.tab h).mono fun _ _ ⟨h1, h2⟩ => ⟨h1, li.call h2, h2⟩

end Go.Proofs.YtlgaikknodoilaaDoor.Sh
