/- The frame of the rows of this seat: the tables out of what a row lists; a world for the witness. -/
import Derived.Test.YtlgaikknodoilaaDoorCards
import Derived.Test.YtlgaikknodoilaaDoorTie
import Derived.WalkKit
import Derived.ProofKit
import Derived.OpenShut
import Derived.Deep.DeepHandedRow
import Derived.Lib.LaidTab
import Derived.Stop.LaidErr
import Derived.Test.YtlgaikknodoilaaDoorShMem
namespace Go.Proofs.YtlgaikknodoilaaDoor.Sh
set_option linter.unusedVariables false
set_option linter.unusedSimpArgs false
open Go Go.ChangeShapes Go.WideShapes Go.ChangeAt Go.RowKit

theorem own : ownKnob Tryd.prog.godebug = none := by kernel_rfl
theorem laidOut : laidOutB Tryd.prog = true := by kernel_rfl

theorem gRound : Tryd.prog.globalNamed "sealchain/sha.round" = some 1 := by kernel_rfl
theorem gFirst : Tryd.prog.globalNamed "sealchain/sha.first" = some 0 := by kernel_rfl
theorem tRound : (Tryd.prog.globals[1]?).map (·.type) = some 67 := by kernel_rfl
theorem tFirst : (Tryd.prog.globals[0]?).map (·.type) = some 51 := by kernel_rfl
theorem cellsRound : Tryd.prog.cellsOf 67 = 64 := by kernel_rfl
theorem cellsFirst : Tryd.prog.cellsOf 51 = 8 := by kernel_rfl
theorem cellsU32 : Tryd.prog.cellsOf 50 = 1 := by kernel_rfl

theorem heap_of_var {P : Program} {w : World} {name : String} {g : Nat} {cs : Array Value} (hg : P.globalNamed name = some g) (h : w.var? P name = some cs) : ∃ t fr, w.heap[g]? = some (.cells cs t fr) := by
  unfold World.var? at h
  rw [hg, Option.bind_some] at h
  split at h
  · rename_i c t fr e
    exact ⟨t, fr, by rw [e]; simpa using h⟩
  · cases h

def ksI : List Int := ks.map fun x => (x.toNat : Int)
def firstI : List Int := first.list.map fun x => (x.toNat : Int)

theorem tab_of_var {W : World} (h1 : Lib.TabIs Tryd.prog W "sealchain/sha.round" .u32 ksI) (h2 : Lib.TabIs Tryd.prog W "sealchain/sha.first" .u32 firstI) : Tab W := by
  refine ⟨?_, ?_⟩
  · obtain ⟨t, fr, h⟩ := heap_of_var gFirst h2
    refine ⟨t, fr, ?_⟩
    rw [h]
    rfl
  · obtain ⟨t, fr, h⟩ := heap_of_var gRound h1
    refine ⟨t, fr, ?_⟩
    rw [h]
    unfold ksI
    rw [List.map_map]
    rfl
set_option maxRecDepth 100000 in
theorem tab_of_laid {W : World} (h : laidMetH Tryd.prog [("sealchain/sha.round", Rows.laid_sealchain_sha_round), ("sealchain/sha.first", Rows.laid_sealchain_sha_first)] W) : Tab W := by
  have h1 : laidMet Tryd.prog [("sealchain/sha.round", Lib.tabData .u32 ksI), ("sealchain/sha.first", Lib.tabData .u32 firstI)] W := h
  exact tab_of_var (Lib.tabIs_of_head gRound tRound Tryd.underlying67 Tryd.underlying50 cellsU32 cellsRound h1) (Lib.tabIs_of_head gFirst tFirst Tryd.underlying51 Tryd.underlying50 cellsU32 cellsFirst h1.tail)

def hold (l : List Int) : Obj → Obj
  | .cells _ t frozen => .cells (l.map (Value.int .u32)).toArray t frozen
  | o => o
/-- A WORLD FOR THE WITNESS: the settled one, the tables holding what their initialisers lay. -/
noncomputable def laidWorld (os : Os) : World :=
  { World.holding Tryd.prog os ⟨#[], #[], []⟩ with heap := (((World.holding Tryd.prog os ⟨#[], #[], []⟩).heap.modify 0 (hold firstI)).modify 1 (hold ksI)) }
set_option maxRecDepth 100000 in
theorem laid_met (os : Os) (args : Array Value) : laidMet Tryd.prog [("sealchain/sha.round", Rows.laid_sealchain_sha_round), ("sealchain/sha.first", Rows.laid_sealchain_sha_first)] ((laidWorld os).forCall (fun _ _ => 0) ⟨#[], args, []⟩).memory :=
  laidMet_of_run' 8 (by kernel_rfl) (by kernel_rfl)
end Go.Proofs.YtlgaikknodoilaaDoor.Sh
