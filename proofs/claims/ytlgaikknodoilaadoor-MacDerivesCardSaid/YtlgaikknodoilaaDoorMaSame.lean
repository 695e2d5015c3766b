/- The contract of Same; the walk of MacSame. -/
import Derived.Test.YtlgaikknodoilaaDoorMaKeys
namespace Go.Proofs.YtlgaikknodoilaaDoor.Sh
set_option linter.unusedVariables false
set_option linter.unusedSimpArgs false
open Go Go.RowKit

theorem u8_or (x y : UInt8) : bits .or .u8 (x.toNat : Int) (y.toNat : Int) = ((x ||| y).toNat : Int) := by
  have h : ∀ z : UInt8, BitVec.ofInt IntKind.u8.bits (z.toNat : Int) = z.toBitVec := by
    intro z
    rw [BitVec.ofInt_natCast]; exact BitVec.eq_of_toNat_eq (by rw [BitVec.toNat_ofNat]; exact Nat.mod_eq_of_lt z.toBitVec.isLt)
  have k : ∀ z : UInt8, IntKind.u8.wrap (z.toNat : Int) = (z.toNat : Int) := by
    intro z; have := z.toNat_lt; rw [IntKind.wrap_u8]; omega
  unfold bits
  simp only [h]
  exact k (x ||| y)
theorem diff_beq (a b : Bs) (ha : a.length = 32) (hb : b.length = 32) : (((diff a b 32).toNat : Int) == 0) = (a == b) := by
  have h := diff_eq a b ha hb
  by_cases e : a = b
  · have e0 := h.2 e
    rw [e0, e]
    have : (b == b) = true := by simp
    rw [this]; rfl
  · have e0 : diff a b 32 ≠ 0 := fun h0 => e (h.1 h0)
    have e1 : (a == b) = false := by simpa using e
    rw [e1, beq_eq_false_iff_ne]
    intro h0
    apply e0
    apply UInt8.toNat_inj.1
    have : (0 : UInt8).toNat = 0 := rfl
    omega
theorem A32_get' (l : Bs) (k : Nat) (h : k < l.length) : (A32 l)[k]? = some (bv (l.getD k 0)) := by
  simp [A32, List.getElem?_eq_getElem h, List.getD_eq_getElem?_getD]
theorem info_A32l (l : Bs) (h : l.length = 32) : (Tryd.prog.info? 24).map (·.size) = some (A32 l).size := by rw [size_A32, h]; exact info_a32

set_option maxRecDepth 4000 in
set_option maxHeartbeats 400000 in
theorem same_calls (a b : Bs) (ha : a.length = 32) (hb : b.length = 32) (w : World) :
    Calls Tryd.prog 19 #[.agg (A32 a), .agg (A32 b)] w fun e w' => e = .returned (.bool (a == b)) ∧ Below w.heap.size w w' := by
  have hp2 := Lib.hid (heap_old (heap_new w (.cells (A32 a) 24)) (.cells (A32 b) 24))
  have hp3 := Lib.hid (heap_new2 w (.cells (A32 a) 24) (.cells (A32 b) 24))
  have HA := Lib.hid ha
  have HB := Lib.hid hb
  go_enter Tryd.func19, Tryd.ntmps19
  go_wp2_with (refine wpList_load_blk rfl 24 (.tmp 2) rfl w.heap.size 0 rfl _ _ _ hp2.out (A32 a) (List.take_of_length_le (Nat.le_refl _)) _ Tryd.underlying24 rfl (info_A32l a HA.out) ?_)
  go_loopg [5, 9] 32 (fun g dv iv wr => ∃ k : Nat, k + g = 32 ∧ dv = .int .u8 ((diff a b k).toNat : Int) ∧ iv = .int .i64 k ∧ wr.heap[w.heap.size + 1]? = some (.cells (A32 b) 24 (0, 0)) ∧ Below w.heap.size w wr)
  case atStart => exact ⟨0, rfl, rfl, rfl, hp3.out, ((Below.refl _ _).alloc (Nat.le_refl _) _).alloc (by simp) _⟩
  case round =>
    obtain ⟨k, hk, rfl, rfl, hrow, hbel⟩ := hrel
    have HR := Lib.hid hrow
    have HBE := Lib.hid hbel
    clear hp2 hp3
    by_cases hlt : k < 32
    · have c1 : wr.cell? ⟨w.heap.size + 1, k, none⟩ = some (bv (b.getD k 0)) := by rw [cell_of_row wr _ k _ _ _ hrow]; exact A32_get' b k (by omega)
      have ga := Lib.hid (A32_get' a k (by omega))
      have hst := Lib.hid (show diff a b (k + 1) = diff a b k ||| (a.getD k 0 ^^^ b.getD k 0) from rfl)
      generalize diff a b k = dk at *
      generalize a.getD k 0 = xa at ga hst
      generalize b.getD k 0 = xb at c1 hst
      unfold bv at c1
      clear hrow hbel
      go_wp2_with (refine wpList_index_row rfl 24 (.tmp 8) (.tmp 9) rfl Tryd.underlying24 Tryd.underlying5 rfl info_u8 (A32 a) rfl .i64 k rfl hlt (bv xa) ga.out ?_; unfold bv)
      go_roundg (gk - 1)
      case measure => omega
      case rel =>
        refine ⟨k + 1, by omega, ?_, by go_num, HR.out, HBE.out⟩
        rw [hst.out, ← u8_or, ← u8_xor]
    · obtain rfl : k = 32 := by omega
      clear hrow hbel
      go_wp2_with fail
      go_ret
      exact ⟨congrArg (fun q => Ending.returned (.bool q)) (diff_beq a b HA.out HB.out), HBE.out⟩
end Go.Proofs.YtlgaikknodoilaaDoor.Sh
