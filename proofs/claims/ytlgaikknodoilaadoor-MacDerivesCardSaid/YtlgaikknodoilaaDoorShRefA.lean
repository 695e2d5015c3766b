/- The reference: first, constants, turn, words. -/
import Derived.Test.YtlgaikknodoilaaDoorShTake
namespace Go.Proofs.YtlgaikknodoilaaDoor.Sh
set_option linter.unusedVariables false
set_option linter.unusedSimpArgs false
open Go Go.RowKit

theorem zx_high (b : UInt8) (j : Nat) (h : 8 ≤ j) : (zx b).getLsbD j = false := by
  unfold zx
  rw [BitVec.getLsbD_ofNat]
  have hb : b.toNat < 2 ^ j := Nat.lt_of_lt_of_le b.toNat_lt (Nat.pow_le_pow_right (by decide) h)
  rw [Nat.testBit_lt_two_pow hb, Bool.and_false]
theorem zx_toNat (b : UInt8) : (zx b).toNat = b.toNat := by
  unfold zx
  rw [BitVec.toNat_ofNat]
  have := b.toNat_lt
  omega
theorem apart_or (x y : W) (h : ∀ i, x.getLsbD i = true → y.getLsbD i = false) : x ||| y = x + y := by
  rw [BitVec.add_eq_or_of_and_eq_zero]
  apply BitVec.eq_of_getLsbD_eq
  intro i hi
  rw [BitVec.getLsbD_and, BitVec.getLsbD_zero]
  cases hx : x.getLsbD i
  · rfl
  · rw [h i hx]; rfl
theorem zx_shl_bit (b : UInt8) (n i : Nat) (h : (zx b <<< n).getLsbD i = true) : n ≤ i ∧ i < n + 8 := by
  rw [BitVec.getLsbD_shiftLeft] at h
  simp only [Bool.and_eq_true, decide_eq_true_eq, Bool.not_eq_true', decide_eq_false_iff_not, Nat.not_lt] at h
  refine ⟨h.1.2, ?_⟩
  rcases Nat.lt_or_ge i (n + 8) with h1 | h1
  · exact h1
  · rw [zx_high b (i - n) (by omega)] at h; simp at h
theorem zx_bit (b : UInt8) (i : Nat) (h : (zx b).getLsbD i = true) : i < 8 := by
  rcases Nat.lt_or_ge i 8 with h1 | h1
  · exact h1
  · rw [zx_high b i h1] at h; simp at h
theorem word_sum (b0 b1 b2 b3 : UInt8) : (((zx b0 <<< 24) ||| (zx b1 <<< 16) ||| (zx b2 <<< 8) ||| zx b3).toNat : Int) = (b0.toNat : Int) * 16777216 + (b1.toNat : Int) * 65536 + (b2.toNat : Int) * 256 + (b3.toNat : Int) := by
  have key : ∀ (x : W), (∀ i, x.getLsbD i = true → False) → x = 0 := fun x h => BitVec.eq_of_getLsbD_eq fun i _ => by
    cases hx : x.getLsbD i
    · simp
    · exact (h i hx).elim
  have e1 : (zx b0 <<< 24) ||| (zx b1 <<< 16) = (zx b0 <<< 24) + (zx b1 <<< 16) := apart_or _ _ fun i h => by
    cases hy : (zx b1 <<< 16).getLsbD i
    · rfl
    · have := zx_shl_bit _ _ _ h; have := zx_shl_bit _ _ _ hy; omega
  have e2 : (zx b0 <<< 24) ||| (zx b1 <<< 16) ||| (zx b2 <<< 8) = ((zx b0 <<< 24) ||| (zx b1 <<< 16)) + (zx b2 <<< 8) := apart_or _ _ fun i h => by
    cases hy : (zx b2 <<< 8).getLsbD i
    · rfl
    · have h2 := zx_shl_bit _ _ _ hy
      rw [BitVec.getLsbD_or, Bool.or_eq_true] at h
      rcases h with h | h <;> (have := zx_shl_bit _ _ _ h; omega)
  have e3 : (zx b0 <<< 24) ||| (zx b1 <<< 16) ||| (zx b2 <<< 8) ||| zx b3 = ((zx b0 <<< 24) ||| (zx b1 <<< 16) ||| (zx b2 <<< 8)) + zx b3 := apart_or _ _ fun i h => by
    cases hy : (zx b3).getLsbD i
    · rfl
    · have h2 := zx_bit _ _ hy
      rw [BitVec.getLsbD_or, Bool.or_eq_true, BitVec.getLsbD_or, Bool.or_eq_true] at h
      rcases h with (h | h) | h <;> (have := zx_shl_bit _ _ _ h; omega)
  rw [e3, e2, e1]
  have s0 : (zx b0 <<< 24).toNat = b0.toNat * 16777216 := by
    rw [BitVec.toNat_shiftLeft, zx_toNat, Nat.shiftLeft_eq]; have := b0.toNat_lt; omega
  have s1 : (zx b1 <<< 16).toNat = b1.toNat * 65536 := by
    rw [BitVec.toNat_shiftLeft, zx_toNat, Nat.shiftLeft_eq]; have := b1.toNat_lt; omega
  have s2 : (zx b2 <<< 8).toNat = b2.toNat * 256 := by
    rw [BitVec.toNat_shiftLeft, zx_toNat, Nat.shiftLeft_eq]; have := b2.toNat_lt; omega
  have := b0.toNat_lt
  have := b1.toNat_lt
  have := b2.toNat_lt
  have := b3.toNat_lt
  rw [BitVec.toNat_add, BitVec.toNat_add, BitVec.toNat_add, s0, s1, s2, zx_toNat]
  omega

set_option maxHeartbeats 400000 in
theorem rturn_calls (x : W) (n : Nat) (hn : n ≤ 32) (w : World) :
    Calls Tryd.prog 53 #[wv x, .int .i64 (n : Int)] w fun e w' => e = .returned (wv (rotr x n)) ∧ ∃ k, w' = w.drewN k := by
  unfold wv
  go_enter Tryd.func53, Tryd.ntmps53
  go_wp2
  go_quiet (fail)
  go_wp2
  go_ret
  exact ⟨congrArg (fun z => Ending.returned (.int .u32 z)) (u32_rotr' x n hn), nq, rfl⟩
theorem rturn_callsI (x : W) (n : Int) (h0 : 0 ≤ n) (hn : n ≤ 32) (w : World) :
    Calls Tryd.prog 53 #[.int .u32 (x.toNat : Int), .int .i64 n] w fun e w' => e = .returned (.int .u32 ((rotr x n.toNat).toNat : Int)) ∧ ∃ k, w' = w.drewN k := by
  obtain ⟨n, rfl⟩ := Int.eq_ofNat_of_zero_le h0
  exact rturn_calls x n (by omega) w

set_option maxHeartbeats 400000 in
theorem rfirst_calls (w : World) :
    Calls Tryd.prog 44 #[] w fun e w' => e = .returned (.agg (A8 first)) ∧ Below w.heap.size w w' := by
  go_enter Tryd.func44, Tryd.ntmps44
  go_wp2_with (refine wpList_store_upd rfl 51 (.tmp 0) (.tmp 1) rfl w.heap.size 0 (.agg (A8 first)) rfl rfl _ z8 (heap_new w _) (info_a8v _) (Nat.le_refl 8) (one_A8 _) rfl ?_; intro w2 hu2)
  refine bodyPost_ret (ret_row (P := Tryd.prog) rfl _ w.heap.size _ (A8 first) _ _ rfl hu2.here Tryd.underlying51 rfl info_a8) rfl ⟨rfl, ?_⟩
  exact ((Below.refl _ _).alloc (Nat.le_refl _) _).trans (hu2.below (Nat.le_refl _))

def KS : Array Value := (ks.map wv).toArray
theorem one_KS : (Value.agg KS).cells.all (·.oneCell') = true := by
  show KS.all (·.oneCell') = true
  kernel_rfl
theorem info_a64v (x : Array Value) (h : x.size = 64) : (Tryd.prog.info? 67).map (·.size) = some (Value.agg x).cells.size := by
  rw [show (Value.agg x).cells.size = x.size from rfl, h]; exact info_a64
theorem size_KS : KS.size = 64 := by kernel_rfl
set_option maxRecDepth 100000 in
set_option maxHeartbeats 400000 in
theorem rconstants_calls (w : World) :
    Calls Tryd.prog 51 #[] w fun e w' => e = .returned (.agg KS) ∧ Below w.heap.size w w' := by
  go_enter Tryd.func51, Tryd.ntmps51
  go_wp2_with (refine wpList_store_upd rfl 67 (.tmp 0) (.tmp 1) rfl w.heap.size 0 (.agg KS) rfl rfl _ z64 (heap_new w _) (info_a64v _ size_KS) (by rw [show (Value.agg KS).cells.size = KS.size from rfl, size_KS]; exact Nat.le_refl _) one_KS rfl ?_; intro w2 hu2)
  have hh := hu2.here
  rw [show put z64 0 (Value.agg KS).cells = KS from put_whole _ _ (by rw [show (Value.agg KS).cells.size = KS.size from rfl, size_KS]; rfl)] at hh
  refine bodyPost_ret (ret_row (P := Tryd.prog) rfl _ w.heap.size _ KS _ _ rfl hh Tryd.underlying67 rfl (info_a64v _ size_KS)) rfl ⟨rfl, ?_⟩
  exact ((Below.refl _ _).alloc (Nat.le_refl _) _).trans (hu2.below (Nat.le_refl _))
end Go.Proofs.YtlgaikknodoilaaDoor.Sh
