/- The contract of Mac. -/
import Derived.Test.YtlgaikknodoilaaDoorMaMac
namespace Go.Proofs.YtlgaikknodoilaaDoor.Sh
set_option linter.unusedVariables false
set_option linter.unusedSimpArgs false
open Go Go.RowKit

theorem mac_mid {w w1 w2 w3 : World} {po p2 : Nat} {d : Bs} {K : Bs} (hb1 : Below (w.heap.size + 1) (w.alloc (.cells z32 24)) w1) (hb2 : Below w1.heap.size w1 w2)
    (hu : Upd w2.heap.size (.cells (A32 (sha d)) 24 (0, 0)) (w2.alloc (.cells z32 24)) w3) (ho : w1.heap[po]? = some (.cells (RB K) 65 (0, 0))) (h2 : w1.heap[p2]? = some (.cells #[bv 92] 5 (0, 0))) :
    w3.heap[w.heap.size]? = some (.cells z32 24 (0, 0)) ∧ w3.heap[po]? = some (.cells (RB K) 65 (0, 0)) ∧ w3.heap[p2]? = some (.cells #[bv 92] 5 (0, 0)) ∧ Below w.heap.size w w3 ∧ RD w3.heap.size w3 (.slice (some ⟨w2.heap.size, 0, none⟩) 32 32) (sha d) := by
  have s1 := hb1.size
  rw [World.size_alloc] at s1
  have s2 := hb2.size
  have l1 := lt_of_heap ho
  have l2 := lt_of_heap h2
  have k : ∀ {b : Nat} {x : Obj}, w1.heap[b]? = some x → w3.heap[b]? = some x := fun {b x} h => heap_upd (heap_old (heap_below h hb2 (lt_of_heap h)) _) hu (by have := lt_of_heap h; omega)
  refine ⟨k (heap_below (heap_new w _) hb1 (by omega)), k ho, k h2, ?_, ?_⟩
  · exact (((Below.refl _ _).alloc (Nat.le_refl _) _).trans ((hb1.mono (by omega)).trans (hb2.mono (by omega)))).trans (((Below.refl _ _).alloc (by omega) _).trans (hu.below (by omega)))
  · exact rd_RB w3 w2.heap.size 32 (sha d) _ _ (length_sha d) (by simp only [maxLen]; omega) hu.here

set_option maxRecDepth 4000 in
set_option maxHeartbeats 400000 in
theorem mac_calls (kv bvv : Value) (key m : Bs) (w : World) (ht : Tab w) (hk0 : RD w.heap.size w kv key) (hm0 : RD w.heap.size w bvv m) (hlk : key.length ≤ 549755813888) (hlm : m.length ≤ 500000000000) :
    Calls Tryd.prog 10 #[kv, bvv] w fun e w' => e = .returned (.agg (A32 (hmac key m))) ∧ Below w.heap.size w w' := by
  have HK := Lib.hid (hk0.alloc (Nat.le_refl _) (.cells z32 24))
  have HM := Lib.hid hm0
  have HT := Lib.hid (ht.alloc (.cells z32 24))
  have HT0 := Lib.hid ht
  have hHK : Hid (RD (w.alloc (.cells z32 24)).heap.size (w.alloc (.cells z32 24)) kv key) := Lib.hid (RD.mono HK.out (by simp))
  have HLK := Lib.hid hlk
  have HLM := Lib.hid hlm
  have h32 : (sha (xk 0x36 key ++ m)).length ≤ 500000000000 := by rw [length_sha]; omega
  have H32 := Lib.hid h32
  have hk64 := Lib.hid (length_key64 key)
  clear HK hk0 hm0 hlk hlm h32
  go_enter Tryd.func10, Tryd.ntmps10
  go_upto_region 2 with (go_at_call 25; refine (pads_calls kv key _ HT.out hHK.out HLK.out).mono ?_; rintro e w1 ⟨po, p1, p2, rfl, ho, h1, h2, hb1⟩; simp only [World.size_alloc] at hb1; replace ho := Lib.hid ho; replace h1 := Lib.hid h1; replace h2 := Lib.hid h2; replace hb1 := Lib.hid hb1)
  have t1 : Hid (Tab w1) := Lib.hid (HT.out.below hb1.out (by have := ht.lt; omega))
  have m1 : Hid (RD w1.heap.size w1 bvv m) := Lib.hid ((((HM.out.alloc (Nat.le_refl _) _).below (hb1.out.mono (Nat.le_succ _)))).mono (by have := hb1.out.size; rw [World.size_alloc] at this; omega))
  go_upto_region 3 with (first
    | (go_at_call 39; refine (padded_calls (key64 key) hk64.out 54 po p1 bvv m w1 t1.out ho.out h1.out m1.out HLM.out).mono ?_; rintro e w2 ⟨rfl, hb2⟩; replace hb2 := Lib.hid hb2)
    | (refine wpList_store_upd rfl 24 (.tmp 7) (.tmp 15) rfl w2.heap.size 0 (.agg (A32 (sha (xk 0x36 key ++ m)))) rfl rfl _ z32 (heap_new w2 _) (info_A32 _) (le_A32 _) (one_A32 _) rfl ?_; intro w3 hu3; rw [put_A32] at hu3; replace hu3 := Lib.hid hu3))
  obtain ⟨q0, q1, q2, q3, q4⟩ := mac_mid hb1.out hb2.out hu3.out ho.out h2.out
  have Q0 := Lib.hid q0
  have Q1 := Lib.hid q1
  have Q2 := Lib.hid q2
  have Q3 := Lib.hid q3
  have Q4 := Lib.hid q4
  have t3 : Hid (Tab w3) := Lib.hid (HT0.out.below q3 HT0.out.lt)
  clear q0 q1 q2 q3 q4 hu3
  go_wp2_with (first
    | (go_at_call 39; refine (padded_calls (key64 key) hk64.out 92 po p2 (.slice (some ⟨w2.heap.size, 0, none⟩) 32 32) (sha (xk 0x36 key ++ m)) w3 t3.out Q1.out Q2.out Q4.out H32.out).mono ?_; rintro e w4 ⟨rfl, hb4⟩; replace hb4 := Lib.hid hb4)
    | (refine wpList_store_upd rfl 24 (.tmp 4) (.tmp 18) rfl w.heap.size 0 (.agg (A32 (hmac key m))) rfl rfl _ z32 (heap_below Q0.out hb4.out (lt_of_heap Q0.out)) (info_A32 _) (le_A32 _) (one_A32 _) rfl ?_; intro w5 hu5; rw [show put z32 0 (Value.agg (A32 (hmac key m))).cells = A32 (hmac key m) from put_A32 _] at hu5; replace hu5 := Lib.hid hu5))
  refine bodyPost_ret (ret_row (P := Tryd.prog) rfl _ w.heap.size _ (A32 (hmac key m)) _ _ rfl hu5.out.here Tryd.underlying24 rfl (info_A32 _)) rfl ⟨rfl, ?_⟩
  exact (Q3.out.trans (hb4.out.mono Q3.out.size)).trans (hu5.out.below (Nat.le_refl _))
end Go.Proofs.YtlgaikknodoilaaDoor.Sh
