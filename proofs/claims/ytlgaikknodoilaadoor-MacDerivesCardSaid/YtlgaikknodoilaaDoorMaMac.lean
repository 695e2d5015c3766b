/- The contracts of pads and Mac. -/
import Derived.Test.YtlgaikknodoilaaDoorMaPad
namespace Go.Proofs.YtlgaikknodoilaaDoor.Sh
set_option linter.unusedVariables false
set_option linter.unusedSimpArgs false
open Go Go.RowKit

theorem RD.src {B : Nat} {w : World} {a : Option Addr} {n c : Nat} {m : Bs} (h : RD B w (.slice a n c) m) (h0 : 0 < (m.map bv).length) : ∃ ad, a = some ad ∧ ∀ j v, (m.map bv)[j]? = some v → w.cell? (ad.add j) = some v := by
  obtain ⟨a', c', e, _, _, _, hc⟩ := h
  simp only [Value.slice.injEq] at e
  obtain ⟨rfl, _, rfl⟩ := e
  obtain ⟨b, o, rfl, _, hr⟩ := hc (by intro e; rw [e] at h0; simp at h0)
  exact ⟨_, rfl, fun j v hj => by rw [Addr.add_mid]; exact hr j v hj⟩
theorem copied_key {key k : Bs} {w : World} {g : Nat} (hk : key64 key = k ++ List.replicate (64 - k.length) 0) (h : w.heap[g]? = some (.cells (splice ((List.replicate 64 (0 : UInt8)).map bv) 0 (k.map bv)).toArray 65 (0, 0))) :
    w.heap[g]? = some (.cells (RB (key64 key)) 65 (0, 0)) := by
  rw [h, hk]
  congr 2
  unfold RB splice
  rw [List.take_zero, List.nil_append, List.length_map, Nat.zero_add, ← List.map_drop, ← List.map_append, List.drop_replicate]
theorem pad54 (p : Nat) (w : World) :
    Calls Tryd.prog 38 #[.int .u8 54, .pointer (some ⟨p, 0, none⟩)] w fun e w' =>
      e = .returned (.func (.func 39) #[] #[.pointer (some ⟨p, 0, none⟩), .pointer (some ⟨w.heap.size, 0, none⟩)]) ∧ w' = w.alloc (.cells #[bv 54] 5) := pad_calls 54 p w
theorem pad92 (p : Nat) (w : World) :
    Calls Tryd.prog 38 #[.int .u8 92, .pointer (some ⟨p, 0, none⟩)] w fun e w' =>
      e = .returned (.func (.func 39) #[] #[.pointer (some ⟨p, 0, none⟩), .pointer (some ⟨w.heap.size, 0, none⟩)]) ∧ w' = w.alloc (.cells #[bv 92] 5) := pad_calls 92 p w

set_option maxRecDepth 4000 in
set_option maxHeartbeats 400000 in
theorem pads_calls (kv : Value) (key : Bs) (w : World) (ht : Tab w) (hk0 : RD w.heap.size w kv key) (hlen : key.length ≤ 549755813888) :
    Calls Tryd.prog 25 #[kv] w fun e w' => ∃ po p1 p2, e = .returned (.tuple #[.func (.func 39) #[] #[.pointer (some ⟨po, 0, none⟩), .pointer (some ⟨p1, 0, none⟩)], .func (.func 39) #[] #[.pointer (some ⟨po, 0, none⟩), .pointer (some ⟨p2, 0, none⟩)]]) ∧
      w'.heap[po]? = some (.cells (RB (key64 key)) 65 (0, 0)) ∧ w'.heap[p1]? = some (.cells #[bv 54] 5 (0, 0)) ∧ w'.heap[p2]? = some (.cells #[bv 92] 5 (0, 0)) ∧ Below w.heap.size w w' := by
  have hmf : ∀ (fn : Fn) (first cap : Array Value) (w : World), (Instr.makeFunc fn first cap).run Tryd.prog w = .ok (.func fn first cap) w := fun _ _ _ _ => rfl
  by_cases h64 : 64 < key.length
  · have HK := Lib.hid hk0
    obtain ⟨ka0, kc0, rfl, _, _⟩ := hk0.form
    have HLEN := Lib.hid hlen
    have hi64 : (64 : Int) < (key.length : Int) := by omega
    clear hk0 hlen
    go_enter Tryd.func25, Tryd.ntmps25
    go_upto_region 3 with (first
      | (go_at_call 11; refine (shaSum_calls _ key w ht HK.out HLEN.out).mono ?_; rintro e w1 ⟨rfl, hb1⟩; replace hb1 := Lib.hid hb1)
      | (refine wpList_store_upd rfl 24 (.tmp 4) (.tmp 11) rfl w1.heap.size 0 (.agg (A32 (sha key))) rfl rfl _ z32 (heap_new w1 _) (info_A32 key) (le_A32 key) (one_A32 _) rfl ?_; intro w1' hu2; rw [put_A32] at hu2; replace hu2 := Lib.hid hu2))
    have HBW : Hid (Below w.heap.size w w1') := Lib.hid ((hb1.out.alloc hb1.out.size _).trans (hu2.out.below hb1.out.size))
    have HKEY := Lib.hid (show key64 key = sha key ++ List.replicate (64 - (sha key).length) 0 by rw [key64_long key h64, length_sha])
    have hl32 := length_sha key
    have HRK := Lib.hid (rd_RB w1' w1.heap.size 32 (sha key) _ _ hl32 (by simp only [maxLen]; omega) hu2.out.here)
    have HLN := Lib.hid hl32
    have HNN : 32 ≤ 64 := by omega
    generalize sha key = K at *
    clear hl32 hi64 h64
    have hn0 : (K.map bv).length = Nat.min 32 64 := by rw [List.length_map, HLN.out]; exact (Nat.min_eq_left HNN).symm
    have HN0 := Lib.hid hn0
    have HRA := Lib.hid (HRK.out.alloc (Nat.le_refl _) (.cells zb64 65))
    have hf0 : 0 + (K.map bv).length ≤ ((List.replicate 64 (0 : UInt8)).map bv).length := by rw [List.length_map, List.length_map, List.length_replicate, HLN.out]; omega
    have HF0 := Lib.hid hf0
    clear hn0 hf0
    go_wp2_with (refine wpList_copy_splice rfl (.tmp 13) (.tmp 14) 22 22 rfl 5 Tryd.underlying22 info_u8 (some ⟨w1'.heap.size, 0, none⟩) (some ⟨w1.heap.size, 0, none⟩) 64 64 32 (32) rfl rfl w1'.heap.size 0 ((List.replicate 64 (0 : UInt8)).map bv) 65 (heap_new w1' _) (K.map bv) HN0.out (fun h0 => ⟨rfl, HRA.out.src h0⟩) HF0.out (one_bytes K) w.heap.size w ((HBW.out.alloc HBW.out.size _)) HBW.out.size ?_; intro w2 hsp hb2; have HSP := Lib.hid (copied_key HKEY.out hsp.out); replace hb2 := Lib.hid hb2; clear hsp)
    have hpo : w1'.heap.size < w2.heap.size := lt_of_heap HSP.out
    go_wp2_with (go_at_call 38; first
      | (refine (pad54 w1'.heap.size w2).mono ?_; rintro e w3 ⟨rfl, rfl⟩)
      | (refine (pad92 w1'.heap.size _).mono ?_; rintro e w4 ⟨rfl, rfl⟩))
    go_ret2
    exact ⟨w1'.heap.size, w2.heap.size, w2.heap.size + 1, rfl, heap_old (heap_old HSP.out _) _, heap_old (heap_new w2 _) _, heap_new2 w2 _ _, (hb2.out.alloc hb2.out.size _).alloc (by rw [World.size_alloc]; have := hb2.out.size; omega) _⟩
  · have hlt : key.length ≤ 64 := by omega
    have hi64 : (key.length : Int) ≤ (64 : Int) := by omega
    obtain ⟨ka, kc, rfl, _, _⟩ := hk0.form
    have HRK := Lib.hid hk0
    have HLN : Hid (key.length = key.length) := Lib.hid rfl
    have HNN : key.length ≤ 64 := hlt
    have HBW : Hid (Below w.heap.size w w) := Lib.hid (Below.refl _ _)
    have HKEY := Lib.hid (key64_short key hlt)
    clear hk0 hlen h64
    go_enter Tryd.func25, Tryd.ntmps25
    have hn0 : (key.map bv).length = Nat.min key.length 64 := by rw [List.length_map, HLN.out]; exact (Nat.min_eq_left HNN).symm
    have HN0 := Lib.hid hn0
    have HRA := Lib.hid (HRK.out.alloc (Nat.le_refl _) (.cells zb64 65))
    have hf0 : 0 + (key.map bv).length ≤ ((List.replicate 64 (0 : UInt8)).map bv).length := by rw [List.length_map, List.length_map, List.length_replicate, HLN.out]; omega
    have HF0 := Lib.hid hf0
    clear hn0 hf0
    go_wp2_with (refine wpList_copy_splice rfl (.tmp 13) (.tmp 14) 22 22 rfl 5 Tryd.underlying22 info_u8 (some ⟨w.heap.size, 0, none⟩) (ka) 64 64 key.length (kc) rfl rfl w.heap.size 0 ((List.replicate 64 (0 : UInt8)).map bv) 65 (heap_new w _) (key.map bv) HN0.out (fun h0 => ⟨rfl, HRA.out.src h0⟩) HF0.out (one_bytes key) w.heap.size w ((HBW.out.alloc HBW.out.size _)) HBW.out.size ?_; intro w2 hsp hb2; have HSP := Lib.hid (copied_key HKEY.out hsp.out); replace hb2 := Lib.hid hb2; clear hsp)
    have hpo : w.heap.size < w2.heap.size := lt_of_heap HSP.out
    go_wp2_with (go_at_call 38; first
      | (refine (pad54 w.heap.size w2).mono ?_; rintro e w3 ⟨rfl, rfl⟩)
      | (refine (pad92 w.heap.size _).mono ?_; rintro e w4 ⟨rfl, rfl⟩))
    go_ret2
    exact ⟨w.heap.size, w2.heap.size, w2.heap.size + 1, rfl, heap_old (heap_old HSP.out _) _, heap_old (heap_new w2 _) _, heap_new2 w2 _ _, (hb2.out.alloc hb2.out.size _).alloc (by rw [World.size_alloc]; have := hb2.out.size; omega) _⟩
end Go.Proofs.YtlgaikknodoilaaDoor.Sh
