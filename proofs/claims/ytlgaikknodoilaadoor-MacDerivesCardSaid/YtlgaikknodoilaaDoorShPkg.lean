/- The contract of sha.Sum; Bring. -/
import Derived.Test.YtlgaikknodoilaaDoorShSum
namespace Go.Proofs.YtlgaikknodoilaaDoor.Sh
set_option linter.unusedVariables false
set_option linter.unusedSimpArgs false
open Go Go.RowKit

def A32 (l : Bs) : Array Value := (l.map bv).toArray
theorem size_A32 (l : Bs) : (A32 l).size = l.length := by simp [A32]
theorem one_A32 (l : Bs) : (Value.agg (A32 l)).cells.all (·.oneCell') = true := by
  refine Array.all_eq_true_iff_forall_mem.2 fun x hx => ?_
  have hx : x ∈ l.map bv := by simpa [A32, Value.cells] using hx
  obtain ⟨y, _, rfl⟩ := List.mem_map.1 hx
  rfl
theorem info_A32 (m : Bs) : (Tryd.prog.info? 24).map (·.size) = some (Value.agg (A32 (sha m))).cells.size := by
  rw [show (Value.agg (A32 (sha m))).cells.size = 32 from by show (A32 (sha m)).size = 32; rw [size_A32, length_sha]]
  exact info_a32

theorem le_A32 (m : Bs) : 0 + (Value.agg (A32 (sha m))).cells.size ≤ z32.size := by
  show 0 + (A32 (sha m)).size ≤ 32
  rw [size_A32, length_sha]; exact Nat.le_refl _
theorem sum_calls' (p : Nat) (m : Bs) (w : World) (ht : Tab w) (hh : HashAt w p m) (hlen : m.length ≤ 549755813888) :
    Calls Tryd.prog 18 #[.pointer (some ⟨p, 0, none⟩)] w fun e w' => e = .returned (.agg (A32 (sha m))) ∧ Below w.heap.size w w' := sum_calls p m w ht hh hlen

theorem Tab.alloc {w : World} (h : Tab w) (o : Obj) : Tab (w.alloc o) := ⟨let ⟨t, fr, e⟩ := h.first; ⟨t, fr, heap_old e _⟩, let ⟨t, fr, e⟩ := h.round; ⟨t, fr, heap_old e _⟩⟩
theorem RD.alloc {B : Nat} {w : World} {v : Value} {m : Bs} (h : RD B w v m) (hB : B ≤ w.heap.size) (o : Obj) : RD B (w.alloc o) v m := h.below ((Below.refl _ _).alloc hB o)

set_option maxHeartbeats 1000000 in
theorem shaSum_calls (v : Value) (m : Bs) (w : World) (ht : Tab w) (hv : RD w.heap.size w v m) (hlen : m.length ≤ 549755813888) :
    Calls Tryd.prog 11 #[v] w fun e w' => e = .returned (.agg (A32 (sha m))) ∧ Below w.heap.size w w' := by
  have hvv := Lib.hid hv
  clear hv
  go_enter Tryd.func11, Tryd.ntmps11
  go_wp2_with (go_at_call 15; refine (new_calls _).mono ?_; rintro e w1 ⟨rfl, hn1, hb1, hs1⟩; simp only [World.size_alloc] at hn1 hb1 hs1 ⊢)
  have bel1 : Below w.heap.size w w1 := ((Below.refl _ _).alloc (Nat.le_refl _) _).trans (hb1.mono (by omega))
  have t1 := ht.below bel1 ht.lt
  refine (write_calls (w.heap.size + 1) [] m v w1 t1 hn1 ((hvv.out.below bel1).mono (by omega)) (by have := ht.lt; omega) (by simp; omega)).mono ?_
  rintro e w2 ⟨rfl, hh2, hk2⟩
  rw [List.nil_append] at hh2
  have t2 := t1.keeps hk2 t1.lt (by have := ht.lt; omega)
  have HK2 := Lib.hid hk2
  have HB1 := Lib.hid hb1
  have BEL1 := Lib.hid bel1
  clear hk2 hb1 bel1
  have r2 : w2.heap[w.heap.size]? = some (.cells z32 24 (0, 0)) := (HK2.out.block _ (by omega) (by omega)).trans (heap_below (heap_new w _) HB1.out (by omega))
  have R2 := Lib.hid r2
  have hlt2 : w.heap.size < w2.heap.size := lt_of_heap r2
  clear r2
  go_wp2_with (first
    | (go_at_call 18; refine (sum_calls' (w.heap.size + 1) m w2 t2 hh2 hlen).mono ?_; rintro e w3 ⟨rfl, hb3⟩)
    | (refine wpList_store_upd rfl 24 (.tmp 2) (.tmp 6) rfl w.heap.size 0 (.agg (A32 (sha m))) rfl rfl _ z32 (heap_below R2.out hb3 hlt2) (info_A32 m) (le_A32 m) (one_A32 _) rfl ?_; intro w4 hu4))
  have hr := hu4.here
  rw [show put z32 0 (Value.agg (A32 (sha m))).cells = A32 (sha m) from put_whole _ _ (by show 32 = (A32 (sha m)).size; rw [size_A32, length_sha])] at hr
  refine bodyPost_ret (ret_row (P := Tryd.prog) rfl _ w.heap.size _ (A32 (sha m)) _ _ rfl hr Tryd.underlying24 rfl (info_A32 m)) rfl ⟨rfl, ?_⟩
  have k2 : Below w.heap.size w1 w2 := (HK2.out.mono (by omega)).below (by omega)
  exact ((BEL1.out.trans k2).trans (hb3.mono (by omega))).trans (hu4.below (Nat.le_refl _))
end Go.Proofs.YtlgaikknodoilaaDoor.Sh
