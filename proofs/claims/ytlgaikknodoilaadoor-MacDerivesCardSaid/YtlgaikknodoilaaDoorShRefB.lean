/- The reference: words. -/
import Derived.Test.YtlgaikknodoilaaDoorShRefA
namespace Go.Proofs.YtlgaikknodoilaaDoor.Sh
set_option linter.unusedVariables false
set_option linter.unusedSimpArgs false
open Go Go.RowKit

structure WordsAt (w : World) (bs : Bs) (n : Nat) (wr : World) : Prop where
  r0 : wr.heap[w.heap.size]? = some (.cells z64 67 (0, 0))
  w0 : wr.heap[w.heap.size + 1]? = some (.cells (W64 bs n) 67 (0, 0))
  below : Below w.heap.size w wr
theorem words_start (w : World) (m : Bs) : WordsAt w m 0 ((w.alloc (.cells z64 67)).alloc (.cells z64 67)) :=
  ⟨heap_old (heap_new w _) _, heap_new' (by simp) _, ((Below.refl _ _).alloc (Nat.le_refl _) _).alloc (by simp) _⟩
theorem WordsAt.rd {w wr : World} {m : Bs} {k : Nat} (h : WordsAt w m k wr) {sv : Value} (hv : RD w.heap.size w sv m) : RD w.heap.size wr sv m := hv.below h.below
theorem WordsAt.drewN {w wr : World} {m : Bs} {k : Nat} (h : WordsAt w m k wr) (n : Nat) : WordsAt w m k (wr.drewN n) :=
  ⟨h.r0, h.w0, h.below.trans (c := wr.drewN n) ⟨rfl, rfl, rfl, Nat.le_refl _, fun _ _ => rfl⟩⟩
theorem WordsAt.step {w wr w2 : World} {m : Bs} {k nq : Nat} (h : WordsAt w m k wr) (hk : k < 64)
    (hu : Upd (w.heap.size + 1) (.cells (put (W64 m k) k (wv (next m (sched m k) k)).cells) 67 (0, 0)) (wr.drewN nq) w2) : WordsAt w m (k + 1) w2 :=
  ⟨heap_upd (w := wr.drewN nq) h.r0 hu (Nat.ne_of_lt (by omega)), by rw [← W64_step m k hk]; exact hu.here, (h.below.trans (c := wr.drewN nq) ⟨rfl, rfl, rfl, Nat.le_refl _, fun _ _ => rfl⟩).trans (hu.below (by omega))⟩
theorem WordsAt.cell {w wr : World} {m : Bs} {k : Nat} (h : WordsAt w m k wr) (j : Nat) (hj : j < k) : wr.cell? ⟨w.heap.size + 1, j, none⟩ = some (.int .u32 (((sched m k).getD j 0).toNat : Int)) := by
  rw [cell_of_row wr _ j _ _ _ h.w0, W64_get m k j hj]; rfl
theorem one_W64 (m : Bs) (n : Nat) : (Value.agg (W64 m n)).cells.all (·.oneCell') = true := by
  show (W64 m n).all (·.oneCell') = true
  unfold W64
  rw [Array.all_eq_true_iff_forall_mem]
  intro x hx
  simp only [List.mem_toArray, List.mem_map] at hx
  obtain ⟨y, _, rfl⟩ := hx
  rfl

set_option maxRecDepth 100000 in
set_option maxHeartbeats 1000000 in
theorem rwords_calls (sv : Value) (m : Bs) (w : World) (hv : RD w.heap.size w sv m) (hm : 64 ≤ m.length) :
    Calls Tryd.prog 52 #[sv] w fun e w' => e = .returned (.agg (W64 m 64)) ∧ Below w.heap.size w w' := by
  have hvv := Lib.hid hv
  obtain ⟨b, o, c, rfl, hc, hcm, hb⟩ := hv.addr (by intro e; subst e; simp at hm)
  clear hv
  go_enter Tryd.func52, Tryd.ntmps52
  go_wp2_with fail
  go_loopg [4] 64 (fun g i wr => ∃ k : Nat, k + g = 64 ∧ i = .int .i64 k ∧ WordsAt w m k wr)
  case atStart => exact ⟨0, rfl, rfl, words_start w m⟩
  case round =>
    obtain ⟨k, hk, rfl, hT⟩ := hrel
    have HT := Lib.hid hT
    have hrd := hT.rd hvv.out
    by_cases h16 : k < 16
    · have x0 := hrd.cell (4 * k) (by omega)
      have x1 := hrd.cell (4 * k + 1) (by omega)
      have x2 := hrd.cell (4 * k + 2) (by omega)
      have x3 := hrd.cell (4 * k + 3) (by omega)
      generalize hb0 : m.getD (4 * k) 0 = b0 at x0
      generalize hb1 : m.getD (4 * k + 1) 0 = b1 at x1
      generalize hb2 : m.getD (4 * k + 2) 0 = b2 at x2
      generalize hb3 : m.getD (4 * k + 3) 0 = b3 at x3
      have hw : next m (sched m k) k = (zx b0 <<< 24) ||| (zx b1 <<< 16) ||| (zx b2 <<< 8) ||| zx b3 := by rw [next, if_pos h16, word, hb0, hb1, hb2, hb3]
      have HW := Lib.hid hw
      unfold bv at x0 x1 x2 x3
      clear hb0 hb1 hb2 hb3 hw hT hrd
      go_wp2_with fail
      refine wp_region_quiet_tail 35 (fun w' => ∃ n, w' = wr.drewN n) ⟨1, rfl⟩ (by kernel_rfl) (by kernel_rfl) ?_
      simp only [List.take_succ_cons, List.take_zero, List.drop_succ_cons, List.drop_zero]
      repeat (go_big_quiet_step (fail))
      refine wpQuiet_nil ?_
      intro _ hw'
      obtain ⟨nq, hw''⟩ := hw'
      subst hw''
      refine wpList_store_upd rfl 50 _ _ rfl (w.heap.size + 1) k (wv (next m (sched m k) k)) rfl ?_ _ (W64 m k) HT.out.w0 ?_ ?_ ?_ rfl ?_
      rotate_right
      · intro w2 hu2
        have H2 := Lib.hid (HT.out.step (by omega) hu2)
        clear hu2 HT
        go_wp2_with fail
        go_roundg (gk - 1)
        case measure => omega
        case rel => exact ⟨k + 1, by omega, by go_num, H2.out⟩
      · rw [HW.out]
        refine congrArg (Value.int .u32) ?_
        rw [word_sum]
        have q0 := b0.toNat_lt
        have q1 := b1.toNat_lt
        have q2 := b2.toNat_lt
        have q3 := b3.toNat_lt
        clear HW HT x0 x1 x2 x3 hvv
        omega
      · kernel_rfl
      · rw [size_W64 m k (by omega)]; exact (by omega : k + 1 ≤ 64)
      · exact one_wv _
    · by_cases h64 : k < 64
      · have y2 := hT.cell (k - 2) (by omega)
        have y7 := hT.cell (k - 7) (by omega)
        have y15 := hT.cell (k - 15) (by omega)
        have y16 := hT.cell (k - 16) (by omega)
        have hw : next m (sched m k) k = ss1 ((sched m k).getD (k - 2) 0) + (sched m k).getD (k - 7) 0 + ss0 ((sched m k).getD (k - 15) 0) + (sched m k).getD (k - 16) 0 := by rw [next, if_neg h16]
        generalize (sched m k).getD (k - 2) 0 = e2 at y2 hw
        generalize (sched m k).getD (k - 7) 0 = e7 at y7 hw
        generalize (sched m k).getD (k - 15) 0 = e15 at y15 hw
        generalize (sched m k).getD (k - 16) 0 = e16 at y16 hw
        have HW := Lib.hid hw
        clear hw hT hrd
        go_wp2_with fail
        go_quiet (fail)
        go_wp2_with (go_at_call 53; refine (rturn_callsI _ _ (by omega) (by omega) _).mono ?_; rintro e w' ⟨rfl, n, rfl⟩)
        generalize hq : World.drewN wr _ = wq
        have HT2 : Hid (WordsAt w m k wq) := by rw [← hq]; exact Lib.hid (HT.out.drewN _)
        have y7' : wq.cell? ⟨w.heap.size + 1, k - 7, none⟩ = some (.int .u32 (e7.toNat : Int)) := by rw [← hq]; exact y7
        have y16' : wq.cell? ⟨w.heap.size + 1, k - 16, none⟩ = some (.int .u32 (e16.toNat : Int)) := by rw [← hq]; exact y16
        clear hq HT y2 y7 y15 y16
        refine wp_region_quiet_tail 15 (fun w' => ∃ n, w' = wq.drewN n) ⟨1, rfl⟩ (by kernel_rfl) (by kernel_rfl) ?_
        simp only [List.take_succ_cons, List.take_zero, List.drop_succ_cons, List.drop_zero]
        repeat (go_big_quiet_step (fail))
        refine wpQuiet_nil ?_
        intro _ hw'
        obtain ⟨nq2, hw''⟩ := hw'
        subst hw''
        refine wpList_store_upd rfl 50 _ _ rfl (w.heap.size + 1) k (wv (next m (sched m k) k)) rfl ?_ _ (W64 m k) HT2.out.w0 ?_ ?_ ?_ rfl ?_
        rotate_right
        · intro w2 hu2
          have H2 := Lib.hid (HT2.out.step (by omega) hu2)
          clear hu2 HT2
          go_wp2_with fail
          go_roundg (gk - 1)
          case measure => omega
          case rel => exact ⟨k + 1, by omega, by go_num, H2.out⟩
        · rw [HW.out]; exact congrArg (Value.int .u32) (sched_val' e2 e7 e15 e16)
        · kernel_rfl
        · rw [size_W64 m k (by omega)]; exact (by omega : k + 1 ≤ 64)
        · exact one_wv _
      · obtain rfl : k = 64 := by omega
        clear hT hrd h64 h16
        go_wp2_with (first
          | (refine wpList_load_blk rfl 67 (.tmp 3) rfl (w.heap.size + 1) 0 rfl _ _ _ HT.out.w0 (W64 m 64) (by rw [← size_W64 m 64 (by omega)]; exact List.take_of_length_le (Nat.le_refl _)) _ Tryd.underlying67 rfl (info_a64v _ (size_W64 m 64 (by omega))) ?_)
          | (refine wpList_store_upd rfl 67 (.tmp 2) (.tmp 89) rfl w.heap.size 0 (.agg (W64 m 64)) rfl rfl _ _ HT.out.r0 (info_a64v _ (size_W64 m 64 (by omega))) (Nat.le_of_eq ((Nat.zero_add _).trans (size_W64 m 64 (by omega)))) (one_W64 _ _) rfl ?_; intro w2 hu2))
        have hh := hu2.here
        rw [show put z64 0 (Value.agg (W64 m 64)).cells = W64 m 64 from put_whole _ _ (size_W64 m 64 (by omega)).symm] at hh
        refine bodyPost_ret (ret_row (P := Tryd.prog) rfl _ w.heap.size _ (W64 m 64) _ _ rfl hh Tryd.underlying67 rfl (info_a64v _ (size_W64 m 64 (by omega)))) rfl ⟨rfl, ?_⟩
        exact HT.out.below.trans (hu2.below (Nat.le_refl _))
end Go.Proofs.YtlgaikknodoilaaDoor.Sh
