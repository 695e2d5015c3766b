/- The contract of works (the laws of tape). -/
import Derived.Test.YtmkpajhfgdffpaaDoorTaTk
namespace Go.Proofs.YtmkpajhfgdffpaaDoor.Sh
set_option linter.unusedVariables false
set_option linter.unusedSimpArgs false
open Go Go.RowKit

theorem rd_lit (w : World) (l : Bs) (n : Nat) (hn : l.length = n ∧ n ≤ maxLen) (fr : Nat × Nat) : RD (w.alloc (.cells (l.map bv).toArray 5 fr)).heap.size (w.alloc (.cells (l.map bv).toArray 5 fr)) (.slice (some ⟨w.heap.size, 0, none⟩) n n) l := by
  obtain ⟨rfl, h⟩ := hn
  exact (rd_marked w l h fr).mono (by simp)
theorem eqb_true {a b : Bs} (h : a = b) : (a == b) = true := by rw [h]; exact beq_self_eq_true _
theorem noughts_blk : draw [] 0 32 = sha (List.replicate 8 0) := by
  have := draw_blk [] 0
  simp only [List.length_nil, Nat.mul_zero, Nat.add_zero] at this
  rw [this]; rfl

set_option maxRecDepth 4000 in
set_option maxHeartbeats 1000000 in
theorem worksT_calls (w : World) (ht : Tab w) :
    Calls Tryd.prog 9 #[] w fun e w' => e = .returned (.bool true) ∧ Below w.heap.size w w' := by
  have HT0 := Lib.hid (Tk.start ht)
  have E1 := Lib.hid (show (draw [1, 2, 3] 0 2 == [1, 2]) = true by decide)
  have E2 := Lib.hid (show (draw [1, 2, 3] 2 1 == [3]) = true by decide)
  have E3 := Lib.hid (eqb_true noughts_blk)
  have hmk : ∀ w' : World, (Instr.makeSlice 22 (.int .i64 8) (.int .i64 8)).run Tryd.prog w' = .ok (.slice (some ⟨w'.heap.size, 0, none⟩) 8 8) (w'.alloc (.cells (Z 8) 5)) := fun w' => run_make_Z 8 (by decide) w'
  have HSL := Lib.hid (length_sha (List.replicate 8 0))
  have hpn := fun (p : Nat) => run_tp_some p
  go_enter Tryd.func9, Tryd.ntmps9
  go_upto_region 2 with (go_at_call 10; refine (tk_new (HT0.out.alloc _) (rd_lit w [1, 2, 3] 3 (by decide) (0, 0))).mono ?_; rintro e w1 ⟨p, rfl, h1⟩; have HT1 : Hid (Tk w [(p, [1, 2, 3], 0)] [] [] w1) := Lib.hid h1; clear h1)
  go_upto_region 4 with (first
    | (go_at_call 13; refine (tk_at HT4.out 0 rfl).mono ?_; rintro e w5 ⟨rfl, rfl⟩)
    | (go_at_call 12; refine (tk_draw HT3.out 0 rfl (-5) (-5) 0 (by decide) (by decide) (by decide) (by decide)).mono ?_; rintro e w5 ⟨g3, rfl, h5⟩; have HT4 : Hid (Tk w [(p, [1, 2, 3], 3)] [] _ w5) := Lib.hid h5; clear h5)
    | (go_at_call 13; refine (tk_at (HT3.out.alloc _) 0 rfl).mono ?_; rintro e w5 ⟨rfl, rfl⟩; replace HT3 := Lib.hid (HT3.out.alloc (.cells #[.int .u8 3] 5)))
    | (go_at_call 14; refine (eqBytes_calls _ _ _ [3] _ ((HT3.out.alloc _).rd 0 _ _ rfl) (rd_lit w4 [3] 1 (by decide) (0, 0))).mono ?_; rintro e w5 ⟨rfl, rfl⟩; rw [E2.out])
    | (go_at_call 12; refine (tk_drawN (HT2.out.alloc _) 0 rfl 1 (by decide) (by decide) 1 rfl).mono ?_; rintro e w4 ⟨g2, rfl, h4⟩; have HT3 : Hid (Tk w [(p, [1, 2, 3], 3)] [] _ w4) := Lib.hid h4; clear h4)
    | (go_at_call 14; refine (eqBytes_calls _ _ _ [1, 2] _ ((HT2.out.alloc _).rd 0 _ _ rfl) (rd_lit w3 [1, 2] 2 (by decide) (0, 0))).mono ?_; rintro e w5 ⟨rfl, rfl⟩; rw [E1.out])
    | (go_at_call 12; refine (tk_drawN HT1.out 0 rfl 2 (by decide) (by decide) 2 rfl).mono ?_; rintro e w3 ⟨g1, rfl, h3⟩; have HT2 : Hid (Tk w [(p, [1, 2, 3], 2)] [] _ w3) := Lib.hid h3; clear h3))
  clear HT1 HT2 HT3
  go_upto_region 5 with (first
    | (go_at_call 15; refine (shaSum_Z w5.heap.size 8 _ (by decide) (HT4.out.alloc _).tab (heap_new w5 _)).mono ?_; rintro e w6 ⟨rfl, hb6⟩; have HT6 := Lib.hid (((HT4.out.alloc _).call hb6)); clear hb6)
    | (refine wpList_store_upd rfl 32 (.tmp 2) (.tmp 38) rfl w6.heap.size 0 (.agg (A32 (sha (List.replicate 8 0)))) rfl rfl _ z32 (heap_new w6 _) (info_A32k _ HSL.out) (le_A32k _ HSL.out) (one_A32 _) rfl ?_; intro w7 hu7; rw [put_blk _ HSL.out] at hu7; replace hu7 := Lib.hid hu7))
  have HT7 := Lib.hid (HT6.out.blockRow (q := w6.heap.size) (n := 32) (m := sha (List.replicate 8 0)) HSL.out.symm (by rw [HSL.out]; decide) (((Below.refl _ _).alloc (Nat.le_refl _) _).trans (hu7.out.below (Nat.le_refl _))) (Nat.le_refl _) hu7.out.here)
  clear HT6 hu7 hmk hpn
  generalize w6.heap.size = q at *
  refine wp_region_lex (Every) [0, 1, 3] [] [] (by kernel_rfl) (by kernel_rfl) (fun _ => trivial) ?_
  simp only [List.zipIdx_cons, List.zipIdx_nil, Nat.zero_add, Nat.reduceAdd]
  refine lex_act rfl rfl (fun K hK => ?_)
  go_simp
  refine (tk_new HT7.out.drew RD.nil).mono ?_
  rintro e w8 ⟨p2, rfl, h8⟩
  have HT8 : Hid (Tk w [(p2, [], 0), (p, [1, 2, 3], 3)] [] _ w8) := Lib.hid h8
  clear h8
  refine hK _ _ (ActLeft.keep rfl fun h => h) ?_
  clear hK K
  refine lex_act rfl rfl (fun K hK => ?_)
  go_simp
  refine (tk_drawN HT8.out 0 rfl 32 (by decide) (by decide) 32 rfl).mono ?_
  rintro e w9 ⟨g3, rfl, h9⟩
  have HT9 := Lib.hid h9
  clear h9
  refine hK _ _ (ActLeft.keep rfl fun h => h) ?_
  clear hK K
  refine lex_blind 1 (by kernel_rfl) ?_
  simp only [List.take_succ_cons, List.take_zero, List.drop_succ_cons, List.drop_zero, List.map_cons, List.map_nil, Act.put, List.setIfInBounds_toArray, List.set_cons_succ, List.set_cons_zero]
  repeat (go_big_quiet_step (fail))
  refine wpQuiet_nil ?_
  refine lex_act rfl rfl (fun K hK => ?_)
  go_simp
  refine (eqBytes_calls _ _ _ _ w9 (HT9.out.rd 0 _ _ rfl) (HT9.out.rd 1 _ _ rfl)).mono ?_
  rintro e w10 ⟨rfl, rfl⟩
  rw [E3.out]
  refine hK _ _ (ActLeft.keep rfl fun h => h) ?_
  clear hK K
  refine lex_blind 1 (by kernel_rfl) ?_
  simp only [List.take_succ_cons, List.take_zero, List.drop_succ_cons, List.drop_zero, List.map_cons, List.map_nil, Act.put, List.setIfInBounds_toArray, List.set_cons_succ, List.set_cons_zero]
  repeat (go_big_quiet_step (fail))
  refine wpQuiet_nil ?_
  refine lex_nil ?_
  go_wp2_with fail
  go_ret
  exact ⟨rfl, HT9.out.bel⟩
end Go.Proofs.YtmkpajhfgdffpaaDoor.Sh
