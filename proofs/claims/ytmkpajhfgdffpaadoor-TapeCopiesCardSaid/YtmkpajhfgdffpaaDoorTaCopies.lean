/- The walk of TapeCopies. -/
import Derived.Test.YtmkpajhfgdffpaaDoorTaWorks
namespace Go.Proofs.YtmkpajhfgdffpaaDoor.Sh
set_option linter.unusedVariables false
set_option linter.unusedSimpArgs false
open Go Go.RowKit

theorem bring_mod (i : Int) (fi : Fits i) (w : World) : Calls Tryd.prog 11 #[.int .i64 i, .int .i64 300] w fun e w' => e = .returned (.int .i64 (i % 300)) ∧ w' = w :=
  (bring_calls i 300 (by omega) (by omega) fi.1 fi.2 w).mono fun e w' ⟨h1, h2⟩ => ⟨h1, h2.symm⟩

set_option maxRecDepth 4000 in
set_option maxHeartbeats 1000000 in
theorem tcopies_calls (w : World) (ht : Tab w) (v : Value) (m0 : Bs) (hv : RD w.heap.size w v m0) (z0 z1 z2 : Int) (f0 : Fits z0) (f1 : Fits z1) (f2 : Fits z2) :
    Calls Tryd.prog 6 #[v, .agg #[.int .i64 z0, .int .i64 z1, .int .i64 z2]] w fun e w' => e = .returned (.bool true) ∧ Below w.heap.size w w' := by
  obtain ⟨a, c, rfl, hca, hma⟩ := hv.form
  obtain ⟨k, hka, hk2a, hmina0⟩ := min_to m0.length 100
  have hmina : (if (100 : Int) < (m0.length : Int) then (100 : Int) else (m0.length : Int)) = (k : Int) := hmina0
  obtain ⟨u, hua, hura⟩ := rd_to (a := a) (n := m0.length) (c := c) .i64 k hka hca
  have hm := hura _ _ _ hv
  have hlm : (m0.take k).length = k := by rw [List.length_take]; omega
  generalize m0.take k = m at hm hlm
  obtain ⟨ua, uc, rfl, hu2a, _⟩ := hm.form
  rw [hlm] at hua hu2a
  subst hlm
  have HM := Lib.hid hm
  clear hmina0 hura hv hm
  have hn00 := Int.emod_nonneg z0 (b := (300 : Int)) (by omega)
  have hn01 := Int.emod_lt_of_pos z0 (b := (300 : Int)) (by omega)
  obtain ⟨n0, hn0⟩ : ∃ n0 : Nat, z0 % (300 : Int) = n0 := ⟨(z0 % (300 : Int)).toNat, by omega⟩
  rw [hn0] at hn00 hn01
  have hn0K : n0 < 300 := by omega
  have HN0 := Lib.hid hn0
  clear hn0
  have hn10 := Int.emod_nonneg z1 (b := (300 : Int)) (by omega)
  have hn11 := Int.emod_lt_of_pos z1 (b := (300 : Int)) (by omega)
  obtain ⟨n1, hn1⟩ : ∃ n1 : Nat, z1 % (300 : Int) = n1 := ⟨(z1 % (300 : Int)).toNat, by omega⟩
  rw [hn1] at hn10 hn11
  have hn1K : n1 < 300 := by omega
  have HN1 := Lib.hid hn1
  clear hn1
  have hn20 := Int.emod_nonneg z2 (b := (300 : Int)) (by omega)
  have hn21 := Int.emod_lt_of_pos z2 (b := (300 : Int)) (by omega)
  obtain ⟨n2, hn2⟩ : ∃ n2 : Nat, z2 % (300 : Int) = n2 := ⟨(z2 % (300 : Int)).toNat, by omega⟩
  rw [hn2] at hn20 hn21
  have hn2K : n2 < 300 := by omega
  have HN2 := Lib.hid hn2
  clear hn2
  have HTK := Lib.hid (show m.take 65536 = m from List.take_of_length_le (by omega))
  have HA := Lib.hid (show 0 + n0 ≤ 1000000000 by omega)
  have HB := Lib.hid (show n0 + n1 ≤ 1000000000 by omega)
  have HC := Lib.hid (show n0 + n2 ≤ 1000000000 by omega)
  have HD := Lib.hid (show 0 + (n0 + n1) ≤ 1000000000 by omega)
  have HN06 := Lib.hid (show n0 ≤ 65536 by omega)
  have HN16 := Lib.hid (show n1 ≤ 65536 by omega)
  have HN26 := Lib.hid (show n2 ≤ 65536 by omega)
  have HN36 := Lib.hid (show n0 + n1 ≤ 65536 by omega)
  have HT0 := Lib.hid (((Tk.start ht).row0 HM.out).alloc (.cells #[.int .i64 z0, .int .i64 z1, .int .i64 z2] 40))
  have c0 : (w.alloc (.cells #[.int .i64 z0, .int .i64 z1, .int .i64 z2] 40)).cell? ⟨w.heap.size, 0, none⟩ = some (.int .i64 z0) := by rw [cell_of_row _ _ _ _ _ _ (heap_new w _)]; rfl
  have c1 : (w.alloc (.cells #[.int .i64 z0, .int .i64 z1, .int .i64 z2] 40)).cell? ⟨w.heap.size, 1, none⟩ = some (.int .i64 z1) := by rw [cell_of_row _ _ _ _ _ _ (heap_new w _)]; rfl
  have c2 : (w.alloc (.cells #[.int .i64 z0, .int .i64 z1, .int .i64 z2] 40)).cell? ⟨w.heap.size, 2, none⟩ = some (.int .i64 z2) := by rw [cell_of_row _ _ _ _ _ _ (heap_new w _)]; rfl
  go_enter Tryd.func6, Tryd.ntmps6
  go_upto_region 2 with fail
  clear hmina hua
  generalize World.alloc w (.cells #[.int .i64 z0, .int .i64 z1, .int .i64 z2] 40) = w1 at *
  generalize w.heap.size = q0 at *
  go_quiet ((go_at_call 11; exact Calls.quiet_of_same (bring_mod _ (by assumption) _)))
  rw [HN0.out, HN1.out, HN2.out]
  clear c0 c1 c2
  replace HT0 := Lib.hid (HT0.out.drewN nq)
  generalize World.drewN w1 nq = w1 at *
  obtain ⟨k2, hk21, hk22, hmin20⟩ := min_to n1 n2
  have hmin2 : (if n2 < n1 then (n2 : Int) else (n1 : Int)) = (k2 : Int) := by rw [← hmin20]; split <;> split <;> omega
  clear hmin20
  go_upto_region 8 with (first
    | (go_at_call 12; refine (tk_drawN H4.out 1 rfl n2 HN26.out HC.out _ rfl).mono ?_; rintro e w6 ⟨g2, rfl, h⟩; have H5 : Hid (Tk w [(q, m, n0 + n1), (p, m, n0 + n2)] [] _ w6) := Lib.hid h; clear h; clear H4)
    | (go_at_call 12; refine (tk_drawN H3.out 0 rfl n1 HN16.out HB.out _ rfl).mono ?_; rintro e w5 ⟨g1, rfl, h⟩; have H4 : Hid (Tk w [(q, m, n0 + n1), (p, m, n0)] [] _ w5) := Lib.hid h; clear h; clear H3)
    | (go_at_call 20; refine (tk_copy H2.out 0 rfl).mono ?_; rintro e w4 ⟨q, rfl, h⟩; have H3 : Hid (Tk w [(q, m, n0), (p, m, n0)] [] _ w4) := Lib.hid h; clear h; clear H2)
    | (go_at_call 12; refine (tk_drawN H1.out 0 rfl n0 HN06.out HA.out _ rfl).mono ?_; rintro e w3 ⟨g0, rfl, h⟩; rw [Nat.zero_add] at h; have H2 : Hid (Tk w [(p, m, n0)] [] _ w3) := Lib.hid h; clear h; clear H1)
    | (go_at_call 10; refine (tk_new HT0.out (HT0.out.rd 0 _ _ rfl)).mono ?_; rintro e w2 ⟨p, rfl, h⟩; rw [HTK.out] at h; have H1 : Hid (Tk w [(p, m, 0)] [] _ w2) := Lib.hid h; clear h; clear HT0))
  go_upto_region 10 with (first
    | (go_at_call 12; refine (tk_drawN H6.out 0 rfl (n0 + n1) HN36.out HD.out _ (by omega)).mono ?_; rintro e w8 ⟨g3, rfl, h⟩; rw [Nat.zero_add] at h; have H7 : Hid (Tk w [(r, m, n0 + n1), (q, m, n0 + n1), (p, m, n0 + n2)] [] [(.slice (some ⟨g3, 0, none⟩) (n0 + n1) (n0 + n1), draw m 0 (n0 + n1)), (.slice (some ⟨g2, 0, none⟩) n2 n2, draw m n0 n2), (.slice (some ⟨g1, 0, none⟩) n1 n1, draw m n0 n1), (.slice (some ⟨g0, 0, none⟩) n0 n0, draw m 0 n0), (.slice ua m.length uc, m)] w8) := Lib.hid h; clear h; clear H6)
    | (go_at_call 10; refine (tk_new H5.out (H5.out.rd 3 _ _ rfl)).mono ?_; rintro e w7 ⟨r, rfl, h⟩; rw [HTK.out] at h; have H6 : Hid (Tk w [(r, m, 0), (q, m, n0 + n1), (p, m, n0 + n2)] [] _ w7) := Lib.hid h; clear h; clear H5))
  obtain ⟨u1, hu1, hp1⟩ := part_to (P := Tryd.prog) elem_u8 (a := some ⟨g1, 0, none⟩) (n := n1) (c := n1) .i64 k2 hk21 (Nat.le_refl _)
  obtain ⟨u2, hu2, hp2⟩ := part_to (P := Tryd.prog) elem_u8 (a := some ⟨g2, 0, none⟩) (n := n2) (c := n2) .i64 k2 hk22 (Nat.le_refl _)
  obtain ⟨u3, hu3, hp3⟩ := part_from (P := Tryd.prog) elem_u8 (a := some ⟨g3, 0, none⟩) (n := n0 + n1) (c := n0 + n1) .i64 n0 (by omega) (Nat.le_refl _)
  have h8 := ((H7.out.part 2 rfl hp1).part 2 rfl hp2).part 2 rfl hp3
  rw [draw_take m n0 n1 k2 hk21, draw_take m n0 n2 k2 hk22, draw_drop m 0 (n0 + n1) n0 (by omega), Nat.zero_add, Nat.add_sub_cancel_left] at h8
  have H8 := Lib.hid h8
  have E1 := Lib.hid (eqb_true (rfl : draw m n0 k2 = draw m n0 k2))
  have E2 := Lib.hid (eqb_true (rfl : draw m n0 n1 = draw m n0 n1))
  clear hp1 hp2 hp3 h8 H7
  go_upto_region 12 with fail
  refine wp_region_lex (Every) [1, 8, 21, 28, 31] [] [] (by kernel_rfl) (by kernel_rfl) (fun _ => trivial) ?_
  simp only [List.zipIdx_cons, List.zipIdx_nil, Nat.zero_add, Nat.reduceAdd]
  refine lex_blind 1 (by kernel_rfl) ?_
  simp only [List.take_succ_cons, List.take_zero, List.drop_succ_cons, List.drop_zero, List.map_cons, List.map_nil, Act.put, List.setIfInBounds_toArray, List.set_cons_succ, List.set_cons_zero]
  repeat (go_big_quiet_step (fail))
  refine wpQuiet_nil ?_
  refine lex_act rfl rfl (fun K hK => ?_)
  go_simp
  refine (tk_at H8.out.drew 1 rfl).mono ?_
  rintro e w9 ⟨rfl, rfl⟩
  refine hK _ _ (ActLeft.keep rfl fun h => h) ?_
  clear hK K
  refine lex_blind 6 (by kernel_rfl) ?_
  simp only [List.take_succ_cons, List.take_zero, List.drop_succ_cons, List.drop_zero, List.map_cons, List.map_nil, Act.put, List.setIfInBounds_toArray, List.set_cons_succ, List.set_cons_zero]
  repeat (go_big_quiet_step (fail))
  refine wpQuiet_nil ?_
  refine lex_act rfl rfl (fun K hK => ?_)
  go_simp
  refine (tk_at H8.out.drew 2 rfl).mono ?_
  rintro e w9 ⟨rfl, rfl⟩
  refine hK _ _ (ActLeft.keep rfl fun h => h) ?_
  clear hK K
  refine lex_blind 12 (by kernel_rfl) ?_
  simp only [List.take_succ_cons, List.take_zero, List.drop_succ_cons, List.drop_zero, List.map_cons, List.map_nil, Act.put, List.setIfInBounds_toArray, List.set_cons_succ, List.set_cons_zero]
  repeat (go_big_quiet_step (fail))
  refine wpQuiet_nil ?_
  refine lex_act rfl rfl (fun K hK => ?_)
  go_simp
  refine (eqBytes_calls _ _ _ _ _ (H8.out.drew.rd 2 _ _ rfl) (H8.out.drew.rd 1 _ _ rfl)).mono ?_
  rintro e w9 ⟨rfl, rfl⟩
  rw [E1.out]
  refine hK _ _ (ActLeft.keep rfl fun h => h) ?_
  clear hK K
  refine lex_blind 6 (by kernel_rfl) ?_
  simp only [List.take_succ_cons, List.take_zero, List.drop_succ_cons, List.drop_zero, List.map_cons, List.map_nil, Act.put, List.setIfInBounds_toArray, List.set_cons_succ, List.set_cons_zero]
  repeat (go_big_quiet_step (fail))
  refine wpQuiet_nil ?_
  refine lex_act rfl rfl (fun K hK => ?_)
  go_simp
  refine (eqBytes_calls _ _ _ _ _ (H8.out.drew.rd 0 _ _ rfl) (H8.out.drew.rd 5 _ _ rfl)).mono ?_
  rintro e w9 ⟨rfl, rfl⟩
  rw [E2.out]
  refine hK _ _ (ActLeft.keep rfl fun h => h) ?_
  clear hK K
  refine lex_blind 2 (by kernel_rfl) ?_
  simp only [List.take_succ_cons, List.take_zero, List.drop_succ_cons, List.drop_zero, List.map_cons, List.map_nil, Act.put, List.setIfInBounds_toArray, List.set_cons_succ, List.set_cons_zero]
  repeat (go_big_quiet_step (fail))
  refine wpQuiet_nil ?_
  refine lex_act rfl rfl (fun K hK => ?_)
  go_simp
  refine (worksT_calls _ H8.out.drew.tab).mono ?_
  rintro e w10 ⟨rfl, hb10⟩
  have H10 := Lib.hid (H8.out.drew.call hb10)
  clear hb10
  refine hK _ _ (ActLeft.keep rfl fun h => h) ?_
  clear hK K
  refine lex_blind 2 (by kernel_rfl) ?_
  simp only [List.take_succ_cons, List.take_zero, List.drop_succ_cons, List.drop_zero, List.map_cons, List.map_nil, Act.put, List.setIfInBounds_toArray, List.set_cons_succ, List.set_cons_zero]
  repeat (go_big_quiet_step (fail))
  refine wpQuiet_nil ?_
  refine lex_nil ?_
  go_wp2_with fail
  go_ret
  exact ⟨rfl, H10.out.bel⟩
end Go.Proofs.YtmkpajhfgdffpaaDoor.Sh
