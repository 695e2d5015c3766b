/- The walk of ShaCopies. -/
import Derived.Test.YtkfoalfnjeachaaDoorShTwo
namespace Go.Proofs.YtkfoalfnjeachaaDoor.Sh
open Go Go.RowKit

set_option maxRecDepth 4000 in
set_option maxHeartbeats 400000 in
theorem copies_calls (w : World) (ht : Tab w) (v : Value) (m0 : Bs) (hv : RD w.heap.size w v m0) (xv : Value) (x0 : Bs) (hxv : RD w.heap.size w xv x0) (z : Int) (fz : Fits z) :
    Calls Tryd.prog 6 #[v, xv, .int .i64 z] w fun e w' => e = .returned (.bool true) ∧ Below w.heap.size w w' := by
  obtain ⟨a, c, rfl, hc, hcm⟩ := hv.form
  obtain ⟨xa, xc, rfl, hxc, hxcm⟩ := hxv.form
  obtain ⟨k, hk, hk2, hmin0⟩ := min_to m0.length 500
  have hmin : (if (500 : Int) < (m0.length : Int) then (500 : Int) else (m0.length : Int)) = (k : Int) := hmin0
  clear hmin0
  obtain ⟨u, hu, hur⟩ := rd_to (a := a) (n := m0.length) (c := c) .i64 k hk hc
  have hm := hur _ _ _ hv
  clear hur hv
  have hml : (m0.take k).length = k := by rw [List.length_take]; omega
  generalize m0.take k = m at hm hml
  obtain ⟨ua, uc, rfl, huc, _⟩ := hm.form
  rw [hml] at hu huc
  subst hml
  obtain ⟨l, hl, hl2, hminx0⟩ := min_to x0.length 500
  have hminx : (if (500 : Int) < (x0.length : Int) then (500 : Int) else (x0.length : Int)) = (l : Int) := hminx0
  clear hminx0
  obtain ⟨s, hs, hsr⟩ := rd_to (a := xa) (n := x0.length) (c := xc) .i64 l hl hxc
  have hx := hsr _ _ _ hxv
  clear hsr hxv
  have hxl : (x0.take l).length = l := by rw [List.length_take]; omega
  generalize x0.take l = x at hx hxl
  obtain ⟨sa, sc, rfl, hsc, _⟩ := hx.form
  rw [hxl] at hs hsc
  subst hxl
  have hx0 := Int.emod_nonneg z (b := (m.length : Int) + 1) (by omega)
  have hx1 := Int.emod_lt_of_pos z (b := (m.length : Int) + 1) (by omega)
  obtain ⟨n, hn⟩ : ∃ n : Nat, z % ((m.length : Int) + 1) = n := ⟨(z % ((m.length : Int) + 1)).toNat, by omega⟩
  rw [hn] at hx0 hx1
  have hnL : n ≤ m.length := by omega
  have HN := Lib.hid hn
  clear hn hx0 hx1
  obtain ⟨u3, hu3, hur3⟩ := rd_to (a := ua) (n := m.length) (c := uc) .i64 n hnL huc
  have hr3 := Lib.hid (hur3 _ _ _ hm)
  obtain ⟨u4, hu4, hur4⟩ := rd_from (a := ua) (n := m.length) (c := uc) .i64 n hnL
  have hr4 := Lib.hid (hur4 _ _ _ hm)
  clear hur3 hur4
  replace hm := Lib.hid hm
  replace hx := Lib.hid hx
  have li := Lib.hid (LI.start ht)
  have hl3 : (m.take n).length = n := by rw [List.length_take]; omega
  have hlx : (m.take n ++ x).length = n + x.length := by rw [List.length_append, hl3]
  have hlen2 : (m.take n).length + (m.drop n).length ≤ 1099511627776 := by rw [hl3, List.length_drop]; omega
  have hlen1 : ([] : Bs).length + (m.take n).length ≤ 1099511627776 := by
    have : ([] : Bs).length = 0 := rfl
    omega
  have hlen3 : (m.take n).length + x.length ≤ 1099511627776 := by omega
  have hlen4 : (m.take n ++ x).length ≤ 549755813888 := by omega
  have hlen5 : m.length ≤ 549755813888 := by omega
  have hlen6 : (m.take n).length ≤ 140737488355328 := by omega
  have HLEN1 := Lib.hid hlen1
  have HLEN3 := Lib.hid hlen3
  have HLEN4 := Lib.hid hlen4
  have HLEN5 := Lib.hid hlen5
  have HLEN6 := Lib.hid hlen6
  clear hlen1 hlen3 hlen4 hlen5 hlen6
  have HL3 := Lib.hid hl3
  have HLX := Lib.hid hlx
  have HLEN2 := Lib.hid hlen2
  clear hl3 hlx hlen2
  have heq1 : ∀ w, (binOp .eql 23 (.agg (A32 (sha m))) (.agg (A32 (sha m)))).run Tryd.prog w = .ok (.bool true) w := fun w => run_eql_same (sha m) (length_sha m) w
  have heq2 : ∀ w, (binOp .eql 23 (.agg (A32 (sha (m.take n ++ x)))) (.agg (A32 (sha (m.take n ++ x))))).run Tryd.prog w = .ok (.bool true) w := fun w => run_eql_same (sha (m.take n ++ x)) (length_sha (m.take n ++ x)) w
  go_enter Tryd.func6, Tryd.ntmps6
  go_upto_region 1 with fail
  refine wp_region_lex Every [] [] [] (by kernel_rfl) (by kernel_rfl) (fun _ => trivial) ?_
  simp only [List.zipIdx_cons, List.zipIdx_nil, Nat.zero_add, Nat.reduceAdd]
  refine lex_blind 12 (by kernel_rfl) ?_
  simp only [List.take_succ_cons, List.take_zero, List.drop_succ_cons, List.drop_zero, List.map_cons, List.map_nil, Act.put, List.setIfInBounds_toArray, List.set_cons_succ, List.set_cons_zero]
  repeat (go_big_quiet_step (fail))
  refine wpQuiet_nil ?_
  refine lex_nil ?_
  clear hmin hminx hu hs
  go_upto_region 3 with (go_at_call 9; go_loud (refine (bring_calls z ((m.length : Int) + 1) (by omega) (by omega) fz.1 fz.2 _).mono ?_; rintro e w8 ⟨rfl, rfl⟩; rw [HN.out]))
  refine wp_region_lex Every [0, 4] [] [] (by kernel_rfl) (by kernel_rfl) (fun _ => trivial) ?_
  simp only [List.zipIdx_cons, List.zipIdx_nil, Nat.zero_add, Nat.reduceAdd]
  refine lex_act rfl rfl (fun K hK => ?_)
  go_simp
  refine (new_LHx w _ (by repeat (first | exact li.out | apply LI.drew))).mono ?_
  rintro e w1 ⟨p, rfl, lh1⟩
  refine hK _ _ (ActLeft.keep rfl fun h => h) ?_
  clear hK K
  refine lex_blind 3 (by kernel_rfl) ?_
  simp only [List.take_succ_cons, List.take_zero, List.drop_succ_cons, List.drop_zero, List.map_cons, List.map_nil, Act.put, List.setIfInBounds_toArray, List.set_cons_succ, List.set_cons_zero]
  repeat (go_big_quiet_step (fail))
  refine wpQuiet_nil ?_
  refine lex_act rfl rfl (fun K hK => ?_)
  go_simp
  refine (write_LH w p [] (m.take n) u3 _ ht lh1 hr3.out HLEN1.out).mono ?_
  rintro e w2 ⟨rfl, lh2⟩
  refine hK _ _ (ActLeft.keep rfl fun h => h) ?_
  clear hK K
  rw [List.nil_append] at lh2
  replace lh2 := Lib.hid lh2
  refine lex_blind 1 (by kernel_rfl) ?_
  simp only [List.take_succ_cons, List.take_zero, List.drop_succ_cons, List.drop_zero, List.map_cons, List.map_nil, Act.put, List.setIfInBounds_toArray, List.set_cons_succ, List.set_cons_zero]
  repeat (go_big_quiet_step (fail))
  refine wpQuiet_nil ?_
  refine lex_nil ?_
  go_upto_region 5 with (go_at_call 18; go_loud (refine (copy_LH2 w p (m.take n) _ (by repeat (first | exact lh2.out | apply LH.drew))).mono ?_; rintro e w3 ⟨q, rfl, lh3⟩; replace lh3 := Lib.hid lh3))
  go_upto_region 6 with (go_at_call 15; go_loud (refine (write_LH2' w p q (m.take n) (m.take n) x _ _ ht lh3.out hx.out HLEN3.out).mono ?_; rintro e w4 ⟨rfl, lh4⟩; replace lh4 := Lib.hid lh4))
  go_upto_region 7 with (go_at_call 15; go_loud (refine (write_LH2 w p q (m.take n) (m.take n ++ x) (m.drop n) u4 _ ht lh4.out hr4.out HLEN2.out).mono ?_; rintro e w5 ⟨rfl, lh5⟩; rw [List.take_append_drop] at lh5; replace lh5 := Lib.hid lh5))
  refine wp_region_lex Every [1, 3, 7, 11, 13, 14, 19, 27] [] [] (by kernel_rfl) (by kernel_rfl) (fun _ => trivial) ?_
  simp only [List.zipIdx_cons, List.zipIdx_nil, Nat.zero_add, Nat.reduceAdd]
  refine lex_blind 1 (by kernel_rfl) ?_
  simp only [List.take_succ_cons, List.take_zero, List.drop_succ_cons, List.drop_zero, List.map_cons, List.map_nil, Act.put, List.setIfInBounds_toArray, List.set_cons_succ, List.set_cons_zero]
  repeat (go_big_quiet_step (fail))
  refine wpQuiet_nil ?_
  refine lex_act rfl rfl (fun K hK => ?_)
  go_simp
  refine (sum_LH2 w p q m (m.take n ++ x) _ (by repeat (first | exact lh5.out | apply LH2.drew)) HLEN5.out).mono ?_
  rintro e w6 ⟨rfl, lh6⟩
  refine hK _ _ (ActLeft.keep rfl fun h => h) ?_
  clear hK K
  refine lex_blind 1 (by kernel_rfl) ?_
  simp only [List.take_succ_cons, List.take_zero, List.drop_succ_cons, List.drop_zero, List.map_cons, List.map_nil, Act.put, List.setIfInBounds_toArray, List.set_cons_succ, List.set_cons_zero]
  repeat (go_big_quiet_step (fail))
  refine wpQuiet_nil ?_
  refine lex_act rfl rfl (fun K hK => ?_)
  go_simp
  refine (shaSum_LH2 w p q m (m.take n ++ x) m _ _ lh6 hm.out HLEN5.out).mono ?_
  rintro e w7 ⟨rfl, lh7⟩
  refine hK _ _ (ActLeft.keep rfl fun h => h) ?_
  clear hK K
  refine lex_blind 3 (by kernel_rfl) ?_
  simp only [List.take_succ_cons, List.take_zero, List.drop_succ_cons, List.drop_zero, List.map_cons, List.map_nil, Act.put, List.setIfInBounds_toArray, List.set_cons_succ, List.set_cons_zero]
  repeat (go_big_quiet_step (fail))
  refine wpQuiet_nil ?_
  refine lex_act rfl rfl (fun K hK => ?_)
  go_simp
  refine (sum_LH2' w p q m (m.take n ++ x) _ lh7 HLEN4.out).mono ?_
  rintro e w8 ⟨rfl, lh8⟩
  refine hK _ _ (ActLeft.keep rfl fun h => h) ?_
  clear hK K
  refine lex_blind 3 (by kernel_rfl) ?_
  simp only [List.take_succ_cons, List.take_zero, List.drop_succ_cons, List.drop_zero, List.map_cons, List.map_nil, Act.put, List.setIfInBounds_toArray, List.set_cons_succ, List.set_cons_zero]
  repeat (go_big_quiet_step (fail))
  refine wpQuiet_nil ?_
  refine lex_act rfl rfl (fun K hK => ?_)
  go_simp
  refine (copyBytes_LH2 w p q m (m.take n ++ x) (m.take n) _ _ lh8 hr3.out HLEN6.out).mono ?_
  rintro e w9 ⟨v9, g9, rfl, ho9, hg9, lh9, hk9⟩
  refine hK _ _ (ActLeft.keep rfl fun h => h) ?_
  clear hK K
  refine lex_blind 1 (by kernel_rfl) ?_
  simp only [List.take_succ_cons, List.take_zero, List.drop_succ_cons, List.drop_zero, List.map_cons, List.map_nil, Act.put, List.setIfInBounds_toArray, List.set_cons_succ, List.set_cons_zero]
  repeat (go_big_quiet_step (fail))
  refine wpQuiet_nil ?_
  refine lex_act rfl rfl (fun K hK => ?_)
  refine wp_append_mine (.tmp 51) (.tmp 52) 25 rfl elem_u8 rfl rfl ho9 hg9 (lh9.one.li.rd hx.out) (one_bytes x) ?_ ?_ ?_
  · simp only [List.length_map, HL3.out, maxLen]; omega
  · simp only [List.length_map, HL3.out]; omega
  intro v10 w10 hgr ho10
  have lh10 := hk9 _ hgr
  have hrd10 : RD w10.heap.size w10 v10 (m.take n ++ x) := by
    have := RV.of_owns ho10
    rwa [← List.map_append] at this
  clear hk9 hgr ho10 ho9 hg9 lh9
  refine hK _ _ (ActLeft.keep rfl fun h => h) ?_
  clear hK K
  refine lex_act rfl rfl (fun K hK => ?_)
  go_simp
  refine (shaSum_LH2' w p q m (m.take n ++ x) (m.take n ++ x) _ _ lh10 hrd10 HLEN4.out).mono ?_
  rintro e w11 ⟨rfl, lh11⟩
  refine hK _ _ (ActLeft.keep rfl fun h => h) ?_
  clear hK K
  refine lex_blind 4 (by kernel_rfl) ?_
  simp only [List.take_succ_cons, List.take_zero, List.drop_succ_cons, List.drop_zero, List.map_cons, List.map_nil, Act.put, List.setIfInBounds_toArray, List.set_cons_succ, List.set_cons_zero]
  repeat (go_big_quiet_step (fail))
  refine wpQuiet_nil ?_
  refine lex_act rfl rfl (fun K hK => ?_)
  go_simp
  refine (len_LH2' w p q m (m.take n ++ x) _ lh11).mono ?_
  rintro e w12 ⟨rfl, rfl⟩
  rw [HLX.out]
  refine hK _ _ (ActLeft.keep rfl fun h => h) ?_
  clear hK K
  refine lex_blind 7 (by kernel_rfl) ?_
  simp only [List.take_succ_cons, List.take_zero, List.drop_succ_cons, List.drop_zero, List.map_cons, List.map_nil, Act.put, List.setIfInBounds_toArray, List.set_cons_succ, List.set_cons_zero]
  repeat (go_big_quiet_step (fail))
  refine wpQuiet_nil ?_
  refine lex_act rfl rfl (fun K hK => ?_)
  go_simp
  refine (works_LH2 w p q m (m.take n ++ x) _ lh11).mono ?_
  rintro e w13 ⟨rfl, lh13⟩
  refine hK _ _ (ActLeft.keep rfl fun h => h) ?_
  clear hK K
  refine lex_blind 2 (by kernel_rfl) ?_
  simp only [List.take_succ_cons, List.take_zero, List.drop_succ_cons, List.drop_zero, List.map_cons, List.map_nil, Act.put, List.setIfInBounds_toArray, List.set_cons_succ, List.set_cons_zero]
  repeat (go_big_quiet_step (fail))
  refine wpQuiet_nil ?_
  refine lex_nil ?_
  go_wp2_with fail
  go_ret
  exact ⟨rfl, lh13.one.li.bel⟩
end Go.Proofs.YtkfoalfnjeachaaDoor.Sh
