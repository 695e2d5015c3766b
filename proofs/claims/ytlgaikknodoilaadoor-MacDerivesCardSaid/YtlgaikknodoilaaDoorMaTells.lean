/- The walk of MacTells. -/
import Derived.Test.YtlgaikknodoilaaDoorShHeld
import Derived.Test.YtlgaikknodoilaaDoorMaKeys
namespace Go.Proofs.YtlgaikknodoilaaDoor.Sh
set_option linter.unusedVariables false
set_option linter.unusedSimpArgs false
open Go Go.RowKit

theorem info_A16l (l : Bs) (h : l.length = 16) : (Tryd.prog.info? 41).map (·.size) = some (A16 l).size := info_A16 l h
theorem size_z16 (l : Bs) (h : l.length = 16) : z16.size = (A16 l).size := by rw [size_A16, h]; rfl
theorem size_z32 (l : Bs) (h : l.length = 32) : z32.size = (A32 l).size := by rw [size_A32, h]; rfl

set_option maxRecDepth 4000 in
set_option maxHeartbeats 2000000 in
theorem tells_calls (w : World) (ht : Tab w) (v : Value) (m0 : Bs) (hv : RD w.heap.size w v m0) (xv : Value) (x0 : Bs) (hxv : RD w.heap.size w xv x0) (z : Int) (fz : Fits z) :
    Calls Tryd.prog 7 #[v, xv, .int .i64 z] w fun e w' => e = .returned (.bool true) ∧ Below w.heap.size w w' := by
  obtain ⟨a, c, rfl, hc, hcm⟩ := hv.form
  obtain ⟨sa, sc, rfl, hsc, hscm⟩ := hxv.form
  obtain ⟨k, hk, hk2, hmin0⟩ := min_to m0.length 300
  have hmin : (if (300 : Int) < (m0.length : Int) then (300 : Int) else (m0.length : Int)) = (k : Int) := hmin0
  clear hmin0
  obtain ⟨u, hu, hur⟩ := rd_to (a := a) (n := m0.length) (c := c) .i64 k hk hc
  have hm := hur _ _ _ hv
  clear hur hv
  have hml : (m0.take k).length = k := by rw [List.length_take]; omega
  generalize m0.take k = m at hm hml
  obtain ⟨ua, uc, rfl, huc, _⟩ := hm.form
  rw [hml] at hu huc
  subst hml
  obtain ⟨l, hl, hl2, hminx0⟩ := min_to x0.length 300
  have hminx : (if (300 : Int) < (x0.length : Int) then (300 : Int) else (x0.length : Int)) = (l : Int) := hminx0
  clear hminx0
  obtain ⟨s, hs, hsr⟩ := rd_to (a := sa) (n := x0.length) (c := sc) .i64 l hl hsc
  have hx := hsr _ _ _ hxv
  clear hsr hxv
  have hxl : (x0.take l).length = l := by rw [List.length_take]; omega
  generalize x0.take l = x at hx hxl
  obtain ⟨xa, xc, rfl, hxc, _⟩ := hx.form
  rw [hxl] at hs hxc
  subst hxl
  replace hm := Lib.hid hm
  replace hx := Lib.hid hx
  have hH0 := Lib.hid (Held.start ht (LI.start ht))
  have hlm : m.length ≤ 100000 := by omega
  have hlx : x.length ≤ 100000 := by omega
  have hlm1 : m.length ≤ 549755813888 := by omega
  have hlx1 : x.length ≤ 500000000000 := by omega
  have hlm2 : m.length ≤ 140737488355328 := by omega
  have hlx2 : x.length ≤ 140737488355328 := by omega
  have HLM := Lib.hid hlm
  have HLX := Lib.hid hlx
  have HLM1 := Lib.hid hlm1
  have HLX1 := Lib.hid hlx1
  have HLM2 := Lib.hid hlm2
  have HLX2 := Lib.hid hlx2
  have HHL := Lib.hid (length_hmac m x)
  have HEQ := Lib.hid (fun w => run_eql_same (hmac m x) (length_hmac m x) w)
  generalize hM : hmac m x = M at *
  have HM := Lib.hid hM
  clear hlm hlx hlm1 hlx1 hlm2 hlx2 hM
  go_enter Tryd.func7, Tryd.ntmps7
  go_upto_region 1 with fail
  refine wp_region_lex Every [] [] [] (by kernel_rfl) (by kernel_rfl) (fun _ => trivial) ?_
  simp only [List.zipIdx_cons, List.zipIdx_nil, Nat.zero_add, Nat.reduceAdd]
  refine lex_blind 12 (by kernel_rfl) ?_
  simp only [List.take_succ_cons, List.take_zero, List.drop_succ_cons, List.drop_zero, List.map_cons, List.map_nil, Act.put, List.setIfInBounds_toArray, List.set_cons_succ, List.set_cons_zero]
  repeat (go_big_quiet_step (fail))
  refine wpQuiet_nil ?_
  refine lex_nil ?_
  clear hmin hminx hu hs
  have hH1 : Hid (Held w [] [(.slice xa x.length xc, x), (.slice ua m.length uc, m)] w.drew) := Lib.hid (((hH0.out.row hm.out).row hx.out).drewN 1)
  clear hH0
  generalize World.drew w = w1 at *
  go_upto_region 3 with (first
    | (go_at_call 13; refine (copyBytes_calls (.slice xa x.length xc) x w2 (hH2.out.rd 1 _ _ rfl) HLX2.out).mono ?_; rintro e w3 ⟨v3, rfl, ho3, hb3⟩; have hH3 := Lib.hid ((hH2.out.call hb3).row ho3.rd); clear ho3 hb3)
    | (go_at_call 13; refine (copyBytes_calls (.slice ua m.length uc) m w1 (hH1.out.rd 1 _ _ rfl) HLM2.out).mono ?_; rintro e w2 ⟨v2, rfl, ho2, hb2⟩; have hH2 := Lib.hid ((hH1.out.call hb2).row ho2.rd); clear ho2 hb2))
  clear hH2 hH1
  go_upto_region 4 with (first
    | (go_at_call 10; refine (mac_calls v2 v3 m x w3 hH3.out.li.tab (hH3.out.rd 1 _ _ rfl) (hH3.out.rd 0 _ _ rfl) HLM1.out HLX1.out).mono ?_; rintro e w4 ⟨rfl, hb4⟩; rw [HM.out]; have hH4 := Lib.hid (hH3.out.call hb4); clear hb4)
    | (refine wpList_hold rfl 24 (.tmp 9) (.tmp 33) rfl hH4.out (A32 M) z32 rfl rfl (info_A32l M HHL.out) (size_z32 M HHL.out) (one_A32 _) rfl ?_; intro w5 hH5 _; replace hH5 := Lib.hid hH5))
  clear hH3 hH4
  generalize w4.heap.size = q1 at *
  go_upto_region 5 with (first
    | (go_at_call 22; refine (rmac_calls (.slice ua m.length uc) (.slice xa x.length xc) m x w5 (hH5.out.rd 3 _ _ rfl) (hH5.out.rd 2 _ _ rfl) HLM.out HLX.out).mono ?_; rintro e w6 ⟨rfl, hb6⟩; rw [HM.out]; have hH6 := Lib.hid (hH5.out.call hb6); clear hb6)
    | (refine wpList_hold rfl 24 (.tmp 10) (.tmp 36) rfl hH6.out (A32 M) z32 rfl rfl (info_A32l M HHL.out) (size_z32 M HHL.out) (one_A32 _) rfl ?_; intro w7 hH7 _; replace hH7 := Lib.hid hH7))
  clear hH5 hH6
  generalize w6.heap.size = q2 at *
  obtain ⟨k3, hk3, hk32, hmin30⟩ := min_to x.length 20
  have hmin3 : (if (20 : Int) < (x.length : Int) then (20 : Int) else (x.length : Int)) = (k3 : Int) := hmin30
  clear hmin30
  obtain ⟨u3, hu3, hur3⟩ := rd_to (a := xa) (n := x.length) (c := xc) .i64 k3 hk3 hxc
  have hl3 := hur3 _ _ _ (hH7.out.rd 2 _ _ rfl)
  have rconv := run_bytes_str (P := Tryd.prog) Tryd.underlying9 Tryd.underlying22 Tryd.underlying5 hl3
  have hls3 : (⟨(x.take k3).toArray⟩ : ByteArray).size ≤ 50000 := by
    show (x.take k3).toArray.size ≤ 50000
    rw [List.size_toArray, List.length_take]; omega
  generalize (⟨(x.take k3).toArray⟩ : ByteArray) = lab at rconv hls3
  have HLAB := Lib.hid hls3
  have hls4 : lab.size ≤ 100000 := by omega
  have HLAB2 := Lib.hid hls4
  clear hl3 hls3 hls4 hur3
  go_upto_region 6 with fail
  clear rconv hmin3 hu3
  have HDL := Lib.hid (length_drv m lab z)
  have HDE := Lib.hid (fun w => run_eql_A16 (drv m lab z).1 (length_drv m lab z) w)
  generalize hDP : drv m lab z = DP at *
  have HDP := Lib.hid hDP
  clear hDP
  obtain ⟨D, E⟩ := DP
  go_upto_region 7 with (first
    | (go_at_call 20; refine (derive_calls v2 m lab z HLAB2.out w7 hH7.out.li.tab (hH7.out.rd 1 _ _ rfl) HLM.out).mono ?_; rw [HDP.out]; rintro e w8 ⟨rfl, hb8⟩; have hH8 := Lib.hid (hH7.out.call hb8); clear hb8)
    | (refine wpList_hold rfl 41 (.tmp 12) (.tmp 48) rfl hH8.out (A16 D) z16 rfl rfl (info_A16 D HDL.out) (size_z16 D HDL.out) (one_A16 _) rfl ?_; intro w9 hH9 _; replace hH9 := Lib.hid hH9))
  clear hH7 hH8
  generalize w8.heap.size = q3 at *
  go_upto_region 8 with (first
    | (go_at_call 23; refine (rderive_calls (.slice ua m.length uc) m lab z HLAB.out w9 (hH9.out.rd 3 _ _ rfl) HLM.out).mono ?_; rw [HDP.out]; rintro e w10 ⟨rfl, hb10⟩; have hH10 := Lib.hid (hH9.out.call hb10); clear hb10)
    | (refine wpList_hold rfl 41 (.tmp 14) (.tmp 55) rfl hH10.out (A16 D) z16 rfl rfl (info_A16 D HDL.out) (size_z16 D HDL.out) (one_A16 _) rfl ?_; intro w11 hH11 _; replace hH11 := Lib.hid hH11))
  clear hH9 hH10
  generalize w10.heap.size = q4 at *
  go_upto_region 9 with (first
    | (refine wpList_load_blk rfl 24 (.tmp 9) rfl q1 0 rfl _ _ _ (hH11.out.at 3 _ _ rfl) (A32 M) (List.take_of_length_le (Nat.le_refl _)) _ Tryd.underlying24 rfl (info_A32l M HHL.out) ?_)
    | (refine wpList_hold rfl 24 (.tmp 16) (.tmp 57) rfl hH11.out (A32 M) z32 rfl rfl (info_A32l M HHL.out) (size_z32 M HHL.out) (one_A32 _) rfl ?_; intro w12 hH12 hN12; replace hH12 := Lib.hid hH12; replace hN12 := Lib.hid hN12))
  clear hH11
  generalize w11.heap.size = q5 at *
  have hx0 := Int.emod_nonneg z (b := (32 : Int)) (by omega)
  have hx1 := Int.emod_lt_of_pos z (b := (32 : Int)) (by omega)
  obtain ⟨n, hn⟩ : ∃ n : Nat, z % (32 : Int) = n := ⟨(z % (32 : Int)).toNat, by omega⟩
  rw [hn] at hx0 hx1
  have hn32 : n < 32 := by omega
  have HN := Lib.hid hn
  clear hn
  have hc0 : w12.cell? ⟨q5, n, none⟩ = some (.int .u8 ((M.getD n 0).toNat : Int)) := by
    rw [cell_of_row w12 q5 n _ _ _ (hH12.out.at 0 _ _ rfl), A32_get' M n (by rw [HHL.out]; exact hn32)]; rfl
  have hnn := set_ne M n 1 (by rw [HHL.out]; exact hn32) (by decide)
  have hzl : (M.set n (M.getD n 0 ^^^ 1)).length = 32 := by rw [List.length_set]; exact HHL.out
  have hpz := put_A32l M n (M.getD n 0 ^^^ 1) (by rw [HHL.out]; exact hn32)
  generalize hZd : M.set n (M.getD n 0 ^^^ 1) = Z at hnn hzl hpz
  generalize M.getD n 0 = y0 at hc0 hpz
  have HNN := Lib.hid hnn.1
  have HZL := Lib.hid hzl
  have HPZ := Lib.hid hpz
  have hsz : n + 1 ≤ (A32 M).size := by rw [size_A32, HHL.out]; omega
  have HSZ := Lib.hid hsz
  clear hnn hzl hpz hsz hZd
  go_upto_region 10 with (first
    | (go_at_call 12; refine (bring_calls z (32 : Int) (by omega) (by omega) fz.1 fz.2 _).mono ?_; rintro e w13 ⟨rfl, rfl⟩; rw [HN.out])
    | (refine wpList_store_upd rfl 5 (.tmp 63) (.tmp 62) rfl q5 n (bv (y0 ^^^ 1)) rfl (congrArg (Value.int .u8) (u8_xor y0 1)) _ _ (hH12.out.at 0 _ _ rfl) info_u8 HSZ.out (one_bv _) rfl ?_; intro w14 hu14; rw [HPZ.out] at hu14; have hH14 := Lib.hid (hH12.out.put hN12.out hu14).1; clear hu14))
  clear hH12 hN12 hc0 hx0 hx1
  have hmm : (m == m) = true := by simp
  have hxx : (x == x) = true := by simp
  have hMM : (M == M) = true := by simp
  have HMM := Lib.hid hmm
  have HXX := Lib.hid hxx
  have HMMM := Lib.hid hMM
  clear hmm hxx hMM
  have heq1 := HEQ.out
  have heq2 := HDE.out
  go_wp2_with (first
    | (refine wpList_load_row_g (by rfl) 24 (.tmp 9) rfl q1 rfl _ _ _ _ (hH14.out.at 4 _ _ rfl) Tryd.underlying24 rfl (info_A32l M HHL.out) ?_)
    | (refine wpList_load_row_g (by rfl) 24 (.tmp 10) rfl q2 rfl _ _ _ _ (hH14.out.at 3 _ _ rfl) Tryd.underlying24 rfl (info_A32l M HHL.out) ?_)
    | (refine wpList_load_row_g (by rfl) 41 (.tmp 12) rfl q3 rfl _ _ _ _ (hH14.out.at 2 _ _ rfl) Tryd.underlying41 rfl (info_A16 D HDL.out) ?_)
    | (refine wpList_load_row_g (by rfl) 41 (.tmp 14) rfl q4 rfl _ _ _ _ (hH14.out.at 1 _ _ rfl) Tryd.underlying41 rfl (info_A16 D HDL.out) ?_)
    | (refine wpList_load_row_g (by rfl) 24 (.tmp 16) rfl q5 rfl _ _ _ _ (hH14.out.at 0 _ _ rfl) Tryd.underlying24 rfl (info_A32l Z HZL.out) ?_)
    | (go_at_call 19; refine (same_calls _ _ (by first | exact HHL.out | exact HZL.out) (by first | exact HHL.out | exact HZL.out) _).mono ?_; rintro e w15 ⟨rfl, hb15⟩; (first | rw [HMMM.out] | rw [HNN.out]); replace hH14 := Lib.hid (hH14.out.call hb15); clear hb15)
    | (go_at_call 21; refine (eqBytes_calls _ _ m m _ (hH14.out.rd 1 _ _ rfl) (hH14.out.rd 3 _ _ rfl)).mono ?_; rintro e w16 ⟨rfl, rfl⟩; rw [HMM.out])
    | (go_at_call 21; refine (eqBytes_calls _ _ x x _ (hH14.out.rd 0 _ _ rfl) (hH14.out.rd 2 _ _ rfl)).mono ?_; rintro e w16 ⟨rfl, rfl⟩; rw [HXX.out])
    | (go_at_call 9; refine (works3_calls _ hH14.out.li.tab).mono ?_; rintro e w17 ⟨rfl, hb17⟩; replace hH14 := Lib.hid (hH14.out.call hb17); clear hb17))
  go_ret
  exact ⟨rfl, hH14.out.bel⟩
end Go.Proofs.YtlgaikknodoilaaDoor.Sh
