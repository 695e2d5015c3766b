/- The walk of TapeBlocks. -/
import Derived.Test.YtmkpajhfgdffpaaDoorTaWorks
namespace Go.Proofs.YtmkpajhfgdffpaaDoor.Sh
set_option linter.unusedVariables false
set_option linter.unusedSimpArgs false
open Go Go.RowKit

theorem Own.allocO {base : Nat} {w : World} {v : Value} {m : Bs} (h : Own base w v m) (o : Obj) : Own base (w.alloc o) v m := own_past h fun b _ hlt => Below.heap_alloc w o b hlt
theorem be8_small (n : Nat) (h : n < 40) : be 8 n = [0, 0, 0, 0, 0, 0, 0, UInt8.ofNat n] := by
  exact (by decide : ∀ n : Fin 40, be 8 n.val = [0, 0, 0, 0, 0, 0, 0, UInt8.ofNat n.val]) ⟨n, h⟩
theorem nat_u8 (n : Nat) (h : n < 256) : ((n : Nat) : Int) = ((UInt8.ofNat n).toNat : Int) := by
  rw [show (UInt8.ofNat n).toNat = n % 256 from UInt8.toNat_ofNat' ..]; omega

set_option maxRecDepth 4000 in
set_option maxHeartbeats 1000000 in
theorem blocks_calls (w : World) (ht : Tab w) (v : Value) (m0 : Bs) (hv : RD w.heap.size w v m0) (z : Int) (fz : Fits z) :
    Calls Tryd.prog 4 #[v, .int .i64 z] w fun e w' => e = .returned (.bool true) ∧ Below w.heap.size w w' := by
  obtain ⟨a, c, rfl, hca, hma⟩ := hv.form
  obtain ⟨k, hka, hk2a, hmina0⟩ := min_to m0.length 100
  have hmina : (if (100 : Int) < (m0.length : Int) then (100 : Int) else (m0.length : Int)) = (k : Int) := hmina0
  obtain ⟨u, hua, hura⟩ := rd_to (a := a) (n := m0.length) (c := c) .i64 k hka hca
  have hm := hura _ _ _ hv
  have hlm : (m0.take k).length = k := by rw [List.length_take]; omega
  generalize m0.take k = m at hm hlm
  obtain ⟨ua, uc, rfl, hu2a, _⟩ := hm.form
  rw [hlm] at hua hu2a
  subst hlm
  have HM := Lib.hid hm
  clear hmina0 hura hv hm
  have hx0 := Int.emod_nonneg z (b := (40 : Int)) (by omega)
  have hx1 := Int.emod_lt_of_pos z (b := (40 : Int)) (by omega)
  obtain ⟨n, hn⟩ : ∃ n : Nat, z % (40 : Int) = n := ⟨(z % (40 : Int)).toNat, by omega⟩
  rw [hn] at hx0 hx1
  have hn40 : n < 40 := by omega
  have HN := Lib.hid hn
  clear hn
  have HN40 := Lib.hid hn40
  have HS1 := Lib.hid (show 0 + (m.length + 32 * n) ≤ 1000000000 by omega)
  have HS0 := Lib.hid (show m.length + 32 * n ≤ 65536 by omega)
  have HS2 := Lib.hid (show m.length + 32 * n + 32 ≤ 1000000000 by omega)
  have HS3 := Lib.hid (show m.length ≤ 140737488355328 by omega)
  have htk : m.take 65536 = m := List.take_of_length_le (by omega)
  have HTK := Lib.hid htk
  have HT0 := Lib.hid ((Tk.start ht).row0 HM.out)
  have hbe := be8_small n hn40
  have hD : sha (m ++ [0, 0, 0, 0, 0, 0, 0, UInt8.ofNat n]) = blk m n := by unfold blk; rw [hbe]
  have HD := Lib.hid hD
  have HBL := Lib.hid (length_blk m n)
  have HEQ : Hid ((draw m (m.length + 32 * n) 32 == blk m n) = true) := Lib.hid (eqb_true (draw_blk m n))
  have hl1 : m.length + ([0, 0, 0, 0, 0, 0, 0, UInt8.ofNat n].map bv).length ≤ maxLen := by simp only [maxLen, List.length_map, List.length_cons, List.length_nil]; omega
  have hl2 : (m.length + ([0, 0, 0, 0, 0, 0, 0, UInt8.ofNat n].map bv).length) * 1 ≤ 140737488355328 := by simp only [List.length_map, List.length_cons, List.length_nil]; omega
  have hl3 : (m ++ [0, 0, 0, 0, 0, 0, 0, UInt8.ofNat n]).length ≤ 549755813888 := by simp only [List.length_append, List.length_cons, List.length_nil]; omega
  have HL1 := Lib.hid hl1
  have HL2 := Lib.hid hl2
  have HL3 := Lib.hid hl3
  have hu8 := nat_u8 n (by omega)
  have HU8 := Lib.hid hu8
  clear htk hbe hD hl1 hl2 hl3 hu8
  go_enter Tryd.func4, Tryd.ntmps4
  go_upto_region 5 with (first
    | (go_at_call 12; refine (tk_drawN HT1.out 0 rfl (m.length + 32 * n) HS0.out HS1.out _ (by omega)).mono ?_; rintro e w2 ⟨g1, rfl, h2⟩; rw [Nat.zero_add] at h2; have HT2 : Hid (Tk w [(p, m, m.length + 32 * n)] [] _ w2) := Lib.hid h2; clear h2)
    | (go_at_call 10; refine (tk_new HT0.out HM.out).mono ?_; rintro e w1 ⟨p, rfl, h1⟩; rw [HTK.out] at h1; have HT1 : Hid (Tk w [(p, m, 0)] [] _ w1) := Lib.hid h1; clear h1)
    | (go_at_call 11; refine (bring_calls z (40 : Int) (by omega) (by omega) fz.1 fz.2 _).mono ?_; rintro e w13 ⟨rfl, rfl⟩; rw [HN.out]))
  clear HT0 HT1
  go_upto_region 6 with (first
    | (refine wpList_store_upd rfl 32 (.tmp 7) (.tmp 30) rfl w6.heap.size 0 (.agg (A32 (blk m n))) rfl rfl _ z32 (heap_new w6 _) (info_A32k _ HBL.out) (le_A32k _ HBL.out) (one_A32 _) rfl ?_; intro w7 hu7; rw [put_blk _ HBL.out] at hu7; replace hu7 := Lib.hid hu7)
    | (go_at_call 15; refine (shaSum_calls v5 _ w5 HT5.out.tab HO5.out.rd HL3.out).mono ?_; rintro e w6 ⟨rfl, hb6⟩; rw [HD.out]; have HT6 := Lib.hid (HT5.out.call hb6); clear hb6)
    | (at_builtin; refine wpList_append_mine rfl (.tmp 25) (.tmp 28) 22 rfl elem_u8 rfl rfl (HO4.out.allocO _) (by rw [World.size_alloc]; have := HB4.out.size; omega) (B := (w4.heap.size + 1)) (ys := [0, 0, 0, 0, 0, 0, 0, UInt8.ofNat n].map bv) ?_ (one_bytes _) HL1.out HL2.out ?_; rotate_right; intro v5 w5 hg5 ho5; have HO5 := Lib.hid (own_append ho5); have HT5 := Lib.hid (HT2.out.call ((HB4.out.trans ((Below.refl _ _).alloc HB4.out.size _)).trans (own_grown (HO4.out.allocO _) hg5 (by rw [World.size_alloc]; have := HB4.out.size; omega)))); clear hg5 ho5)
    | (go_at_call 16; refine (copyBytes_calls (.slice ua m.length uc) m w2 (HT2.out.rd 1 _ _ rfl) HS3.out).mono ?_; rintro e w4 ⟨v4, rfl, ho4, hb4⟩; have HO4 := Lib.hid ho4; have HB4 := Lib.hid hb4; clear ho4 hb4))
  · have HT7 := Lib.hid (HT6.out.blockRow (q := w6.heap.size) (n := 32) (m := blk m n) HBL.out.symm (by rw [HBL.out]; decide) (((Below.refl _ _).alloc (Nat.le_refl _) _).trans (hu7.out.below (Nat.le_refl _))) (Nat.le_refl _) hu7.out.here)
    clear HT6 hu7 HT5 HO5 HT2 HO4 HB4
    generalize w6.heap.size = q at *
    refine wp_region_lex (Every) [1, 3, 5] [] [] (by kernel_rfl) (by kernel_rfl) (fun _ => trivial) ?_
    simp only [List.zipIdx_cons, List.zipIdx_nil, Nat.zero_add, Nat.reduceAdd]
    refine lex_blind 1 (by kernel_rfl) ?_
    simp only [List.take_succ_cons, List.take_zero, List.drop_succ_cons, List.drop_zero, List.map_cons, List.map_nil, Act.put, List.setIfInBounds_toArray, List.set_cons_succ, List.set_cons_zero]
    repeat (go_big_quiet_step (fail))
    refine wpQuiet_nil ?_
    refine lex_act rfl rfl (fun K hK => ?_)
    go_simp
    refine (tk_drawN HT7.out.drew 0 rfl 32 (by decide) HS2.out 32 rfl).mono ?_
    rintro e w8 ⟨g2, rfl, h8⟩
    have HT8 : Hid (Tk w [(p, m, m.length + 32 * n + 32)] [] _ w8) := Lib.hid h8
    clear h8
    refine hK _ _ (ActLeft.keep rfl fun h => h) ?_
    clear hK K
    refine lex_blind 1 (by kernel_rfl) ?_
    simp only [List.take_succ_cons, List.take_zero, List.drop_succ_cons, List.drop_zero, List.map_cons, List.map_nil, Act.put, List.setIfInBounds_toArray, List.set_cons_succ, List.set_cons_zero]
    repeat (go_big_quiet_step (fail))
    refine wpQuiet_nil ?_
    refine lex_act rfl rfl (fun K hK => ?_)
    go_simp
    refine (eqBytes_calls _ _ _ _ w8 (HT8.out.rd 0 _ _ rfl) (HT8.out.rd 1 _ _ rfl)).mono ?_
    rintro e w9 ⟨rfl, rfl⟩
    rw [HEQ.out]
    refine hK _ _ (ActLeft.keep rfl fun h => h) ?_
    clear hK K
    refine lex_blind 1 (by kernel_rfl) ?_
    simp only [List.take_succ_cons, List.take_zero, List.drop_succ_cons, List.drop_zero, List.map_cons, List.map_nil, Act.put, List.setIfInBounds_toArray, List.set_cons_succ, List.set_cons_zero]
    repeat (go_big_quiet_step (fail))
    refine wpQuiet_nil ?_
    refine lex_act rfl rfl (fun K hK => ?_)
    go_simp
    refine (worksT_calls w8 HT8.out.tab).mono ?_
    rintro e w10 ⟨rfl, hb10⟩
    have HT10 := Lib.hid (HT8.out.call hb10)
    clear hb10
    refine hK _ _ (ActLeft.keep rfl fun h => h) ?_
    clear hK K
    refine lex_blind 2 (by kernel_rfl) ?_
    simp only [List.take_succ_cons, List.take_zero, List.drop_succ_cons, List.drop_zero, List.map_cons, List.map_nil, Act.put, List.setIfInBounds_toArray, List.set_cons_succ, List.set_cons_zero]
    repeat (go_big_quiet_step (fail))
    refine wpQuiet_nil ?_
    refine lex_nil ?_
    go_wp2_with fail
    go_ret
    exact ⟨rfl, HT10.out.bel⟩
  · rw [HU8.out]
    exact rd_marked w4 [0, 0, 0, 0, 0, 0, 0, UInt8.ofNat n] (by simp [maxLen]) (0, 0)
end Go.Proofs.YtmkpajhfgdffpaaDoor.Sh
