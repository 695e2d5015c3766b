/- The reference's Mac. -/
import Derived.Test.YtlgaikknodoilaaDoorMaRef
import Derived.Test.YtlgaikknodoilaaDoorShApp
namespace Go.Proofs.YtlgaikknodoilaaDoor.Sh
set_option linter.unusedVariables false
set_option linter.unusedSimpArgs false
open Go Go.RowKit

theorem rpadded54 (kv : Value) (key : Bs) (w : World) (hk0 : RD w.heap.size w kv key) (hlk : key.length ≤ 100000) :
    Calls Tryd.prog 36 #[kv, .int .u8 54] w fun e w' => ∃ v', e = .returned v' ∧ Own w.heap.size w' v' (xk 54 key) ∧ Below w.heap.size w w' := rpadded_calls kv key 54 w hk0 hlk
theorem rpadded92 (kv : Value) (key : Bs) (w : World) (hk0 : RD w.heap.size w kv key) (hlk : key.length ≤ 100000) :
    Calls Tryd.prog 36 #[kv, .int .u8 92] w fun e w' => ∃ v', e = .returned v' ∧ Own w.heap.size w' v' (xk 92 key) ∧ Below w.heap.size w w' := rpadded_calls kv key 92 w hk0 hlk
structure RM (w wr : World) : Prop where
  res : wr.heap[w.heap.size]? = some (.cells z32 24 (0, 0))
  below : Below w.heap.size w wr
theorem RM.lt {w wr : World} (h : RM w wr) : w.heap.size < wr.heap.size := lt_of_heap h.res
theorem RM.call {w wr w2 : World} (h : RM w wr) (hb : Below wr.heap.size wr w2) : RM w w2 := ⟨heap_below h.res hb h.lt, h.below.trans (hb.mono h.below.size)⟩
theorem RM.callB {B : Nat} {w wr w2 : World} (h : RM w wr) (hb : Below B wr w2) (hB : w.heap.size < B) : RM w w2 := ⟨heap_below h.res hb hB, h.below.trans (hb.mono (by omega))⟩
theorem rm_start (w : World) : RM w (WZ w) := ⟨heap_new w _, WZ_below w⟩
theorem RM.rd {w wr : World} {v : Value} {m : Bs} (h : RM w wr) (hv : RD w.heap.size w v m) : RD wr.heap.size wr v m := (hv.below h.below).mono h.below.size
theorem own_append2 {g : Nat} {w : World} {v : Value} {c x : Bs} {n : Nat} (hn : c.length = n) (h : w.ownsRow g 5 1 v (c.length + (x.map bv).length) (c.map bv ++ x.map bv)) : Own g w v (c ++ x) := own_append h

set_option maxRecDepth 4000 in
set_option maxHeartbeats 1000000 in
theorem rmac_calls (kv bvv : Value) (key m : Bs) (w : World) (hk0 : RD w.heap.size w kv key) (hm0 : RD w.heap.size w bvv m) (hlk : key.length ≤ 100000) (hlm : m.length ≤ 100000) :
    Calls Tryd.prog 22 #[kv, bvv] w fun e w' => e = .returned (.agg (A32 (hmac key m))) ∧ Below w.heap.size w w' := by
  have HR0 := Lib.hid (rm_start w)
  have HK := Lib.hid ((rm_start w).rd hk0)
  have hK0 := Lib.hid hk0
  have HM0 := Lib.hid hm0
  have e54 := length_xk 54 key
  have e92 := length_xk 92 key
  have e32 := length_sha (xk 54 key ++ m)
  have hb1 : (xk 54 key).length + (m.map bv).length ≤ maxLen := small_len (by rw [List.length_map]; omega)
  have hb2 : ((xk 54 key).length + (m.map bv).length) * 1 ≤ 140737488355328 := small_bytes (by rw [List.length_map]; omega)
  have ha1 : (xk 92 key).length + ((sha (xk 54 key ++ m)).map bv).length ≤ maxLen := small_len (by rw [List.length_map]; omega)
  have ha2 : ((xk 92 key).length + ((sha (xk 54 key ++ m)).map bv).length) * 1 ≤ 140737488355328 := small_bytes (by rw [List.length_map]; omega)
  have hl8 : (xk 54 key ++ m).length ≤ 500000 := by rw [List.length_append]; omega
  have hl9 : (xk 92 key ++ sha (xk 54 key ++ m)).length ≤ 500000 := by rw [List.length_append]; omega
  have HLK := Lib.hid hlk
  have HB1 := Lib.hid hb1
  have HB2 := Lib.hid hb2
  have HA1 := Lib.hid ha1
  have HA2 := Lib.hid ha2
  have HL8 := Lib.hid hl8
  have HL9 := Lib.hid hl9
  have H32 := Lib.hid e32
  have HX92 := Lib.hid e92
  clear hk0 hm0 hlk hlm e54 e92 e32 hb1 hb2 ha1 ha2 hl8 hl9
  go_enter Tryd.func22, Tryd.ntmps22
  go_upto_region 2 with (first
    | (go_at_call 36; refine (rpadded54 kv key (WZ w) HK.out HLK.out).mono ?_; rintro e w1 ⟨v1, rfl, ho1, hb1⟩; replace ho1 := Lib.hid ho1; have hr1 := Lib.hid (HR0.out.call hb1); have hg1 : (WZ w).heap.size ≤ w1.heap.size := hb1.size; clear hb1)
    | (at_builtin; refine wpList_append_mine rfl (.tmp 7) (.tmp 8) 22 rfl elem_u8 rfl rfl ho1.out hg1 (hr1.out.rd HM0.out) (one_bytes m) HB1.out HB2.out ?_; intro v2 w2 hgr ho; have ho2 := Lib.hid (own_append ho); have hr2 := Lib.hid (hr1.out.callB (own_grown ho1.out hgr hg1) (by rw [WZ_size]; omega)); clear hgr ho)
    | (go_at_call 35; refine (rsum_calls v2 (xk 54 key ++ m) w2 ho2.out.rd HL8.out).mono ?_; rintro e w3 ⟨rfl, hb3⟩; have hr3 := Lib.hid (hr2.out.call hb3); clear hb3)
    | (refine wpList_store_upd rfl 24 (.tmp 5) (.tmp 10) rfl w3.heap.size 0 (.agg (A32 (sha (xk 54 key ++ m)))) rfl rfl _ z32 (heap_new w3 _) (info_A32 _) (le_A32 _) (one_A32 _) rfl ?_; intro w5 hu5; rw [put_A32] at hu5; replace hu5 := Lib.hid hu5))
  have hr5 := Lib.hid (hr3.out.call (((Below.refl _ _).alloc (Nat.le_refl _) _).trans (hu5.out.below (Nat.le_refl _))))
  have hq5 := Lib.hid hu5.out.here
  have hk5 := Lib.hid (hr5.out.rd hK0.out)
  generalize w3.heap.size = q at *
  clear hu5 hr1 hr2 hr3 ho1 ho2 hg1
  refine wp_region_lex Every [1, 3, 4, 5] [] [] (by kernel_rfl) (by kernel_rfl) (fun _ => trivial) ?_
  simp only [List.zipIdx_cons, List.zipIdx_nil, Nat.zero_add, Nat.reduceAdd]
  refine lex_blind 1 (by kernel_rfl) ?_
  simp only [List.take_succ_cons, List.take_zero, List.drop_succ_cons, List.drop_zero, List.map_cons, List.map_nil, Act.put, List.setIfInBounds_toArray, List.set_cons_succ, List.set_cons_zero]
  repeat (go_big_quiet_step (fail))
  refine wpQuiet_nil ?_
  refine lex_act rfl rfl (fun K hK => ?_)
  go_simp
  refine (rpadded92 kv key w5.drew (hk5.out.drew) HLK.out).mono ?_
  rintro e w6 ⟨v6, rfl, ho6, hb6⟩
  refine hK _ _ (ActLeft.keep rfl fun h => h) ?_
  clear hK K
  replace ho6 := Lib.hid ho6
  have hr6 := Lib.hid (hr5.out.call (below_drew hb6))
  have hd6 := Lib.hid (heap_below hq5.out (below_drew hb6) (lt_of_heap hq5.out))
  have hg6 : w5.heap.size ≤ w6.heap.size := (below_drew hb6).size
  clear hb6
  refine lex_blind 1 (by kernel_rfl) ?_
  simp only [List.take_succ_cons, List.take_zero, List.drop_succ_cons, List.drop_zero, List.map_cons, List.map_nil, Act.put, List.setIfInBounds_toArray, List.set_cons_succ, List.set_cons_zero]
  repeat (go_big_quiet_step (fail))
  refine wpQuiet_nil ?_
  refine lex_act rfl rfl (fun K hK => ?_)
  refine wp_append_mine (.tmp 12) (.tmp 13) 22 rfl elem_u8 rfl rfl ho6.out hg6 (rd_RB w6 q 32 (sha (xk 54 key ++ m)) _ _ H32.out (by simp only [maxLen]; omega) hd6.out) (one_bytes _) HA1.out HA2.out ?_
  intro v7 w7 hgr ho7
  have ho7' := Lib.hid (own_append2 HX92.out ho7)
  have hb7 := Lib.hid (own_grown ho6.out hgr hg6)
  clear hgr ho7
  refine hK _ _ (ActLeft.keep rfl fun h => h) ?_
  clear hK K
  refine lex_act rfl rfl (fun K hK => ?_)
  go_simp
  refine (rsum_calls v7 (xk 92 key ++ sha (xk 54 key ++ m)) w7 ho7'.out.rd HL9.out).mono ?_
  rintro e w8 ⟨rfl, hb8⟩
  refine hK _ _ (ActLeft.keep rfl fun h => h) ?_
  clear hK K
  have hr8 := Lib.hid ((hr6.out.callB hb7.out hr5.out.lt).call hb8)
  clear hb8
  refine lex_act rfl rfl (fun K hK => ?_)
  refine wp_store_upd 24 (.tmp 4) (.tmp 15) rfl w.heap.size 0 (.agg (A32 (hmac key m))) rfl rfl _ _ hr8.out.res (info_A32h _ _) (le_A32h _ _) (one_A32 _) rfl ?_
  intro w9 hu9
  rw [put_A32h] at hu9
  replace hu9 := Lib.hid hu9
  refine hK _ _ (ActLeft.keep rfl fun h => h) ?_
  clear hK K
  refine lex_nil ?_
  go_wp2_with fail
  refine bodyPost_ret (ret_row (P := Tryd.prog) rfl _ w.heap.size _ (A32 (hmac key m)) _ _ rfl hu9.out.here Tryd.underlying24 rfl (info_A32h _ _)) rfl ⟨rfl, ?_⟩
  exact hr8.out.below.trans (hu9.out.below (Nat.le_refl _))
end Go.Proofs.YtlgaikknodoilaaDoor.Sh
