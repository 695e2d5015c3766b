/- The walk of MacKeys. -/
import Derived.Test.YtlgaikknodoilaaDoorMaWorks
import Derived.Test.YtlgaikknodoilaaDoorShOpen
import Derived.Test.YtlgaikknodoilaaDoorShApp
namespace Go.Proofs.YtlgaikknodoilaaDoor.Sh
set_option linter.unusedVariables false
set_option linter.unusedSimpArgs false
open Go Go.RowKit

section
variable {P : Program} {ops : Array Oper} {S T D : List Nat} {Q : Exit → Act → World → Prop}
/-- The next operation loads a whole row, the same in every world of the class. -/
theorem lex_load_row {F : World → Prop} {o : Oper} {j : Nat} {r : List (Oper × Nat)} {a : Act} {w : World} (hS : S.contains j = false) (hD : D.contains j = true) (hw : Region.wanted o (yielded ops a.tmps) = true)
    (ty : TypeId) (x : Operand) (ho : o.op = .load ty x) (g : Nat) (hx : a.eval x = .pointer (some ⟨g, 0, none⟩)) (t : TypeId) (cs : Array Value) (fr : Nat × Nat) (d : TypeDesc) (hg : ∀ w, F w → w.heap[g]? = some (.cells cs t fr))
    (hu : P.underlying ty = some d) (hd : (match d with | .struct _ | .array _ _ => true | _ => false) = true) (hi : (P.info? ty).map (·.size) = some cs.size)
    (h : Lex P ops F S T D Q r (a.put o.dst (.agg cs)) w) : Lex P ops F S T D Q ((o, j) :: r) a w := by
  unfold Lex
  rw [if_neg (by rw [hS]; exact Bool.false_ne_true)]
  refine ⟨.agg cs, .inl ⟨hw, fun w' hC => .inl ?_⟩, h⟩
  rw [if_pos hD] at hC
  unfold execOp
  simp only [ho, hx, Instr.loadAt, Instr.sureAddr, Sem.run_bind, Sem.run_pure, Result.andThen_ok, run_loadVar_row w' g t ty cs fr d (hg w' hC) hu hd hi]
end
theorem KD.drew {w0 w : World} {p : Nat} {d : Bs} (h : KD w0 p d w) : KD w0 p d w.drew := h.call (below_drewN' (n := 1) (Below.refl _ _))
theorem own_below {g : Nat} {w w' : World} {v : Value} {m : Bs} (h : Own g w v m) (hb : Below w.heap.size w w') : Own g w' v m := by
  obtain ⟨h1, h | ⟨b, cap, cur, e, h2, h3, h4⟩⟩ := h
  · exact ⟨h1, .inl h⟩
  · exact ⟨h1, .inr ⟨b, cap, cur, e, h2, heap_below h3 hb (lt_of_heap h3), h4⟩⟩
theorem KD.grown {w0 w w' : World} {p g : Nat} {d m : Bs} {v : Value} (ht : Tab w0) (h : KD w0 p d w) (hp : p < g) (hw : w0.heap.size ≤ g) (hg : g ≤ w.heap.size) (ho : Own g w v m) (hgr : w.grownBy w' v.ownBlock) : KD w0 p d w' := by
  have hk : ∀ k, v.ownBlock = some k → g ≤ k := fun k hk => by
    obtain ⟨_, ⟨rfl, _⟩ | ⟨b, cap, cur, rfl, hb, _⟩⟩ := ho
    · cases hk
    · simp only [Value.ownBlock, Option.some.injEq] at hk; omega
  have hb := grown_below hgr hg hk
  have hl := h.li.bel.trans (hb.mono hw)
  exact ⟨(LI.start ht).call hl, heap_below h.row hb hp⟩
theorem copyBytes_KD (w0 : World) (p : Nat) (d x : Bs) (v : Value) (w : World) (h : KD w0 p d w) (hx : RD w0.heap.size w0 v x) (hlen : x.length ≤ 140737488355328) :
    Calls Tryd.prog 13 #[v] w fun e w' => ∃ v' g, e = .returned v' ∧ Own g w' v' x ∧ g ≤ w'.heap.size ∧ p < g ∧ w0.heap.size ≤ g ∧ KD w0 p d w' :=
  (copyBytes_calls v x w (h.li.rd hx) hlen).mono fun e w' ⟨v', he, ho, hb⟩ => ⟨v', w.heap.size, he, ho, hb.size, lt_of_heap h.row, h.li.bel.size, h.call hb⟩

set_option maxRecDepth 4000 in
set_option maxHeartbeats 1000000 in
theorem keys_calls (w : World) (ht : Tab w) (v : Value) (m0 : Bs) (hv : RD w.heap.size w v m0) (xv : Value) (x0 : Bs) (hxv : RD w.heap.size w xv x0) (z : Int) (fz : Fits z) :
    Calls Tryd.prog 3 #[v, xv, .int .i64 z] w fun e w' => e = .returned (.bool true) ∧ Below w.heap.size w w' := by
  obtain ⟨a, c, rfl, hc, hcm⟩ := hv.form
  obtain ⟨sa, sc, rfl, hsc, hscm⟩ := hxv.form
  obtain ⟨k, hk, hk2, hmin0⟩ := min_to m0.length 200
  have hmin : (if (200 : Int) < (m0.length : Int) then (200 : Int) else (m0.length : Int)) = (k : Int) := hmin0
  clear hmin0
  obtain ⟨u, hu, hur⟩ := rd_to (a := a) (n := m0.length) (c := c) .i64 k hk hc
  have hm := hur _ _ _ hv
  clear hur hv
  have hml : (m0.take k).length = k := by rw [List.length_take]; omega
  generalize m0.take k = m at hm hml
  obtain ⟨ua, uc, rfl, huc, _⟩ := hm.form
  rw [hml] at hu huc
  subst hml
  obtain ⟨l, hl, hl2, hminx0⟩ := min_to x0.length 200
  have hminx : (if (200 : Int) < (x0.length : Int) then (200 : Int) else (x0.length : Int)) = (l : Int) := hminx0
  clear hminx0
  obtain ⟨s, hs, hsr⟩ := rd_to (a := sa) (n := x0.length) (c := sc) .i64 l hl hsc
  have hx := hsr _ _ _ hxv
  clear hsr hxv
  have hxl : (x0.take l).length = l := by rw [List.length_take]; omega
  generalize x0.take l = x at hx hxl
  obtain ⟨xa, xc, rfl, hxc, _⟩ := hx.form
  rw [hxl] at hs hxc
  subst hxl
  replace hm := Lib.hid hm
  replace hx := Lib.hid hx
  have HT := Lib.hid ht
  have hlm : m.length ≤ 549755813888 := by omega
  have hlm2 : m.length ≤ 140737488355328 := by omega
  have hlx : x.length ≤ 500000000000 := by omega
  have hls : (sha m).length ≤ 549755813888 := by rw [length_sha]; omega
  have HLM := Lib.hid hlm
  have HLM2 := Lib.hid hlm2
  have HLX := Lib.hid hlx
  have HLS := Lib.hid hls
  clear hlm hlm2 hlx hls
  have heq : ∀ w, (binOp .eql 24 (.agg (A32 (hmac m x))) (.agg (A32 (hmac m x)))).run Tryd.prog w = .ok (.bool true) w := fun w => run_eql_same (hmac m x) (length_hmac m x) w
  go_enter Tryd.func3, Tryd.ntmps3
  go_upto_region 3 with (go_at_call 9; refine (works3_calls w HT.out).mono ?_; rintro e w1 ⟨rfl, hb1⟩; have hl1 := Lib.hid ((LI.start HT.out).call hb1); clear hb1)
  refine wp_region_lex Every [] [] [] (by kernel_rfl) (by kernel_rfl) (fun _ => trivial) ?_
  simp only [List.zipIdx_cons, List.zipIdx_nil, Nat.zero_add, Nat.reduceAdd]
  refine lex_blind 12 (by kernel_rfl) ?_
  simp only [List.take_succ_cons, List.take_zero, List.drop_succ_cons, List.drop_zero, List.map_cons, List.map_nil, Act.put, List.setIfInBounds_toArray, List.set_cons_succ, List.set_cons_zero]
  repeat (go_big_quiet_step (fail))
  refine wpQuiet_nil ?_
  refine lex_nil ?_
  clear hmin hminx hu hs
  go_upto_region 5 with (first
    | (go_at_call 10; refine (mac_L w (.slice ua m.length uc) (.slice xa x.length xc) m x _ hl1.out.drew (hl1.out.drew.rd hm.out) (hl1.out.drew.rd hx.out) HLM.out HLX.out).mono ?_; rintro e w2 ⟨rfl, hl2', -⟩; replace hl2' := Lib.hid hl2')
    | (refine wpList_store_upd rfl 24 (.tmp 7) (.tmp 24) rfl w2.heap.size 0 (.agg (A32 (hmac m x))) rfl rfl _ z32 (heap_new w2 _) (info_A32h _ _) (le_A32h _ _) (one_A32 _) rfl ?_; intro w3 hu3; rw [put_A32h] at hu3; replace hu3 := Lib.hid hu3))
  have hd3 := Lib.hid (kd_start hl2'.out hu3.out)
  generalize w2.heap.size = p at *
  clear hl2' hu3 hl1
  by_cases h64 : 64 < m.length
  · have hi64 : (64 : Int) < (m.length : Int) := by omega
    have HL64 := Lib.hid h64
    clear h64
    go_upto_region 7 with (first
      | (go_at_call 11; refine (shaSum_calls (.slice ua m.length uc) m w3 hd3.out.li.tab (hd3.out.li.rd hm.out) HLM.out).mono ?_; rintro e w4 ⟨rfl, hb4⟩; have hd4 := Lib.hid (hd3.out.call hb4); clear hb4)
      | (refine wpList_store_upd rfl 24 (.tmp 8) (.tmp 29) rfl w4.heap.size 0 (.agg (A32 (sha m))) rfl rfl _ z32 (heap_new w4 _) (info_A32 _) (le_A32 _) (one_A32 _) rfl ?_; intro w5 hu5; rw [put_A32] at hu5; replace hu5 := Lib.hid hu5))
    have hd5 := Lib.hid (hd4.out.two hu5.out)
    have HRS := Lib.hid (rd_RB w5 w4.heap.size 32 (sha m) _ _ (length_sha m) (by simp only [maxLen]; omega) hu5.out.here)
    clear hu5 hd4
    refine wp_region_lex (fun w => w.heap[p]? = some (.cells (A32 (hmac m x)) 24 (0, 0))) [3] [] [0] (by kernel_rfl) (by kernel_rfl) (fun _ => hd5.out.row) ?_
    simp only [List.zipIdx_cons, List.zipIdx_nil, Nat.zero_add, Nat.reduceAdd]
    refine lex_load_row rfl rfl rfl 24 (.tmp 7) rfl p rfl _ (A32 (hmac m x)) (0, 0) _ (fun _ h => h) Tryd.underlying24 rfl (info_A32h m x) ?_
    refine lex_blind 2 (by kernel_rfl) ?_
    simp only [List.take_succ_cons, List.take_zero, List.drop_succ_cons, List.drop_zero, List.map_cons, List.map_nil, Act.put, List.setIfInBounds_toArray, List.set_cons_succ, List.set_cons_zero]
    repeat (go_big_quiet_step (fail))
    refine wpQuiet_nil ?_
    refine lex_act rfl rfl (fun K hK => ?_)
    go_simp
    refine (mac_L w (.slice (some ⟨w4.heap.size, 0, none⟩) 32 32) (.slice xa x.length xc) (sha m) x _ hd5.out.li.drew HRS.out.drew (hd5.out.li.drew.rd hx.out) HLS.out HLX.out).mono ?_
    rintro e w6 ⟨rfl, hl6, hb6⟩
    have hd6 := Lib.hid (hd5.out.call (below_drew hb6))
    rw [hmac_sha m x HL64.out]
    clear hl6 hb6
    refine hK _ _ (ActLeft.keep rfl fun _ => hd6.out.row) ?_
    clear hK K
    refine lex_blind 2 (by kernel_rfl) ?_
    simp only [List.take_succ_cons, List.take_zero, List.drop_succ_cons, List.drop_zero, List.map_cons, List.map_nil, Act.put, List.setIfInBounds_toArray, List.set_cons_succ, List.set_cons_zero]
    repeat (go_big_quiet_step (fail))
    refine wpQuiet_nil ?_
    refine lex_nil ?_
    go_wp2_with fail
    go_ret
    exact ⟨rfl, hd6.out.li.bel⟩
  · have hle : m.length ≤ 64 := by omega
    have hi64 : (m.length : Int) ≤ (64 : Int) := by omega
    have hx0 := Int.emod_nonneg z (b := (65 : Int) - (m.length : Int)) (by omega)
    have hx1 := Int.emod_lt_of_pos z (b := (65 : Int) - (m.length : Int)) (by omega)
    obtain ⟨n, hn⟩ : ∃ n : Nat, z % ((65 : Int) - (m.length : Int)) = n := ⟨(z % ((65 : Int) - (m.length : Int))).toNat, by omega⟩
    rw [hn] at hx0 hx1
    have hmore : m.length + n ≤ 64 := by omega
    have hn5 : n ≤ 100000 := by omega
    have hap1 : m.length + ((List.replicate n (0 : UInt8)).map bv).length ≤ maxLen := small_len (by rw [List.length_map, List.length_replicate]; omega)
    have hap2 : (m.length + ((List.replicate n (0 : UInt8)).map bv).length) * 1 ≤ 140737488355328 := small_bytes (by rw [List.length_map, List.length_replicate]; omega)
    have hlk2 : (m ++ List.replicate n 0).length ≤ 549755813888 := by rw [List.length_append, List.length_replicate]; omega
    have HN := Lib.hid hn
    have HMORE := Lib.hid hmore
    have HN5 := Lib.hid hn5
    have HAP1 := Lib.hid hap1
    have HAP2 := Lib.hid hap2
    have HLK2 := Lib.hid hlk2
    clear hn hx0 hx1 h64 hmore hn5 hap1 hap2 hlk2
    go_upto_region 9 with (go_at_call 12; go_loud (refine (bring_calls z ((65 : Int) - (m.length : Int)) (by omega) (by omega) fz.1 fz.2 _).mono ?_; rintro e w8 ⟨rfl, rfl⟩; rw [HN.out]))
    refine wp_region_lex (fun w => w.heap[p]? = some (.cells (A32 (hmac m x)) 24 (0, 0))) [2, 4, 5, 7] [] [0] (by kernel_rfl) (by kernel_rfl) (fun _ => hd3.out.row) ?_
    simp only [List.zipIdx_cons, List.zipIdx_nil, Nat.zero_add, Nat.reduceAdd]
    refine lex_load_row rfl rfl rfl 24 (.tmp 7) rfl p rfl _ (A32 (hmac m x)) (0, 0) _ (fun _ h => h) Tryd.underlying24 rfl (info_A32h m x) ?_
    refine lex_blind 1 (by kernel_rfl) ?_
    simp only [List.take_succ_cons, List.take_zero, List.drop_succ_cons, List.drop_zero, List.map_cons, List.map_nil, Act.put, List.setIfInBounds_toArray, List.set_cons_succ, List.set_cons_zero]
    repeat (go_big_quiet_step (fail))
    refine wpQuiet_nil ?_
    refine lex_act rfl rfl (fun K hK => ?_)
    go_simp
    refine (copyBytes_KD w p (hmac m x) m _ _ hd3.out.drew hm.out HLM2.out).mono ?_
    rintro e w5 ⟨v5, g5, rfl, ho5, hg5, hp5, hw5, hd5⟩
    replace ho5 := Lib.hid ho5
    replace hd5 := Lib.hid hd5
    refine hK _ _ (ActLeft.keep rfl fun _ => hd5.out.row) ?_
    clear hK K
    refine lex_blind 1 (by kernel_rfl) ?_
    simp only [List.take_succ_cons, List.take_zero, List.drop_succ_cons, List.drop_zero, List.map_cons, List.map_nil, Act.put, List.setIfInBounds_toArray, List.set_cons_succ, List.set_cons_zero]
    repeat (go_big_quiet_step (fail))
    refine wpQuiet_nil ?_
    refine lex_act rfl rfl (fun K hK => ?_)
    go_simp
    refine (many_calls 0 n HN5.out w5).mono ?_
    rintro e w6 ⟨v6, rfl, ho6, hb6⟩
    have ho56 := Lib.hid (own_below ho5.out hb6)
    have hd6 := Lib.hid (hd5.out.call hb6)
    have hr6 := Lib.hid ho6.rd
    have hs6 := hb6.size
    clear ho6 hb6
    refine hK _ _ (ActLeft.keep rfl fun _ => hd6.out.row) ?_
    clear hK K
    refine lex_act rfl rfl (fun K hK => ?_)
    refine wp_append_mine (.tmp 42) (.tmp 44) 22 rfl elem_u8 rfl rfl ho56.out (Nat.le_trans hg5 hs6) hr6.out (one_bytes _) HAP1.out HAP2.out ?_
    intro v7 w7 hgr ho7
    have hd7 := Lib.hid (KD.grown HT.out hd6.out hp5 hw5 (Nat.le_trans hg5 hs6) ho56.out hgr)
    have hr7 : Hid (RD w7.heap.size w7 v7 (m ++ List.replicate n 0)) := Lib.hid (by have := RV.of_owns ho7; rwa [← List.map_append] at this)
    clear hgr ho7
    refine hK _ _ (ActLeft.keep rfl fun _ => hd7.out.row) ?_
    clear hK K
    refine lex_blind 1 (by kernel_rfl) ?_
    simp only [List.take_succ_cons, List.take_zero, List.drop_succ_cons, List.drop_zero, List.map_cons, List.map_nil, Act.put, List.setIfInBounds_toArray, List.set_cons_succ, List.set_cons_zero]
    repeat (go_big_quiet_step (fail))
    refine wpQuiet_nil ?_
    refine lex_act rfl rfl (fun K hK => ?_)
    go_simp
    refine (mac_L w v7 (.slice xa x.length xc) (m ++ List.replicate n 0) x _ hd7.out.li hr7.out (hd7.out.li.rd hx.out) HLK2.out HLX.out).mono ?_
    rintro e w8 ⟨rfl, hl8, hb8⟩
    have hd8 := Lib.hid (hd7.out.call hb8)
    rw [hmac_more m x n HMORE.out]
    clear hl8 hb8
    refine hK _ _ (ActLeft.keep rfl fun _ => hd8.out.row) ?_
    clear hK K
    refine lex_blind 2 (by kernel_rfl) ?_
    simp only [List.take_succ_cons, List.take_zero, List.drop_succ_cons, List.drop_zero, List.map_cons, List.map_nil, Act.put, List.setIfInBounds_toArray, List.set_cons_succ, List.set_cons_zero]
    repeat (go_big_quiet_step (fail))
    refine wpQuiet_nil ?_
    refine lex_nil ?_
    go_wp2_with fail
    go_ret
    exact ⟨rfl, hd8.out.li.bel⟩
end Go.Proofs.YtlgaikknodoilaaDoor.Sh
