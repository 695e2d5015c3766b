/- The contract of a tape's Copy. -/
import Derived.Test.YtmkpajhfgdffpaaDoorTaOpen
namespace Go.Proofs.YtmkpajhfgdffpaaDoor.Sh
set_option linter.unusedVariables false
set_option linter.unusedSimpArgs false
open Go Go.Conc Go.RowKit

def CopyPost (w0 : World) (l : List (Nat × Obj)) (vs : List (Value × Bs)) (t : TP) (e : Ending) (w : World) : Prop :=
  ∃ (C T : TP), e = .returned (.pointer (some ⟨C.p, 0, none⟩)) ∧ C.ok ∧ C.seed = t.seed ∧ C.n = t.n ∧ T.ok ∧ T.p = t.p ∧ T.seed = t.seed ∧ T.n = t.n ∧
    Hb w0 (C.blocks ++ (T.blocks ++ l)) (C.rows ++ (T.rows ++ vs)) w.heap.size w
theorem run_ptr_none' (p : Nat) (w : World) : (binOp .eql 25 (.pointer (some ⟨p, 0, none⟩)) (.pointer none)).run Tryd.prog w = .ok (.bool false) w := by kernel_rfl
theorem waits_zero (seed : Bs) (k : Nat) : waits seed k 0 = #[] := by simp [waits]

set_option maxRecDepth 4000 in
set_option maxHeartbeats 2000000 in
theorem tcopy_calls (w0 : World) (l : List (Nat × Obj)) (vs : List (Value × Bs)) (t : TP) (hok : t.ok) (w : World) (H : Hb w0 (t.blocks ++ l) (t.rows ++ vs) w.heap.size w) :
    Calls Tryd.prog 20 #[.pointer (some ⟨t.p, 0, none⟩)] w (CopyPost w0 l vs t) := by
  have HH := Lib.hid H
  have HK := Lib.hid hok
  have hqp := run_ptr_none' t.p w
  have hsv := Lib.hid ((H.rows _ List.mem_cons_self).form)
  have hlv := Lib.hid ((H.rows _ (List.mem_cons_of_mem _ List.mem_cons_self)).form)
  clear H hok
  go_enter Tryd.func20, Tryd.ntmps20
  go_upto_region 4 with (go_at_call 23; refine (begin_calls w0 l _ t HK.out.none w HH.out).mono ?_; rintro e w1 ⟨rfl, c, s, r, H1⟩; replace H1 := Lib.hid H1)
  obtain ⟨sa, sc, es, _⟩ := hsv.out
  obtain ⟨la, lc, el, _⟩ := hlv.out
  simp only [List.length_map] at es el
  have elf : t.lf.length = t.m := length_draw _ _ _
  rw [elf] at el
  have hp1 : w1.heap[t.p]? = some (.cells (NxC (.slice sa t.seed.length sc) (.slice la t.m lc) (t.k + t.j) c t.n true) 44 (0, 0)) := by rw [← es, ← el]; exact H1.out.at 0 _ _ rfl
  have HP := Lib.hid hp1
  have HC := Lib.hid (H1.out.at 1 c _ rfl)
  have HLF := Lib.hid (show RD w1.drew.heap.size w1.drew (.slice la t.m lc) t.lf by rw [← el]; exact H1.out.drew.rd 1 _ _ rfl)
  have HL := Lib.hid (show t.lf.length ≤ 140737488355328 by rw [elf]; have := HK.out.m; omega)
  have HD := Lib.hid (H1.out.drew.top)
  have HES := Lib.hid es
  have HEL := Lib.hid el
  have HELF := Lib.hid elf
  have f0 : ∀ y : In (fun w' : World => w'.heap[t.p]? = some (.cells (NxC (.slice sa t.seed.length sc) (.slice la t.m lc) (t.k + t.j) c t.n true) 44 (0, 0))), y.val.cell? ⟨t.p, 0, none⟩ = some (.slice sa t.seed.length sc) := fun y => by rw [cell_of_row _ t.p 0 _ _ _ y.prop]; rfl
  have f1 : ∀ y : In (fun w' : World => w'.heap[t.p]? = some (.cells (NxC (.slice sa t.seed.length sc) (.slice la t.m lc) (t.k + t.j) c t.n true) 44 (0, 0))), y.val.cell? ⟨t.p, 1, none⟩ = some (.slice la t.m lc) := fun y => by rw [cell_of_row _ t.p 1 _ _ _ y.prop]; rfl
  have f4 : ∀ y : In (fun w' : World => w'.heap[t.p]? = some (.cells (NxC (.slice sa t.seed.length sc) (.slice la t.m lc) (t.k + t.j) c t.n true) 44 (0, 0))), y.val.cell? ⟨t.p, 4, none⟩ = some (.int .i64 (t.n : Int)) := fun y => by rw [cell_of_row _ t.p 4 _ _ _ y.prop]; rfl
  have ne : Nonempty (In (fun w' : World => w'.heap[t.p]? = some (.cells (NxC (.slice sa t.seed.length sc) (.slice la t.m lc) (t.k + t.j) c t.n true) 44 (0, 0)))) := ⟨⟨w1, hp1⟩⟩
  clear es el elf hp1 hqp HH hsv hlv
  refine wp_region_lex (fun w' : World => w'.heap[t.p]? = some (.cells (NxC (.slice sa t.seed.length sc) (.slice la t.m lc) (t.k + t.j) c t.n true) 44 (0, 0))) [8, 14] [] [3, 7, 12] (by kernel_rfl) (by kernel_rfl) (fun _ => HP.out) ?_
  simp only [List.zipIdx_cons, List.zipIdx_nil, Nat.zero_add, Nat.reduceAdd]
  refine lex_blind 3 (by kernel_rfl) ?_
  simp only [List.take_succ_cons, List.take_zero, List.drop_succ_cons, List.drop_zero, List.map_cons, List.map_nil, Act.put, List.setIfInBounds_toArray, List.set_cons_succ, List.set_cons_zero]
  repeat (go_big_quiet_step (fail))
  refine wpQuiet_nil ?_
  refine lex_reads 1 (by kernel_rfl) (by kernel_rfl) ?_
  simp only [List.take_succ_cons, List.take_zero, List.drop_succ_cons, List.drop_zero, List.map_cons, List.map_nil, Act.put, List.setIfInBounds_toArray, List.set_cons_succ, List.set_cons_zero]
  repeat (go_big_quiet_step (fail))
  refine wpQuiet_nil ?_
  refine lex_blind 3 (by kernel_rfl) ?_
  simp only [List.take_succ_cons, List.take_zero, List.drop_succ_cons, List.drop_zero, List.map_cons, List.map_nil, Act.put, List.setIfInBounds_toArray, List.set_cons_succ, List.set_cons_zero]
  repeat (go_big_quiet_step (fail))
  refine wpQuiet_nil ?_
  refine lex_reads 1 (by kernel_rfl) (by kernel_rfl) ?_
  simp only [List.take_succ_cons, List.take_zero, List.drop_succ_cons, List.drop_zero, List.map_cons, List.map_nil, Act.put, List.setIfInBounds_toArray, List.set_cons_succ, List.set_cons_zero]
  repeat (go_big_quiet_step (fail))
  refine wpQuiet_nil ?_
  refine lex_act rfl rfl (fun K hK => ?_)
  go_simp
  refine (clone_calls (.slice la t.m lc) t.lf w1.drew HLF.out HL.out).mono ?_
  rintro e w2 ⟨v2, rfl, ho2, hb2⟩
  have hp2 : w2.heap[t.p]? = some (.cells (NxC (.slice sa t.seed.length sc) (.slice la t.m lc) (t.k + t.j) c t.n true) 44 (0, 0)) := heap_below HP.out (below_drew hb2) (lt_of_heap HP.out)
  have H2 := Lib.hid (HD.out.ownCall hb2 ho2)
  obtain ⟨va, vc, rfl⟩ := own_form ho2
  clear ho2 hb2
  refine hK _ _ (ActLeft.keep rfl fun _ => hp2) ?_
  clear hK K
  refine lex_blind 3 (by kernel_rfl) ?_
  simp only [List.take_succ_cons, List.take_zero, List.drop_succ_cons, List.drop_zero, List.map_cons, List.map_nil, Act.put, List.setIfInBounds_toArray, List.set_cons_succ, List.set_cons_zero]
  repeat (go_big_quiet_step (fail))
  refine wpQuiet_nil ?_
  refine lex_reads 1 (by kernel_rfl) (by kernel_rfl) ?_
  simp only [List.take_succ_cons, List.take_zero, List.drop_succ_cons, List.drop_zero, List.map_cons, List.map_nil, Act.put, List.setIfInBounds_toArray, List.set_cons_succ, List.set_cons_zero]
  repeat (go_big_quiet_step (fail))
  refine wpQuiet_nil ?_
  refine lex_blind 1 (by kernel_rfl) ?_
  simp only [List.take_succ_cons, List.take_zero, List.drop_succ_cons, List.drop_zero, List.map_cons, List.map_nil, Act.put, List.setIfInBounds_toArray, List.set_cons_succ, List.set_cons_zero]
  repeat (go_big_quiet_step (fail))
  refine wpQuiet_nil ?_
  refine lex_act rfl rfl (fun K hK => ?_)
  go_simp
  refine hK _ _ (ActLeft.keep rfl fun _ => heap_old hp2 _) ?_
  clear hK K
  refine lex_blind 1 (by kernel_rfl) ?_
  simp only [List.take_succ_cons, List.take_zero, List.drop_succ_cons, List.drop_zero, List.map_cons, List.map_nil, Act.put, List.setIfInBounds_toArray, List.set_cons_succ, List.set_cons_zero]
  repeat (go_big_quiet_step (fail))
  refine wpQuiet_nil ?_
  refine lex_nil ?_
  clear f0 f1 f4 ne hp2
  have hr3 : (⟨w2.heap.size, .slice sa t.seed.length sc, .slice va t.m vc, t.seed, t.m, 0, 0, t.n, none, false⟩ : TP).p = w2.heap.size := rfl
  have H3 : Hid (Hb w0 ((⟨w2.heap.size, .slice sa t.seed.length sc, .slice va t.m vc, t.seed, t.m, 0, 0, t.n, none, false⟩ : TP).blocks ++ ((t.p, .cells (NxC t.sv t.lv (t.k + t.j) c t.n true) 44 (0, 0)) :: (c, .chan 4 (waits t.seed t.k t.j) false s r false) :: l))
      ((.slice va t.m vc, t.lf) :: (t.rows ++ vs)) (w2.alloc (.cells #[.slice sa t.seed.length sc, .slice va t.m vc, .int .i64 0, .chan none, .int .i64 (t.n : Int), .bool false] 44)).heap.size (w2.alloc (.cells #[.slice sa t.seed.length sc, .slice va t.m vc, .int .i64 0, .chan none, .int .i64 (t.n : Int), .bool false] 44))) := by
    refine Lib.hid ?_
    rw [TP.blocks_none rfl]
    have := H2.out
    rw [HELF.out] at this
    exact this.fresh _
  clear hr3
  rw [HELF.out]
  generalize hw3 : World.alloc w2 (.cells #[.slice sa t.seed.length sc, .slice va t.m vc, .int .i64 0, .chan none, .int .i64 (t.n : Int), .bool false] 44) = w3 at *
  clear hw3 H2
  generalize w2.heap.size = q at *
  go_upto_region 6 with (go_at_call 23; refine (begin_calls w0 _ _ ⟨q, .slice sa t.seed.length sc, .slice va t.m vc, t.seed, t.m, 0, 0, t.n, none, false⟩ (fun _ => rfl) w3 H3.out).mono ?_; rintro e w4 ⟨rfl, c2, s2, r2, H4⟩; replace H4 := Lib.hid H4)
  have H4b : Hid (Hb w0 ((q, .cells (NxC (.slice sa t.seed.length sc) (.slice va t.m vc) 0 c2 t.n true) 44 (0, 0)) :: (c2, .chan 4 #[] false s2 r2 false) :: (t.p, .cells (NxC t.sv t.lv (t.k + t.j) c t.n true) 44 (0, 0)) :: (c, .chan 4 (waits t.seed t.k t.j) false s r false) :: l) ((.slice va t.m vc, t.lf) :: (t.rows ++ vs)) w4.heap.size w4) := by
    refine Lib.hid ?_
    rw [← waits_zero t.seed 0]
    exact H4.out
  replace H4 := H4b
  clear H4b
  clear H3
  have hnf : NF t.p c (.slice sa t.seed.length sc) (.slice la t.m lc) (t.k + t.j) t.n true (waits t.seed t.k t.j) s r w4.drew := by
    rw [← HES.out, ← HEL.out]
    exact ⟨H4.out.drew.at 2 _ _ rfl, H4.out.drew.at 3 _ _ rfl⟩
  have HNF := Lib.hid hnf
  have HQ := Lib.hid (H4.out.drew.at 0 q _ rfl)
  have f3 : ∀ y : In (NF t.p c (.slice sa t.seed.length sc) (.slice la t.m lc) (t.k + t.j) t.n true (waits t.seed t.k t.j) s r), y.val.cell? ⟨t.p, 3, none⟩ = some (.chan (some c)) := fun y => y.prop.cell3
  have f2 : ∀ y : In (NF t.p c (.slice sa t.seed.length sc) (.slice la t.m lc) (t.k + t.j) t.n true (waits t.seed t.k t.j) s r), y.val.cell? ⟨t.p, 2, none⟩ = some (.int .i64 ((t.k + t.j : Nat) : Int)) := fun y => y.prop.cell2
  have fl : ∀ (y : In (NF t.p c (.slice sa t.seed.length sc) (.slice la t.m lc) (t.k + t.j) t.n true (waits t.seed t.k t.j) s r)) ty, (Builtin.len_ #[42] ty #[.chan (some c)]).run Tryd.prog y.val = .ok (.int .i64 (t.j : Int)) y.val := fun y ty => y.prop.len t.j (size_waits _ _ _) ty
  have ne : Nonempty (In (NF t.p c (.slice sa t.seed.length sc) (.slice la t.m lc) (t.k + t.j) t.n true (waits t.seed t.k t.j) s r)) := ⟨⟨w4.drew, hnf⟩⟩
  have HWK := Lib.hid (show wrap64 (t.k : Int) = (t.k : Int) by have := HK.out.k; exact IntWalk.wrap64_in _ (by omega))
  clear hnf
  refine wp_region_lex (NF t.p c (.slice sa t.seed.length sc) (.slice la t.m lc) (t.k + t.j) t.n true (waits t.seed t.k t.j) s r) [13] [13] [4, 8, 9] (by kernel_rfl) (by kernel_rfl) (fun _ => HNF.out) ?_
  simp only [List.zipIdx_cons, List.zipIdx_nil, Nat.zero_add, Nat.reduceAdd]
  refine lex_blind 4 (by kernel_rfl) ?_
  simp only [List.take_succ_cons, List.take_zero, List.drop_succ_cons, List.drop_zero, List.map_cons, List.map_nil, Act.put, List.setIfInBounds_toArray, List.set_cons_succ, List.set_cons_zero]
  repeat (go_big_quiet_step (fail))
  refine wpQuiet_nil ?_
  refine lex_reads 1 (by kernel_rfl) (by kernel_rfl) ?_
  simp only [List.take_succ_cons, List.take_zero, List.drop_succ_cons, List.drop_zero, List.map_cons, List.map_nil, Act.put, List.setIfInBounds_toArray, List.set_cons_succ, List.set_cons_zero]
  repeat (go_big_quiet_step (fail))
  refine wpQuiet_nil ?_
  refine lex_blind 3 (by kernel_rfl) ?_
  simp only [List.take_succ_cons, List.take_zero, List.drop_succ_cons, List.drop_zero, List.map_cons, List.map_nil, Act.put, List.setIfInBounds_toArray, List.set_cons_succ, List.set_cons_zero]
  repeat (go_big_quiet_step (fail))
  refine wpQuiet_nil ?_
  refine lex_reads 1 (by kernel_rfl) (by kernel_rfl) ?_
  simp only [List.take_succ_cons, List.take_zero, List.drop_succ_cons, List.drop_zero, List.map_cons, List.map_nil, Act.put, List.setIfInBounds_toArray, List.set_cons_succ, List.set_cons_zero]
  repeat (go_big_quiet_step (fail))
  refine wpQuiet_nil ?_
  refine lex_reads 1 (by kernel_rfl) (by kernel_rfl) ?_
  simp only [List.take_succ_cons, List.take_zero, List.drop_succ_cons, List.drop_zero, List.map_cons, List.map_nil, Act.put, List.setIfInBounds_toArray, List.set_cons_succ, List.set_cons_zero]
  repeat (go_big_quiet_step (fail))
  refine wpQuiet_nil ?_
  refine lex_blind 1 (by kernel_rfl) ?_
  simp only [List.take_succ_cons, List.take_zero, List.drop_succ_cons, List.drop_zero, List.map_cons, List.map_nil, Act.put, List.setIfInBounds_toArray, List.set_cons_succ, List.set_cons_zero]
  repeat (go_big_quiet_step (fail))
  refine wpQuiet_nil ?_
  refine lex_blind 2 (by kernel_rfl) ?_
  simp only [List.take_succ_cons, List.take_zero, List.drop_succ_cons, List.drop_zero, List.map_cons, List.map_nil, Act.put, List.setIfInBounds_toArray, List.set_cons_succ, List.set_cons_zero]
  repeat (go_big_quiet_step (fail))
  refine wpQuiet_nil ?_
  refine lex_act rfl rfl (fun K hK => ?_)
  refine wp_store_upd 3 (.tmp 37) (.tmp 35) rfl q 2 (.int .i64 (t.k : Int)) rfl (congrArg (Value.int .i64) HWK.out) _ _ HQ.out info_int (Nat.le_of_ble_eq_true rfl) (by simp [Value.cells, Value.oneCell']) rfl ?_
  intro w5 hu5
  rw [put_made] at hu5
  replace hu5 := Lib.hid hu5
  refine hK _ _ (ActLeft.last rfl rfl) ?_
  clear hK K
  refine lex_nil ?_
  clear fl f2 f3 ne
  go_wp2_with fail
  go_ret
  refine ⟨⟨q, .slice sa t.seed.length sc, .slice va t.m vc, t.seed, t.m, t.k, 0, t.n, some (c2, s2, r2), true⟩, ⟨t.p, .slice sa t.seed.length sc, .slice la t.m lc, t.seed, t.m, t.k, t.j, t.n, some (c, s, r), true⟩, rfl,
    ⟨HK.out.pos, Nat.zero_le _, (fun e => by cases e), HK.out.seed, HK.out.small, HK.out.m⟩, rfl, rfl, ⟨HK.out.pos, HK.out.j4, (fun e => by cases e), HK.out.seed, HK.out.small, HK.out.m⟩, rfl, rfl, rfl, ?_⟩
  rw [TP.blocks_some rfl, TP.blocks_some rfl]
  show Hb w0 ((q, .cells (NxC (.slice sa t.seed.length sc) (.slice va t.m vc) t.k c2 t.n true) 44 (0, 0)) :: (c2, .chan 4 (waits t.seed t.k 0) false s2 r2 false) :: (t.p, .cells (NxC (.slice sa t.seed.length sc) (.slice la t.m lc) (t.k + t.j) c t.n true) 44 (0, 0)) :: (c, .chan 4 (waits t.seed t.k t.j) false s r false) :: l) _ _ _
  rw [waits_zero]
  have h5 := (H4.out.drew.put 0 q rfl hu5.out).top
  rw [HES.out, HEL.out] at h5
  refine (h5.keep _ fun x hx => ?_)
  simp only [TP.rows, TP.lf, List.cons_append, List.nil_append, List.mem_cons] at hx ⊢
  rw [HES.out, HEL.out]
  rcases hx with h | h | h | h | h <;> simp [h]
end Go.Proofs.YtmkpajhfgdffpaaDoor.Sh
