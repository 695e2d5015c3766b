/- The contract of a tape's block. -/
import Derived.Test.YtmkpajhfgdffpaaDoorTaSpec
namespace Go.Proofs.YtmkpajhfgdffpaaDoor.Sh
set_option linter.unusedVariables false
set_option linter.unusedSimpArgs false
open Go Go.RowKit

theorem lt64 (n : Nat) (hn : n ≤ 9007199254740991) : n < 2 ^ (8 * 8) := Nat.lt_of_le_of_lt hn (by decide)
theorem num8_calls (w0 : World) (p : Nat) (c : Bs) (n : Nat) (hn : n ≤ 9007199254740991) (w : World) (ht : Tab w0) (h : WrAt w0 p c w) (hlen : c.length + 8 ≤ 1000000) :
    Calls Tryd.prog 37 #[.pointer (some ⟨p, 0, none⟩), .int .i64 8, .int .i64 (n : Int)] w fun e w' => e = .returned (.pointer (some ⟨p, 0, none⟩)) ∧ WrAt w0 p (c ++ be 8 n) w' :=
  num_calls w0 p c 8 n (.inr (.inr (.inr rfl))) (lt64 n hn) hn w ht h hlen
def WB (w : World) : World := w.alloc (.cells z32 32)
theorem WB_below (w : World) : Below w.heap.size w (WB w) := (Below.refl _ _).alloc (Nat.le_refl _) _
theorem WB_size (w : World) : (WB w).heap.size = w.heap.size + 1 := by simp [WB]
theorem WB_new (w : World) : (WB w).heap[w.heap.size]? = some (.cells z32 32 (0, 0)) := heap_new w _
theorem put_blk (l : Bs) (h : l.length = 32) : put z32 0 (Value.agg (A32 l)).cells = A32 l := put_whole _ _ (by show 32 = (A32 l).size; rw [size_A32, h])
theorem info_A32k (l : Bs) (h : l.length = 32) : (Tryd.prog.info? 32).map (·.size) = some (A32 l).size := by rw [size_A32, h]; exact info_a32
theorem le_A32k (l : Bs) (h : l.length = 32) : 0 + (Value.agg (A32 l)).cells.size ≤ z32.size := by
  show 0 + (A32 l).size ≤ 32
  rw [size_A32, h]; exact Nat.le_refl _

set_option maxRecDepth 4000 in
set_option maxHeartbeats 1000000 in
theorem tblock_calls (p : Nat) (C : Array Value) (sv : Value) (seed : Bs) (n : Nat) (hn : n ≤ 9007199254740991) (w : World) (ht : Tab w) (hp : w.heap[p]? = some (.cells C 44 (0, 0))) (h0 : C[0]? = some sv) (hs : RD w.heap.size w sv seed) (hlen : seed.length ≤ 65536) :
    Calls Tryd.prog 30 #[.pointer (some ⟨p, 0, none⟩), .int .i64 (n : Int)] w fun e w' => e = .returned (.agg (A32 (blk seed n))) ∧ Below w.heap.size w w' := by
  have HT := Lib.hid (ht.alloc (.cells z32 32) : Tab (WB w))
  have HL0 := Lib.hid (LI.start HT.out)
  have HP := Lib.hid (show (WB w).heap[p]? = some (.cells C 44 (0, 0)) from heap_old hp _)
  have HS := Lib.hid (show RD (WB w).heap.size (WB w) sv seed from (hs.below (WB_below w)).mono (WB_below w).size)
  have HN := Lib.hid hn
  have hl1 : ([] : Bs).length + seed.length ≤ 1000000 := by have : ([] : Bs).length = 0 := rfl; omega
  have hl2 : seed.length + 8 ≤ 1000000 := by omega
  have hl3 : (seed ++ be 8 n).length ≤ 1000000 := by rw [List.length_append, length_be]; omega
  have hl4 : (seed ++ be 8 n).length ≤ 549755813888 := by rw [List.length_append, length_be]; omega
  have HL1 := Lib.hid hl1
  have HL2 := Lib.hid hl2
  have HL3 := Lib.hid hl3
  have HL4 := Lib.hid hl4
  have hB := Lib.hid (show sha (seed ++ be 8 n) = blk seed n from rfl)
  have hBL := Lib.hid (length_blk seed n)
  generalize hbk : blk seed n = K0 at *
  clear hbk
  have f0 : ∀ y : In (fun w' : World => w'.heap[p]? = some (.cells C 44 (0, 0))), y.val.cell? ⟨p, 0, none⟩ = some sv := fun y => by rw [cell_of_row _ p 0 _ _ _ y.prop]; exact h0
  have ne : Nonempty (In (fun w' : World => w'.heap[p]? = some (.cells C 44 (0, 0)))) := ⟨⟨w, hp⟩⟩
  clear hl1 hl2 hl3 hl4 hn ht hp h0 hs hlen
  go_enter Tryd.func30, Tryd.ntmps30
  go_upto_region 1 with fail
  refine wp_region_lex (fun w' : World => w'.heap[p]? = some (.cells C 44 (0, 0))) [0, 5, 7, 8] [] [4] (by kernel_rfl) (by kernel_rfl) (fun _ => HP.out) ?_
  simp only [List.zipIdx_cons, List.zipIdx_nil, Nat.zero_add, Nat.reduceAdd]
  refine lex_act rfl rfl (fun K hK => ?_)
  go_simp
  refine (nwrite_calls (WB w) (WB w).drew HL0.out.drew).mono ?_
  rintro e w1 ⟨q, rfl, hw1, hb1⟩
  have hp1 : w1.heap[p]? = some (.cells C 44 (0, 0)) := heap_below HP.out (below_drew hb1) (lt_of_heap HP.out)
  replace hw1 := Lib.hid hw1
  clear hb1
  refine hK _ _ (ActLeft.keep rfl fun _ => hp1) ?_
  clear hK K
  refine lex_blind 3 (by kernel_rfl) ?_
  simp only [List.take_succ_cons, List.take_zero, List.drop_succ_cons, List.drop_zero, List.map_cons, List.map_nil, Act.put, List.setIfInBounds_toArray, List.set_cons_succ, List.set_cons_zero]
  repeat (go_big_quiet_step (fail))
  refine wpQuiet_nil ?_
  refine lex_reads 1 (by kernel_rfl) (by kernel_rfl) ?_
  simp only [List.take_succ_cons, List.take_zero, List.drop_succ_cons, List.drop_zero, List.map_cons, List.map_nil, Act.put, List.setIfInBounds_toArray, List.set_cons_succ, List.set_cons_zero]
  repeat (go_big_quiet_step (fail))
  refine wpQuiet_nil ?_
  refine lex_act rfl rfl (fun K hK => ?_)
  go_simp
  refine (raw_calls (WB w) q [] seed _ w1 HT.out hw1.out (hw1.out.li.rd HS.out) HL1.out).mono ?_
  rintro e w2 ⟨rfl, hw2⟩
  rw [List.nil_append] at hw2
  have hp2 : w2.heap[p]? = some (.cells C 44 (0, 0)) := heap_below HP.out hw2.li.bel (lt_of_heap HP.out)
  replace hw2 := Lib.hid hw2
  refine hK _ _ (ActLeft.keep rfl fun _ => hp2) ?_
  clear hK K
  refine lex_blind 1 (by kernel_rfl) ?_
  simp only [List.take_succ_cons, List.take_zero, List.drop_succ_cons, List.drop_zero, List.map_cons, List.map_nil, Act.put, List.setIfInBounds_toArray, List.set_cons_succ, List.set_cons_zero]
  repeat (go_big_quiet_step (fail))
  refine wpQuiet_nil ?_
  refine lex_act rfl rfl (fun K hK => ?_)
  go_simp
  refine (num8_calls (WB w) q seed n HN.out w2 HT.out hw2.out HL2.out).mono ?_
  rintro e w3 ⟨rfl, hw3⟩
  have hp3 : w3.heap[p]? = some (.cells C 44 (0, 0)) := heap_below HP.out hw3.li.bel (lt_of_heap HP.out)
  replace hw3 := Lib.hid hw3
  refine hK _ _ (ActLeft.keep rfl fun _ => hp3) ?_
  clear hK K
  refine lex_act rfl rfl (fun K hK => ?_)
  go_simp
  refine (bytes_calls (WB w) q (seed ++ be 8 n) w3 hw3.out HL3.out).mono ?_
  rintro e w4 ⟨v4, rfl, ho4, hb4⟩
  have hli4 := Lib.hid (hw3.out.li.call hb4)
  have hr4 := Lib.hid ho4.rd
  have hp4 : w4.heap[p]? = some (.cells C 44 (0, 0)) := heap_below HP.out hli4.out.bel (lt_of_heap HP.out)
  clear ho4 hb4
  refine hK _ _ (ActLeft.keep rfl fun _ => hp4) ?_
  clear hK K
  refine lex_blind 5 (by kernel_rfl) ?_
  simp only [List.take_succ_cons, List.take_zero, List.drop_succ_cons, List.drop_zero, List.map_cons, List.map_nil, Act.put, List.setIfInBounds_toArray, List.set_cons_succ, List.set_cons_zero]
  repeat (go_big_quiet_step (fail))
  refine wpQuiet_nil ?_
  refine lex_nil ?_
  clear f0 ne hp1 hp2 hp3 hp4
  go_wp2_with (first
    | (go_at_call 15; refine (shaSum_calls v4 _ w4 hli4.out.tab hr4.out HL4.out).mono ?_; rintro e w5 ⟨rfl, hb5⟩; rw [hB.out]; have hli5 := Lib.hid (hli4.out.call hb5); clear hb5)
    | (refine wpList_store_upd rfl 32 (.tmp 4) (.tmp 20) rfl w.heap.size 0 (.agg (A32 K0)) rfl rfl _ z32 (heap_below (WB_new w) hli5.out.bel (by rw [WB_size]; omega)) (info_A32k K0 hBL.out) (le_A32k K0 hBL.out) (one_A32 _) rfl ?_; intro w6 hu6; rw [put_blk K0 hBL.out] at hu6; replace hu6 := Lib.hid hu6))
  refine bodyPost_ret (ret_row (P := Tryd.prog) rfl _ w.heap.size _ (A32 K0) _ _ rfl hu6.out.here Tryd.underlying32 rfl (info_A32k K0 hBL.out)) rfl ⟨rfl, ?_⟩
  exact ((WB_below w).trans (hli5.out.bel.mono (by rw [WB_size]; omega))).trans (hu6.out.below (Nat.le_refl _))
end Go.Proofs.YtmkpajhfgdffpaaDoor.Sh
