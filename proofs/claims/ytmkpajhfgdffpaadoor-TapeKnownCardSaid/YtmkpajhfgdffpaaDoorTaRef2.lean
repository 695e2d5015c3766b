/- The reference's New, Draw, At, Copy. -/
import Derived.Test.YtmkpajhfgdffpaaDoorTaRef1
namespace Go.Proofs.YtmkpajhfgdffpaaDoor.Sh
set_option linter.unusedVariables false
set_option linter.unusedSimpArgs false
open Go Go.RowKit

def RC (sv : Value) (n : Nat) : Array Value := #[sv, .int .i64 (n : Int)]
theorem put_RC (sv : Value) (n n' : Nat) : put (RC sv n) 1 (Value.int .i64 (n' : Int)).cells = RC sv n' := rfl
theorem clip_calls (z y : Int) (N : Nat) (hmin : (if (65536 : Int) < z then (65536 : Int) else z) = y) (hmax : (if (0 : Int) < y then y else 0) = (N : Int)) (w : World) :
    Calls Tryd.prog 28 #[.int .i64 z, .int .i64 0, .int .i64 65536] w fun e w' => e = .returned (.int .i64 (N : Int)) ∧ w = w' := by
  go_enter Tryd.func28, Tryd.ntmps28
  go_wp2
  go_ret
  exact ⟨rfl, rfl⟩
section
variable {w0 w w' : World} {ts : List (Nat × Bs × Nat)} {l : List (Nat × Obj)} {vs : List (Value × Bs)}
theorem AllAt.blk {av : Value} {acc : Bs} (h : AllAt w0 ts l vs av acc w) {q : Nat} {o : Obj} (hq : (q, o) ∈ l) : w.heap[q]? = Option.some o := by
  cases h with
  | none h => obtain ⟨tps, _, _, h3⟩ := h; exact (h3.blocks _ (List.mem_append_right _ hq)).2.2
  | some _ _ _ _ _ h => obtain ⟨tps, _, _, h3⟩ := h; exact (h3.blocks _ (List.mem_append_right _ (List.mem_cons_of_mem _ hq))).2.2
theorem AllAt.own {av : Value} {acc : Bs} (h : AllAt w0 ts l vs av acc w) (hb : Below w.heap.size w w') {v : Value} {m : Bs} (ho : Own w.heap.size w' v m) : AllAt w0 ts l ((v, m) :: vs) av acc w' := h.map fun _ hh => hh.own hb ho
theorem Tk.fresh (h : Tk w0 ts l vs w) (o : Obj) : Tk w0 ts ((w.heap.size, o) :: l) vs (w.alloc o) := by
  obtain ⟨tps, h1, h2, h3⟩ := h
  exact ⟨tps, h1, h2, (h3.fresh o).perm List.perm_middle.symm⟩
theorem rnew_calls (h : Tk w0 ts l vs w) (v : Value) (m0 : Bs) (hv : RD w.heap.size w v m0) (hm : m0.length ≤ 65536) :
    Calls Tryd.prog 17 #[v] w fun e w' => ∃ q sv, e = .returned (.pointer (some ⟨q, 0, none⟩)) ∧ Tk w0 ts ((q, .cells (RC sv 0) 50 (0, 0)) :: l) ((sv, m0) :: vs) w' := by
  obtain ⟨a, c, rfl, hc, _⟩ := hv.form
  have hmin : (if (65536 : Int) < (m0.length : Int) then (65536 : Int) else (m0.length : Int)) = (m0.length : Int) := by rw [if_neg (by omega)]
  obtain ⟨u, hu, hur⟩ := rd_to (a := a) (n := m0.length) (c := c) .i64 m0.length (Nat.le_refl _) hc
  have hm2 := hur _ _ _ hv
  rw [List.take_of_length_le (Nat.le_refl _)] at hm2
  have HM := Lib.hid hm2
  have HL := Lib.hid (show m0.length ≤ 140737488355328 by omega)
  have H0 := Lib.hid h
  clear h hv hm2 hur
  go_enter Tryd.func17, Tryd.ntmps17
  go_wp2_with (go_at_call 16; refine (copyBytes_calls u m0 w HM.out HL.out).mono ?_; rintro e w1 ⟨v', rfl, ho, hb⟩; have H1 := Lib.hid (H0.out.own hb ho); obtain ⟨va, vc, rfl⟩ := own_form ho; clear ho hb)
  go_ret
  exact ⟨_, _, rfl, H1.out.fresh _⟩
theorem rat_calls (q n : Nat) (sv : Value) (hq : w.heap[q]? = some (.cells (RC sv n) 50 (0, 0))) :
    Calls Tryd.prog 19 #[.pointer (some ⟨q, 0, none⟩)] w fun e w' => e = .returned (.int .i64 (n : Int)) ∧ w = w' := by
  have c1 : w.cell? ⟨q, 1, none⟩ = some (.int .i64 (n : Int)) := by rw [cell_of_row _ _ _ _ _ _ hq]; rfl
  clear hq
  go_enter Tryd.func19, Tryd.ntmps19
  go_wp2
  go_ret
  exact ⟨rfl, rfl⟩
set_option maxRecDepth 4000 in
set_option maxHeartbeats 1000000 in
theorem rcopy_calls (q n : Nat) (sv : Value) (seed : Bs) (hsl : seed.length ≤ 65536) (h : Tk w0 ts ((q, .cells (RC sv n) 50 (0, 0)) :: l) vs w) (j : Nat) (hj : vs[j]? = some (sv, seed)) :
    Calls Tryd.prog 21 #[.pointer (some ⟨q, 0, none⟩)] w fun e w' => ∃ q2 sv2, e = .returned (.pointer (some ⟨q2, 0, none⟩)) ∧ Tk w0 ts ((q2, .cells (RC sv2 n) 50 (0, 0)) :: (q, .cells (RC sv n) 50 (0, 0)) :: l) ((sv2, seed) :: vs) w' := by
  obtain ⟨sa, sc, rfl, _, _⟩ := (h.rd j _ _ hj).form
  have HP := Lib.hid h.head
  have H0 := Lib.hid h
  have HJ := Lib.hid hj
  have HSL := Lib.hid (show seed.length ≤ 140737488355328 by omega)
  have f0 : ∀ y : In (fun w' : World => w'.heap[q]? = some (.cells (RC (.slice sa seed.length sc) n) 50 (0, 0))), y.val.cell? ⟨q, 0, none⟩ = some (.slice sa seed.length sc) := fun y => by rw [cell_of_row _ q 0 _ _ _ y.prop]; rfl
  have f1 : ∀ y : In (fun w' : World => w'.heap[q]? = some (.cells (RC (.slice sa seed.length sc) n) 50 (0, 0))), y.val.cell? ⟨q, 1, none⟩ = some (.int .i64 (n : Int)) := fun y => by rw [cell_of_row _ q 1 _ _ _ y.prop]; rfl
  have ne : Nonempty (In (fun w' : World => w'.heap[q]? = some (.cells (RC (.slice sa seed.length sc) n) 50 (0, 0)))) := ⟨⟨w, h.head⟩⟩
  clear h hj
  go_enter Tryd.func21, Tryd.ntmps21
  go_upto_region 1 with fail
  refine wp_region_lex (fun w' : World => w'.heap[q]? = some (.cells (RC (.slice sa seed.length sc) n) 50 (0, 0))) [4, 10] [] [3, 8] (by kernel_rfl) (by kernel_rfl) (fun _ => HP.out) ?_
  simp only [List.zipIdx_cons, List.zipIdx_nil, Nat.zero_add, Nat.reduceAdd]
  refine lex_blind 3 (by kernel_rfl) ?_
  simp only [List.take_succ_cons, List.take_zero, List.drop_succ_cons, List.drop_zero, List.map_cons, List.map_nil, Act.put, List.setIfInBounds_toArray, List.set_cons_succ, List.set_cons_zero]
  repeat (go_big_quiet_step (fail))
  refine wpQuiet_nil ?_
  refine lex_reads 1 (by kernel_rfl) (by kernel_rfl) ?_
  simp only [List.take_succ_cons, List.take_zero, List.drop_succ_cons, List.drop_zero, List.map_cons, List.map_nil, Act.put, List.setIfInBounds_toArray, List.set_cons_succ, List.set_cons_zero]
  repeat (go_big_quiet_step (fail))
  refine wpQuiet_nil ?_
  refine lex_act rfl rfl (fun K hK => ?_)
  go_simp
  refine (copyBytes_calls (.slice sa seed.length sc) seed w.drew (H0.out.drew.rd j _ _ HJ.out) HSL.out).mono ?_
  rintro e w2 ⟨v2, rfl, ho2, hb2⟩
  have hp2 : w2.heap[q]? = some (.cells (RC (.slice sa seed.length sc) n) 50 (0, 0)) := heap_below HP.out (below_drew hb2) (lt_of_heap HP.out)
  have H2 := Lib.hid (H0.out.drew.own hb2 ho2)
  obtain ⟨va, vc, rfl⟩ := own_form ho2
  clear ho2 hb2
  refine hK _ _ (ActLeft.keep rfl fun _ => hp2) ?_
  clear hK K
  refine lex_blind 3 (by kernel_rfl) ?_
  simp only [List.take_succ_cons, List.take_zero, List.drop_succ_cons, List.drop_zero, List.map_cons, List.map_nil, Act.put, List.setIfInBounds_toArray, List.set_cons_succ, List.set_cons_zero]
  repeat (go_big_quiet_step (fail))
  refine wpQuiet_nil ?_
  refine lex_reads 1 (by kernel_rfl) (by kernel_rfl) ?_
  simp only [List.take_succ_cons, List.take_zero, List.drop_succ_cons, List.drop_zero, List.map_cons, List.map_nil, Act.put, List.setIfInBounds_toArray, List.set_cons_succ, List.set_cons_zero]
  repeat (go_big_quiet_step (fail))
  refine wpQuiet_nil ?_
  refine lex_blind 1 (by kernel_rfl) ?_
  simp only [List.take_succ_cons, List.take_zero, List.drop_succ_cons, List.drop_zero, List.map_cons, List.map_nil, Act.put, List.setIfInBounds_toArray, List.set_cons_succ, List.set_cons_zero]
  repeat (go_big_quiet_step (fail))
  refine wpQuiet_nil ?_
  refine lex_act rfl rfl (fun K hK => ?_)
  go_simp
  refine hK _ _ (ActLeft.keep rfl fun _ => heap_old hp2 _) ?_
  clear hK K
  refine lex_blind 1 (by kernel_rfl) ?_
  simp only [List.take_succ_cons, List.take_zero, List.drop_succ_cons, List.drop_zero, List.map_cons, List.map_nil, Act.put, List.setIfInBounds_toArray, List.set_cons_succ, List.set_cons_zero]
  repeat (go_big_quiet_step (fail))
  refine wpQuiet_nil ?_
  refine lex_nil ?_
  clear f0 f1 ne hp2
  go_wp2_with fail
  go_ret
  exact ⟨_, _, rfl, H2.out.fresh _⟩
set_option maxRecDepth 4000 in
set_option maxHeartbeats 2000000 in
theorem rdraw_calls (q n : Nat) (sv : Value) (seed : Bs) (hsl : seed.length ≤ 65536) (h : Tk w0 ts ((q, .cells (RC sv n) 50 (0, 0)) :: l) vs w) (j : Nat) (hj : vs[j]? = some (sv, seed)) (z y : Int) (N : Nat) (hmin : (if (65536 : Int) < z then (65536 : Int) else z) = y)
    (hmax : (if (0 : Int) < y then y else 0) = (N : Int)) (hN : N ≤ 65536) (hsmall : n + N ≤ 1000000000) :
    Calls Tryd.prog 18 #[.pointer (some ⟨q, 0, none⟩), .int .i64 z] w fun e w' => ∃ v, e = .returned v ∧ Tk w0 ts ((q, .cells (RC sv (n + N)) 50 (0, 0)) :: l) ((v, draw seed n N) :: vs) w' := by
  have HN := Lib.hid hN
  have HS := Lib.hid hsmall
  have HSL := Lib.hid hsl
  have HJ := Lib.hid hj
  have HCL := Lib.hid (clip_calls z y N hmin hmax w)
  have HA0 := Lib.hid (AllAt.none (h.rowF (v := .slice none 0 0) (m := []) fun tps hh => hh.rowF RF.nil))
  have hn0 : (0 : Int) ≤ (n : Int) := by omega
  have hn1 : (n : Int) + (N : Int) ≤ 1000000000 := by omega
  clear hmin hmax hN hsmall hsl hj h
  go_enter Tryd.func18, Tryd.ntmps18
  go_wp2_with (go_at_call 28; refine HCL.out.mono ?_; rintro e w1 ⟨rfl, rfl⟩)
  clear HCL
  go_loopg [5, 6, 7, 8] N (fun gk ov lvv bkv iv wr => ∃ i last bk, i + gk = N ∧ iv = .int .i64 ((i : Nat) : Int) ∧ bkv = .int .i64 bk ∧ Cached seed last bk ∧ AllAt w0 ts ((q, .cells (RC sv n) 50 (0, 0)) :: l) ((lvv, last) :: vs) ov (draw seed n i) wr)
  case atStart => exact ⟨0, [], 0, by omega, rfl, rfl, .inl rfl, HA0.out⟩
  case round =>
    obtain ⟨i, last, bk, hi, rfl, rfl, hc, hA⟩ := hrel
    have HA := Lib.hid hA
    have HC := Lib.hid hc
    obtain ⟨oa, oc, rfl⟩ := hA.form
    rw [length_draw] at HA ⊢
    have hq := hA.blk (q := q) List.mem_cons_self
    have c1 : wr.cell? ⟨q, 1, none⟩ = some (.int .i64 (n : Int)) := by rw [cell_of_row _ _ _ _ _ _ hq]; rfl
    have HQ := Lib.hid hq
    clear hA hc HA0 hq
    by_cases hlt : i < N
    · have HI := Lib.hid (show n + i ≤ 2000000000 by have := HS.out; omega)
      have HL := Lib.hid (show (draw seed n i).length + [tb seed (n + i)].length ≤ 1000000 by have := HN.out; rw [length_draw, List.length_cons, List.length_nil]; omega)
      have hcat : draw seed n i ++ [tb seed (n + i)] = draw seed n (i + 1) := by rw [draw_add]; rfl
      have HCAT := Lib.hid hcat
      clear hcat
      go_wp2_with (first
        | (at_builtin; refine wpList_all_append rfl (.tmp 33) (.tmp 35) rfl HA3b.out rfl rfl (x := [tb seed (n + i)]) ((RD.mono (show RD (w3.heap.size + 1) _ _ _ from rv_byte w3 (tb seed (n + i))) (by rw [World.size_alloc]; omega))) HL.out ?_; intro v5 w5 h5; rw [HCAT.out] at h5; have HA5 := Lib.hid h5; clear h5)
        | (go_at_call 29; refine (byteAt_calls q n sv seed (n + i) HI.out u6 last bk wr HQ.out (HA.out.rd (j + 1) _ _ HJ.out) HSL.out (HA.out.rd 0 _ _ rfl) HC.out).mono ?_; rintro e w3 ⟨lv3, last3, bk3, rfl, hb3, ho3, hc3⟩; have HA3 : Hid (AllAt w0 ts ((q, .cells (RC sv n) 50 (0, 0)) :: l) ((lv3, last3) :: vs) (.slice oa i oc) (draw seed n i) w3) := Lib.hid (by
            rcases ho3 with ⟨rfl, rfl, rfl⟩ | ho3
            · exact HA.out.call hb3
            · exact (HA.out.own hb3 ho3).keep _ (fun x hx => by rcases List.mem_cons.1 hx with rfl | hx; simp; simp [hx])); have HA3b := Lib.hid (HA3.out.call ((Below.refl _ _).alloc (Nat.le_refl _) (.cells #[bv (tb seed (n + i))] 5))); have HC3 := Lib.hid hc3; clear hb3 ho3 hc3))
      go_roundg (gk - 1)
      case measure => omega
      case rel => exact ⟨i + 1, last3, bk3, by omega, by go_num, rfl, HC3.out, HA5.out⟩
    · obtain rfl : i = N := by omega
      have HR := Lib.hid HA.out.row
      go_wp2_with (refine wpList_store_upd rfl 3 (.tmp 47) (.tmp 45) rfl q 1 (.int .i64 ((n + i : Nat) : Int)) rfl rfl _ _ HQ.out info_int (Nat.le_of_ble_eq_true rfl) (by simp [Value.cells, Value.oneCell']) rfl ?_; intro w4 hu4; rw [put_RC] at hu4; replace hu4 := Lib.hid hu4)
      go_ret
      refine ⟨_, rfl, (HR.out.putHead hu4.out).keep _ fun x hx => ?_⟩
      rcases List.mem_cons.1 hx with rfl | hx
      · simp
      · simp [hx]
end
end Go.Proofs.YtmkpajhfgdffpaaDoor.Sh
