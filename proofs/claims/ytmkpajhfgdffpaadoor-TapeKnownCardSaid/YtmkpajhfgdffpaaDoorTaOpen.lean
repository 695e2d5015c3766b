/- The contracts of a tape's begin, New, At. -/
import Derived.Test.YtmkpajhfgdffpaaDoorTaNext
import Derived.Test.YtmkpajhfgdffpaaDoorShRF
namespace Go.Proofs.YtmkpajhfgdffpaaDoor.Sh
set_option linter.unusedVariables false
set_option linter.unusedSimpArgs false
open Go Go.Conc Go.RowKit

theorem TP.blocks_some {t : TP} {c s r : Nat} (h : t.ch = some (c, s, r)) : t.blocks = [(t.p, .cells (NxC t.sv t.lv (t.k + t.j) c t.n t.b) 44 (0, 0)), (c, .chan 4 (waits t.seed t.k t.j) false s r false)] := by
  simp [TP.blocks, TP.chan, TP.cells, NxC, h]
theorem TP.blocks_none {t : TP} (h : t.ch = none) : t.blocks = [(t.p, .cells #[t.sv, t.lv, .int .i64 ((t.k + t.j : Nat) : Int), .chan none, .int .i64 (t.n : Int), .bool t.b] 44 (0, 0))] := by
  simp [TP.blocks, TP.chan, TP.cells, h]
theorem mkChan (w : World) : (Instr.makeChan 42 (.int .i64 4)).run Tryd.prog w = .ok (.chan (some w.heap.size)) (w.alloc (.chan 4 #[] false 0 0 false)) := by
  have h : (Tryd.prog.info? 32).map (·.bytes) = some 32 := by kernel_rfl
  obtain ⟨i, hi, hb⟩ := Option.map_eq_some_iff.1 h
  simpa using run_makeChan (P := Tryd.prog) (w := w) Tryd.underlying42 hi .i64 4 (by omega) (by rw [hb]; omega)
theorem run_chan_some (c : Nat) (w : World) : (binOp .eql 42 (.chan (some c)) (.chan none)).run Tryd.prog w = .ok (.bool false) w := by kernel_rfl
theorem run_chan_none (w : World) : (binOp .eql 42 (.chan none) (.chan none)).run Tryd.prog w = .ok (.bool true) w := by kernel_rfl
theorem info_bool : (Tryd.prog.info? 4).map (·.size) = some 1 := by kernel_rfl
theorem info_chan : (Tryd.prog.info? 42).map (·.size) = some 1 := by kernel_rfl
def BgPost (w0 : World) (l : List (Nat × Obj)) (vs : List (Value × Bs)) (t : TP) (e : Ending) (w : World) : Prop := e = .returned (.tuple #[]) ∧ ∃ c s r,
  Hb w0 ((t.p, .cells (NxC t.sv t.lv (t.k + t.j) c t.n true) 44 (0, 0)) :: (c, .chan 4 (waits t.seed t.k t.j) false s r false) :: l) vs w.heap.size w
theorem put_begun (sv lv : Value) (made c n : Nat) (b : Bool) : put (NxC sv lv made c n b) 5 (Value.bool true).cells = NxC sv lv made c n true := rfl
theorem put_chan (sv lv : Value) (made n : Nat) (b : Bool) (c : Nat) : put #[sv, lv, .int .i64 (made : Int), .chan none, .int .i64 (n : Int), .bool b] 3 (Value.chan (some c)).cells = NxC sv lv made c n b := rfl

set_option maxHeartbeats 400000 in
theorem begin_calls (w0 : World) (l : List (Nat × Obj)) (vs : List (Value × Bs)) (t : TP) (hok : t.ch = none → t.j = 0) (w : World) (H : Hb w0 (t.blocks ++ l) vs w.heap.size w) :
    Calls Tryd.prog 23 #[.pointer (some ⟨t.p, 0, none⟩)] w (BgPost w0 l vs t) := by
  cases hch : t.ch with
  | none =>
    have hj := hok hch
    rw [TP.blocks_none hch] at H
    have HH := Lib.hid H
    have hp := Lib.hid (H.at 0 t.p _ rfl)
    have c3 : w.cell? ⟨t.p, 3, none⟩ = some (.chan none) := by rw [cell_of_row _ t.p 3 _ _ _ hp.out]; rfl
    have hw0 : waits t.seed t.k t.j = #[] := by rw [hj]; rfl
    have HW0 := Lib.hid hw0
    have hmc := mkChan w
    have hq := run_chan_none w
    clear H hok hj hch hw0
    go_enter Tryd.func23, Tryd.ntmps23
    go_wp2_with (first
      | (refine wpList_store_upd rfl 42 (.tmp 10) (.tmp 8) rfl t.p 3 (.chan (some w.heap.size)) rfl rfl _ _ (heap_old hp.out _) info_chan (Nat.le_of_ble_eq_true rfl) (by simp [Value.cells, Value.oneCell']) rfl ?_; intro w2 hu2; rw [put_chan] at hu2; replace hu2 := Lib.hid hu2)
      | (refine wpList_store_upd rfl 4 (.tmp 13) _ rfl t.p 5 (.bool true) rfl rfl _ _ hu2.out.here info_bool (Nat.le_of_ble_eq_true rfl) (by simp [Value.cells, Value.oneCell']) rfl ?_; intro w3 hu3; rw [put_begun] at hu3; replace hu3 := Lib.hid hu3))
    refine bodyPost_end (by simp [results, Tryd.results23, go_sem]) rfl ⟨rfl, w.heap.size, 0, 0, ?_⟩
    rw [HW0.out]
    have h1 := HH.out.fresh (.chan 4 #[] false 0 0 false)
    have h2 := h1.put 1 t.p rfl hu2.out
    have h3 := (h2.put 1 t.p rfl hu3.out).top
    exact h3.perm (List.Perm.swap _ _ _)
  | some x =>
    obtain ⟨c, s, r⟩ := x
    rw [TP.blocks_some hch] at H
    have HH := Lib.hid H
    have hp := Lib.hid (H.at 0 t.p _ rfl)
    have c3 : w.cell? ⟨t.p, 3, none⟩ = some (.chan (some c)) := by rw [cell_of_row _ t.p 3 _ _ _ hp.out]; rfl
    have hq := run_chan_some c w
    clear H hok hch
    go_enter Tryd.func23, Tryd.ntmps23
    go_wp2_with (refine wpList_store_upd rfl 4 (.tmp 13) _ rfl t.p 5 (.bool true) rfl rfl _ _ hp.out info_bool (Nat.le_of_ble_eq_true rfl) (by simp [Value.cells, Value.oneCell']) rfl ?_; intro w3 hu3; rw [put_begun] at hu3; replace hu3 := Lib.hid hu3)
    refine bodyPost_end (by simp [results, Tryd.results23, go_sem]) rfl ⟨rfl, c, s, r, ?_⟩
    exact (HH.out.put 0 t.p rfl hu3.out).top
theorem at_calls (t : TP) (w : World) (hp : w.heap[t.p]? = some (.cells t.cells 44 (0, 0))) :
    Calls Tryd.prog 13 #[.pointer (some ⟨t.p, 0, none⟩)] w fun e w' => e = .returned (.int .i64 (t.n : Int)) ∧ w = w' := by
  have c4 : w.cell? ⟨t.p, 4, none⟩ = some (.int .i64 (t.n : Int)) := by rw [cell_of_row _ t.p 4 _ _ _ hp]; rfl
  clear hp
  go_enter Tryd.func13, Tryd.ntmps13
  go_wp2
  go_ret
  exact ⟨rfl, rfl⟩
/-- A new tape. -/
def NewPost (w0 : World) (l : List (Nat × Obj)) (vs : List (Value × Bs)) (m : Bs) (e : Ending) (w : World) : Prop := ∃ t : TP, e = .returned (.pointer (some ⟨t.p, 0, none⟩)) ∧ t.ok ∧ t.seed = m.take 65536 ∧ t.n = 0 ∧ Hb w0 (t.blocks ++ l) (t.rows ++ vs) w.heap.size w
set_option maxHeartbeats 400000 in
theorem tnew_calls (w0 : World) (l : List (Nat × Obj)) (vs : List (Value × Bs)) (v : Value) (m0 : Bs) (w : World) (H : Hb w0 l vs w.heap.size w) (hv : RD w.heap.size w v m0) :
    Calls Tryd.prog 10 #[v] w (NewPost w0 l vs m0) := by
  obtain ⟨a, c, rfl, hc, hcm⟩ := hv.form
  obtain ⟨k, hk, hk2, hmin0⟩ := min_to m0.length 65536
  have hmin : (if (65536 : Int) < (m0.length : Int) then (65536 : Int) else (m0.length : Int)) = (k : Int) := hmin0
  have hkk : m0.take k = m0.take 65536 := by
    rcases Nat.lt_or_ge 65536 m0.length with h | h
    · rw [if_pos (by omega)] at hmin
      obtain rfl : k = 65536 := by omega
      rfl
    · rw [if_neg (by omega)] at hmin
      obtain rfl : k = m0.length := by omega
      rw [List.take_of_length_le (Nat.le_refl _), List.take_of_length_le h]
  obtain ⟨u, hu, hur⟩ := rd_to (a := a) (n := m0.length) (c := c) .i64 k hk hc
  have hm := hur _ _ _ hv
  rw [hkk] at hm
  have hml : (m0.take 65536).length = k := by rw [← hkk, List.length_take]; omega
  generalize he65 : m0.take 65536 = m at hm hml
  have HE := Lib.hid he65
  clear he65
  have HM := Lib.hid hm
  have hl1 : m.length ≤ 140737488355328 := by omega
  have HL1 := Lib.hid hl1
  have HL2 := Lib.hid (show m.length ≤ 65536 by omega)
  have HH := Lib.hid H
  clear hmin0 hur hv hm H hkk hk2 hl1 hml
  go_enter Tryd.func10, Tryd.ntmps10
  go_upto_region 2 with (go_at_call 22; refine (clone_calls u m w HM.out HL1.out).mono ?_; rintro e w1 ⟨v', rfl, ho, hb⟩; have H1 := Lib.hid (HH.out.ownCall hb ho); obtain ⟨va, vc, rfl⟩ := own_form ho; clear ho hb)
  go_wp2_with fail
  refine bodyPost_ret (v := .pointer (some ⟨w1.heap.size, 0, none⟩)) (by simp [results, Tryd.results10, go_sem]) rfl ⟨⟨w1.heap.size, (.slice va m.length vc), (.slice va m.length vc), m, m.length, 0, 0, 0, none, true⟩, rfl, ⟨by simp, by simp, fun _ => rfl, HL2.out, by simp, HL2.out⟩, HE.out.symm, rfl, ?_⟩
  rw [TP.blocks_none rfl]
  have h2 := (H1.out.keep ((.slice va m.length vc, m) :: (.slice va m.length vc, m) :: vs) (fun x hx => by
    rcases List.mem_cons.1 hx with rfl | hx
    · exact List.mem_cons_self
    · exact hx)).fresh (.cells #[.slice va m.length vc, .slice va m.length vc, .int .i64 0, .chan none, .int .i64 0, .bool true] 44)
  have hr : (⟨w1.heap.size, (.slice va m.length vc), (.slice va m.length vc), m, m.length, 0, 0, 0, none, true⟩ : TP).rows = [(.slice va m.length vc, m), (.slice va m.length vc, m)] := by simp [TP.rows, TP.lf, draw_seed]
  rw [hr]
  exact h2
end Go.Proofs.YtmkpajhfgdffpaaDoor.Sh
