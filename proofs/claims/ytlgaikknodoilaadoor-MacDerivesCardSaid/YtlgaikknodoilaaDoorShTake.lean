/- The contract of sha.take. -/
import Derived.Test.YtlgaikknodoilaaDoorShSmall
import Derived.Test.YtlgaikknodoilaaDoorShTail
import Derived.Deep.LoopGhost
namespace Go.Proofs.YtlgaikknodoilaaDoor.Sh
set_option linter.unusedVariables false
set_option linter.unusedSimpArgs false
open Go Go.RowKit

/-- The sixty-four words' row behind n rounds. -/
def W64 (b : Bs) (n : Nat) : Array Value := ((sched b n ++ List.replicate (64 - n) 0).map wv).toArray
theorem size_W64 (b : Bs) (n : Nat) (h : n ≤ 64) : (W64 b n).size = 64 := by simp [W64, length_sched]; omega
def z64 : Array Value := #[.int .u32 0, .int .u32 0, .int .u32 0, .int .u32 0, .int .u32 0, .int .u32 0, .int .u32 0, .int .u32 0, .int .u32 0, .int .u32 0, .int .u32 0, .int .u32 0, .int .u32 0, .int .u32 0, .int .u32 0, .int .u32 0, .int .u32 0, .int .u32 0, .int .u32 0, .int .u32 0, .int .u32 0, .int .u32 0, .int .u32 0, .int .u32 0, .int .u32 0, .int .u32 0, .int .u32 0, .int .u32 0, .int .u32 0, .int .u32 0, .int .u32 0, .int .u32 0, .int .u32 0, .int .u32 0, .int .u32 0, .int .u32 0, .int .u32 0, .int .u32 0, .int .u32 0, .int .u32 0, .int .u32 0, .int .u32 0, .int .u32 0, .int .u32 0, .int .u32 0, .int .u32 0, .int .u32 0, .int .u32 0, .int .u32 0, .int .u32 0, .int .u32 0, .int .u32 0, .int .u32 0, .int .u32 0, .int .u32 0, .int .u32 0, .int .u32 0, .int .u32 0, .int .u32 0, .int .u32 0, .int .u32 0, .int .u32 0, .int .u32 0, .int .u32 0]
theorem z64_eq (b : Bs) : z64 = W64 b 0 := rfl

structure TakeAt (w : World) (v : V8) (bs : Bs) (n : Nat) (wr : World) : Prop where
  v0 : wr.heap[w.heap.size]? = some (.cells (A8 v) 51 (0, 0))
  r0 : wr.heap[w.heap.size + 1]? = some (.cells (A8 V8.zero) 51 (0, 0))
  w0 : wr.heap[w.heap.size + 2]? = some (.cells (W64 bs n) 67 (0, 0))
  below : Below w.heap.size w wr

theorem heap_new' {w : World} {k : Nat} (h : k = w.heap.size) (o : Obj) : (w.alloc o).heap[k]? = some o := by subst h; exact heap_new w o
def z8 : Array Value := #[.int .u32 0, .int .u32 0, .int .u32 0, .int .u32 0, .int .u32 0, .int .u32 0, .int .u32 0, .int .u32 0]
theorem take_start (w : World) (v : V8) (m : Bs) : TakeAt w v m 0 (((w.alloc (.cells (A8 v) 51)).alloc (.cells z8 51)).alloc (.cells z64 67)) :=
  ⟨heap_old (heap_old (heap_new w _) _) _, heap_old (heap_new' (by simp) _) _, heap_new' (by simp) _, (((Below.refl _ _).alloc (Nat.le_refl _) _).alloc (by simp) _).alloc (by simp; omega) _⟩
theorem TakeAt.rd {w wr : World} {v : V8} {m : Bs} {k : Nat} (h : TakeAt w v m k wr) {sv : Value} (hv : RD w.heap.size w sv m) : RD w.heap.size wr sv m := hv.below h.below

theorem put_one (l : List Value) (k : Nat) (x : Value) (hx : x.cells = #[x]) (hk : k < l.length) : put l.toArray k x.cells = (l.set k x).toArray := by
  unfold put
  rw [hx]
  simp [List.set_eq_take_append_cons_drop, hk]
theorem W64_step (m : Bs) (k : Nat) (hk : k < 64) : put (W64 m k) k (wv (next m (sched m k) k)).cells = W64 m (k + 1) := by
  unfold W64
  rw [put_one _ _ _ rfl (by simp [length_sched]; omega)]
  congr 1
  rw [← List.map_set]
  congr 1
  rw [sched, List.set_append_right _ _ (by rw [length_sched]; exact Nat.le_refl _), length_sched, Nat.sub_self]
  obtain ⟨r, hr⟩ : ∃ r, 64 - k = r + 1 := ⟨63 - k, by omega⟩
  rw [hr, List.replicate_succ, List.set_cons_zero, show 64 - (k + 1) = r from by omega, List.append_assoc]
  rfl
theorem TakeAt.step {w wr w2 : World} {v : V8} {m : Bs} {k nq : Nat} (h : TakeAt w v m k wr) (hk : k < 64)
    (hu : Upd (w.heap.size + 1 + 1) (.cells (put (W64 m k) k (wv (next m (sched m k) k)).cells) 67 (0, 0)) (wr.drewN nq) w2) : TakeAt w v m (k + 1) w2 :=
  ⟨heap_upd (w := wr.drewN nq) h.v0 hu (Nat.ne_of_lt (by omega)), heap_upd (w := wr.drewN nq) h.r0 hu (Nat.ne_of_lt (by omega)), by rw [← W64_step m k hk]; exact hu.here, (h.below.trans (c := wr.drewN nq) ⟨rfl, rfl, rfl, Nat.le_refl _, fun _ _ => rfl⟩).trans (hu.below (by omega))⟩
theorem TakeAt.drewN {w wr : World} {v : V8} {m : Bs} {k : Nat} (h : TakeAt w v m k wr) (n : Nat) : TakeAt w v m k (wr.drewN n) :=
  ⟨h.v0, h.r0, h.w0, h.below.trans (c := wr.drewN n) ⟨rfl, rfl, rfl, Nat.le_refl _, fun _ _ => rfl⟩⟩
theorem W64_get (m : Bs) (k j : Nat) (hj : j < k) : (W64 m k)[j]? = some (wv ((sched m k).getD j 0)) := by
  unfold W64
  have hl : j < (sched m k).length := by rw [length_sched]; exact hj
  simp only [List.getElem?_toArray, List.getElem?_map, List.getElem?_append_left hl, List.getD_eq_getElem?_getD, List.getElem?_eq_getElem hl, Option.map_some, Option.getD_some]
theorem TakeAt.cell {w wr : World} {v : V8} {m : Bs} {k : Nat} (h : TakeAt w v m k wr) (j : Nat) (hj : j < k) : wr.cell? ⟨w.heap.size + 1 + 1, j, none⟩ = some (.int .u32 (((sched m k).getD j 0).toNat : Int)) := by
  rw [cell_of_row wr _ j _ _ _ h.w0, W64_get m k j hj]; rfl
theorem one_wv (x : W) : (wv x).cells.all (·.oneCell') = true := by simp [wv, Value.cells, Value.oneCell']

theorem info_u32 : (Tryd.prog.info? 50).map (·.size) = some 1 := by kernel_rfl
theorem ks_get (k : Nat) (h : k < 64) : (ks.map wv).toArray[k]? = some (wv (ks.getD k 0)) := by
  have hl : k < ks.length := by rw [length_ks]; exact h
  simp only [List.getElem?_toArray, List.getElem?_map, List.getD_eq_getElem?_getD, List.getElem?_eq_getElem hl, Option.map_some, Option.getD_some]
structure Rel8 (x : V8) (a b c d e f g h : Value) : Prop where
  a : a = .int .u32 (x.a.toNat : Int)
  b : b = .int .u32 (x.b.toNat : Int)
  c : c = .int .u32 (x.c.toNat : Int)
  d : d = .int .u32 (x.d.toNat : Int)
  e : e = .int .u32 (x.e.toNat : Int)
  f : f = .int .u32 (x.f.toNat : Int)
  g : g = .int .u32 (x.g.toNat : Int)
  h : h = .int .u32 (x.h.toNat : Int)
def M8 (v s : V8) (k : Nat) : Array Value := (((List.zipWith (· + ·) v.list s.list).take k ++ v.list.drop k).map wv).toArray
theorem size_M8 (v s : V8) (k : Nat) (h : k ≤ 8) : (M8 v s k).size = 8 := by simp [M8, V8.length_list]; omega
theorem M8_get (v s : V8) (k : Nat) (h : k < 8) : (M8 v s k)[k]? = some (wv (v.list.getD k 0)) := by
  match k, h with
  | 0, _ | 1, _ | 2, _ | 3, _ | 4, _ | 5, _ | 6, _ | 7, _ => rfl
theorem A8_get (s : V8) (k : Nat) (h : k < 8) : (A8 s)[k]? = some (wv (s.list.getD k 0)) := by
  match k, h with
  | 0, _ | 1, _ | 2, _ | 3, _ | 4, _ | 5, _ | 6, _ | 7, _ => rfl
theorem M8_step (v s : V8) (k : Nat) (h : k < 8) : put (M8 v s k) k (wv (v.list.getD k 0 + s.list.getD k 0)).cells = M8 v s (k + 1) := by
  match k, h with
  | 0, _ | 1, _ | 2, _ | 3, _ | 4, _ | 5, _ | 6, _ | 7, _ => rfl
structure Take3 (w : World) (v s : V8) (k : Nat) (wt : World) : Prop where
  v0 : wt.heap[w.heap.size]? = some (.cells (M8 v s k) 51 (0, 0))
  r0 : wt.heap[w.heap.size + 1]? = some (.cells (A8 V8.zero) 51 (0, 0))
  below : Below w.heap.size w wt
theorem TakeAt.three {w wr : World} {v : V8} {m : Bs} {k : Nat} (h : TakeAt w v m k wr) (s : V8) : Take3 w v s 0 wr := ⟨h.v0, h.r0, h.below⟩
theorem Take3.cell {w wt : World} {v s : V8} {k : Nat} (h : Take3 w v s k wt) (hk : k < 8) : wt.cell? ⟨w.heap.size, k, none⟩ = some (.int .u32 ((v.list.getD k 0).toNat : Int)) := by
  rw [cell_of_row wt _ k _ _ _ h.v0, M8_get v s k hk]; rfl
theorem Take3.step {w wt w2 : World} {v s : V8} {k : Nat} (h : Take3 w v s k wt) (hk : k < 8)
    (hu : Upd w.heap.size (.cells (put (M8 v s k) k (wv (v.list.getD k 0 + s.list.getD k 0)).cells) 51 (0, 0)) wt w2) : Take3 w v s (k + 1) w2 :=
  ⟨by rw [← M8_step v s k hk]; exact hu.here, heap_upd h.r0 hu (Nat.ne_of_gt (by omega)), h.below.trans (hu.below (by omega))⟩
theorem next_take (m : Bs) (l : List W) (n : Nat) : next (m.take 64) l n = next m l n := by
  unfold next
  split
  · rename_i hn
    have g : ∀ j, j < 64 → (m.take 64).getD j 0 = m.getD j 0 := fun j hj => by
      simp only [List.getD_eq_getElem?_getD, List.getElem?_take, if_pos hj]
    unfold word
    rw [g _ (by omega), g _ (by omega), g _ (by omega), g _ (by omega)]
  · rfl
theorem sched_take (m : Bs) (n : Nat) : sched (m.take 64) n = sched m n := by
  induction n with
  | zero => rfl
  | succ n ih => rw [sched, sched, ih, next_take]
theorem st_take' (v : V8) (m : Bs) (n : Nat) : st v (m.take 64) n = st v m n := by
  induction n with
  | zero => rfl
  | succ n ih =>
    have e := sched_take m 64
    unfold st
    rw [ih, e]
theorem st_take (v : V8) (m : Bs) : st v (m.take 64) 64 = st v m 64 := st_take' v m 64
theorem info_a64 : (Tryd.prog.info? 67).map (·.size) = some 64 := by kernel_rfl

set_option maxRecDepth 100000 in
set_option maxHeartbeats 4000000 in
theorem take_calls (v : V8) (sv : Value) (m : Bs) (w : World) (ht : Tab w) (hv : RD w.heap.size w sv m) (hm : 64 ≤ m.length) :
    Calls Tryd.prog 27 #[.agg (A8 v), sv] w fun e w' => e = .returned (.agg (A8 (comp v (m.take 64)))) ∧ Below w.heap.size w w' := by
  have hvv := Lib.hid hv
  obtain ⟨b, o, c, rfl, hc, hcm, hb⟩ := hv.addr (by intro e; subst e; simp at hm)
  clear hv
  go_enter Tryd.func27, Tryd.ntmps27
  go_wp2_with fail
  go_loopg [23] 64 (fun g i wr => ∃ k : Nat, k + g = 64 ∧ i = .int .i64 k ∧ TakeAt w v m k wr)
  case atStart => exact ⟨0, rfl, rfl, take_start w v m⟩
  case round =>
    obtain ⟨k, hk, rfl, hT⟩ := hrel
    have HT := Lib.hid hT
    have hrd := hT.rd hvv.out
    by_cases h16 : k < 16
    · have x0 := hrd.cell (4 * k) (by omega)
      have x1 := hrd.cell (4 * k + 1) (by omega)
      have x2 := hrd.cell (4 * k + 2) (by omega)
      have x3 := hrd.cell (4 * k + 3) (by omega)
      generalize hb0 : m.getD (4 * k) 0 = b0 at x0
      generalize hb1 : m.getD (4 * k + 1) 0 = b1 at x1
      generalize hb2 : m.getD (4 * k + 2) 0 = b2 at x2
      generalize hb3 : m.getD (4 * k + 3) 0 = b3 at x3
      have hw : next m (sched m k) k = (zx b0 <<< 24) ||| (zx b1 <<< 16) ||| (zx b2 <<< 8) ||| zx b3 := by rw [next, if_pos h16, word, hb0, hb1, hb2, hb3]
      have HW := Lib.hid hw
      unfold bv at x0 x1 x2 x3
      clear hb0 hb1 hb2 hb3 hw hT hrd
      go_wp2_with fail
      refine wp_region_quiet_tail 35 (fun w' => ∃ n, w' = wr.drewN n) ⟨1, rfl⟩ (by kernel_rfl) (by kernel_rfl) ?_
      simp only [List.take_succ_cons, List.take_zero, List.drop_succ_cons, List.drop_zero]
      repeat (go_big_quiet_step (fail))
      refine wpQuiet_nil ?_
      intro _ hw'
      obtain ⟨nq, hw''⟩ := hw'
      subst hw''
      refine wpList_store_upd rfl 50 _ _ rfl (w.heap.size + 1 + 1) k (wv (next m (sched m k) k)) rfl ?_ _ (W64 m k) HT.out.w0 ?_ ?_ ?_ rfl ?_
      rotate_right
      · intro w2 hu2
        have H2 := Lib.hid (HT.out.step (by omega) hu2)
        clear hu2 HT
        go_wp2_with fail
        go_roundg (gk - 1)
        case measure => omega
        case rel => exact ⟨k + 1, by omega, by go_num, H2.out⟩
      · rw [HW.out]; exact congrArg (Value.int .u32) (word_val b0 b1 b2 b3)
      · kernel_rfl
      · rw [size_W64 m k (by omega)]; exact (by omega : k + 1 ≤ 64)
      · exact one_wv _
    · by_cases h64 : k < 64
      · have y2 := hT.cell (k - 2) (by omega)
        have y7 := hT.cell (k - 7) (by omega)
        have y15 := hT.cell (k - 15) (by omega)
        have y16 := hT.cell (k - 16) (by omega)
        have hw : next m (sched m k) k = ss1 ((sched m k).getD (k - 2) 0) + (sched m k).getD (k - 7) 0 + ss0 ((sched m k).getD (k - 15) 0) + (sched m k).getD (k - 16) 0 := by rw [next, if_neg h16]
        generalize (sched m k).getD (k - 2) 0 = e2 at y2 hw
        generalize (sched m k).getD (k - 7) 0 = e7 at y7 hw
        generalize (sched m k).getD (k - 15) 0 = e15 at y15 hw
        generalize (sched m k).getD (k - 16) 0 = e16 at y16 hw
        have HW := Lib.hid hw
        clear hw hT hrd
        go_wp2_with fail
        go_quiet (fail)
        go_wp2_with fail
        generalize hq : wr.drewN nq = wq
        have HT2 := Lib.hid (hq ▸ HT.out.drewN nq)
        have y7' : wq.cell? ⟨w.heap.size + 1 + 1, k - 7, none⟩ = some (.int .u32 (e7.toNat : Int)) := by rw [← hq]; exact y7
        have y16' : wq.cell? ⟨w.heap.size + 1 + 1, k - 16, none⟩ = some (.int .u32 (e16.toNat : Int)) := by rw [← hq]; exact y16
        clear hq HT y2 y7 y15 y16
        refine wp_region_quiet_tail 29 (fun w' => ∃ n, w' = wq.drewN n) ⟨1, rfl⟩ (by kernel_rfl) (by kernel_rfl) ?_
        simp only [List.take_succ_cons, List.take_zero, List.drop_succ_cons, List.drop_zero]
        repeat (go_big_quiet_step ((go_at_call 40; exact Calls.quiet_of (turn_callsI _ _ (by omega) (by omega) _))))
        refine wpQuiet_nil ?_
        intro _ hw'
        obtain ⟨nq2, hw''⟩ := hw'
        subst hw''
        refine wpList_store_upd rfl 50 _ _ rfl (w.heap.size + 1 + 1) k (wv (next m (sched m k) k)) rfl ?_ _ (W64 m k) HT2.out.w0 ?_ ?_ ?_ rfl ?_
        rotate_right
        · intro w2 hu2
          have H2 := Lib.hid (HT2.out.step (by omega) hu2)
          clear hu2 HT2
          go_wp2_with fail
          go_roundg (gk - 1)
          case measure => omega
          case rel => exact ⟨k + 1, by omega, by go_num, H2.out⟩
        · rw [HW.out]; exact congrArg (Value.int .u32) (sched_val' e2 e7 e15 e16)
        · kernel_rfl
        · rw [size_W64 m k (by omega)]; exact (by omega : k + 1 ≤ 64)
        · exact one_wv _
      · obtain rfl : k = 64 := by omega
        have hv0 := hT.v0
        have c0 : wr.cell? ⟨w.heap.size, 0, none⟩ = some (.int .u32 (v.a.toNat : Int)) := by rw [cell_of_row wr _ 0 _ _ _ hv0]; rfl
        have c1 : wr.cell? ⟨w.heap.size, 1, none⟩ = some (.int .u32 (v.b.toNat : Int)) := by rw [cell_of_row wr _ 1 _ _ _ hv0]; rfl
        have c2 : wr.cell? ⟨w.heap.size, 2, none⟩ = some (.int .u32 (v.c.toNat : Int)) := by rw [cell_of_row wr _ 2 _ _ _ hv0]; rfl
        have c3 : wr.cell? ⟨w.heap.size, 3, none⟩ = some (.int .u32 (v.d.toNat : Int)) := by rw [cell_of_row wr _ 3 _ _ _ hv0]; rfl
        have c4 : wr.cell? ⟨w.heap.size, 4, none⟩ = some (.int .u32 (v.e.toNat : Int)) := by rw [cell_of_row wr _ 4 _ _ _ hv0]; rfl
        have c5 : wr.cell? ⟨w.heap.size, 5, none⟩ = some (.int .u32 (v.f.toNat : Int)) := by rw [cell_of_row wr _ 5 _ _ _ hv0]; rfl
        have c6 : wr.cell? ⟨w.heap.size, 6, none⟩ = some (.int .u32 (v.g.toNat : Int)) := by rw [cell_of_row wr _ 6 _ _ _ hv0]; rfl
        have c7 : wr.cell? ⟨w.heap.size, 7, none⟩ = some (.int .u32 (v.h.toNat : Int)) := by rw [cell_of_row wr _ 7 _ _ _ hv0]; rfl
        obtain ⟨tr, fr, htab⟩ := (ht.below hT.below ht.lt).round
        replace htab := Lib.hid htab
        clear hv0 hT hrd h64 h16
        go_wp2_with fail
        go_quiet (fail)
        go_wp2_with (refine wpList_load_blk rfl 67 (.global 1) rfl 1 0 rfl _ _ _ htab.out (ks.map wv).toArray rfl _ Tryd.underlying67 rfl info_a64 ?_)
        have hT2 := HT.out.drewN nq
        generalize wr.drewN nq = ws at hT2
        clear HT htab c0 c1 c2 c3 c4 c5 c6 c7
        go_loopg [9, 10, 11, 12, 13, 14, 15, 16, 118] 64 (fun g a b c d e f gg h i wt => ∃ k : Nat, k + g = 64 ∧ i = .int .i64 k ∧ Rel8 (st v m k) a b c d e f gg h ∧ TakeAt w v m 64 wt)
        case atStart => exact ⟨0, rfl, rfl, ⟨rfl, rfl, rfl, rfl, rfl, rfl, rfl, rfl⟩, hT2⟩
        case round =>
          obtain ⟨k, hk2, rfl, ⟨rfl, rfl, rfl, rfl, rfl, rfl, rfl, rfl⟩, hT3⟩ := hrel
          by_cases hlt : k < 64
          · have yk := hT3.cell k hlt
            have hkk := Lib.hid (ks_get k hlt)
            have hst := Lib.hid (show st v m (k + 1) = rnd (st v m k) (ks.getD k 0) ((sched m 64).getD k 0) from rfl)
            generalize ks.getD k 0 = kk at hkk hst
            generalize (sched m 64).getD k 0 = ww at yk hst
            generalize st v m k = s at *
            have HT3 := Lib.hid hT3
            clear hT3 hT2
            go_wp2_with (refine wpList_index_row rfl 67 (.tmp 117) (.tmp 118) rfl Tryd.underlying67 Tryd.underlying50 rfl info_u32 (ks.map wv).toArray rfl .i64 k rfl hlt (wv kk) hkk.out ?_)
            unfold wv
            go_quiet ((go_at_call 40; exact Calls.quiet_of (turn_callsI _ _ (by omega) (by omega) _)))
            go_wp2_with (go_at_call 40; refine (turn_callsI _ _ (by omega) (by omega) _).mono ?_; rintro e w' ⟨rfl, n, rfl⟩)
            go_roundg (gk - 1)
            case measure => omega
            case rel =>
              refine ⟨k + 1, by omega, by go_num, ?_, HT3.out.drewN _⟩
              rw [hst.out]
              exact ⟨congrArg (Value.int .u32) (rnd_a_val s kk ww), rfl, rfl, rfl, congrArg (Value.int .u32) (rnd_e_val s kk ww), rfl, rfl, rfl⟩
          · obtain rfl : k = 64 := by omega
            have hT5 := Lib.hid hT3.three
            generalize hs : st v m 64 = s at *
            have HS := Lib.hid hs
            clear hs hT2 hT3 hlt hk2
            go_wp2_with fail
            go_loopg [186] 8 (fun g i wt => ∃ k : Nat, k + g = 8 ∧ i = .int .i64 k ∧ Take3 w v s k wt)
            case atStart => exact ⟨0, rfl, rfl, hT5.out s⟩
            case round =>
              obtain ⟨k, hk2, rfl, hT6⟩ := hrel
              by_cases hlt : k < 8
              · have yk := hT6.cell hlt
                have H6 := Lib.hid hT6
                have hi := Lib.hid (A8_get s k hlt)
                generalize hx : s.list.getD k 0 = x at hi
                generalize hy : v.list.getD k 0 = y at yk
                have HX := Lib.hid hx
                have HY := Lib.hid hy
                clear hT6 hT5 hx hy
                go_wp2_with (first
                  | (refine wpList_index_row rfl 51 (.tmp 185) (.tmp 186) rfl Tryd.underlying51 Tryd.underlying50 rfl info_u32 (A8 s) rfl .i64 k rfl hlt (wv x) hi.out ?_; unfold wv)
                  | (refine wpList_store_upd rfl 50 _ _ rfl w.heap.size k (wv (y + x)) rfl (congrArg (Value.int .u32) (u32_add' y x)) _ _ H6.out.v0 info_u32 ?_ (one_wv _) rfl ?_))
                rotate_right
                · intro w2 hu2
                  have H7 := Lib.hid (H6.out.step hlt (by rw [HX.out, HY.out]; exact hu2))
                  clear hu2 H6
                  go_wp2_with fail
                  go_roundg (gk - 1)
                  case measure => omega
                  case rel => exact ⟨k + 1, by omega, by go_num, H7.out⟩
                · rw [size_M8 v s k (by omega)]; exact (by omega : k + 1 ≤ 8)
              · obtain rfl : k = 8 := by omega
                have H6 := Lib.hid hT6
                clear hT6 hT5
                go_wp2_with (first
                  | (refine wpList_load_blk rfl 51 (.tmp 2) rfl w.heap.size 0 rfl _ _ _ H6.out.v0 (M8 v s 8) rfl _ Tryd.underlying51 rfl info_a8 ?_)
                  | (refine wpList_store_upd rfl 51 _ _ rfl (w.heap.size + 1) 0 (.agg (A8 (v.add s))) rfl rfl _ _ H6.out.r0 (info_a8v _) (Nat.le_refl 8) (one_A8 _) rfl ?_; intro w2 hu2))
                refine bodyPost_ret (ret_row (P := Tryd.prog) rfl _ (w.heap.size + 1) _ (A8 (v.add s)) _ _ rfl hu2.here Tryd.underlying51 rfl info_a8) rfl ⟨?_, ?_⟩
                · rw [← HS.out, comp, st_take v m]
                · exact H6.out.below.trans (hu2.below (by omega))
end Go.Proofs.YtlgaikknodoilaaDoor.Sh
