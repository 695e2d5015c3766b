/- The contract of a tape's next: a select, a loop of sends. -/
import Derived.Test.YtmkpajhfgdffpaaDoorTaBlock
namespace Go.Proofs.YtmkpajhfgdffpaaDoor.Sh
set_option linter.unusedVariables false
set_option linter.unusedSimpArgs false
open Go Go.Conc Go.RowKit

theorem NW.loop2 {P : Program} {Q : Exit → Act → World → Prop} {a : Act} {w : World} {c : Code} (I1 : Act → World → Prop) (hrecv : ∀ a w, I1 a w → NW P c (Exit.then (fun _ _ => False) Q) a w)
    (hfirst : I1 a w ∨ NW P c (Exit.then I1 Q) a w) : NW P (.loop c) Q a w := by
  have round : ∀ n a w, ((n = 0 ∧ I1 a w) ∨ (n = 1 ∧ NW P c (Exit.then I1 Q) a w)) → NW P c (Exit.then (fun a' w' => ∃ m, m < n ∧ ((m = 0 ∧ I1 a' w') ∨ (m = 1 ∧ NW P c (Exit.then I1 Q) a' w'))) Q) a w := by
    rintro n a' w' (⟨rfl, h⟩ | ⟨rfl, h⟩)
    · exact (hrecv a' w' h).mono fun e a w he => by cases e <;> first | exact he.elim | exact he
    · exact h.mono fun e a w he => by cases e <;> first | exact ⟨0, by omega, .inl ⟨rfl, he⟩⟩ | exact he
  rcases hfirst with h | h
  · exact NW.loop _ 0 (.inl ⟨rfl, h⟩) round
  · exact NW.loop _ 1 (.inr ⟨rfl, h⟩) round
theorem RW.drop {P : Program} {Q : Exit → Act → World → Prop} {a : Act} {w : World} {ops : Array Oper} (i : Nat) (h : wpList P ops Q (ops.toList.drop i) a w) : RW P ops Q (List.range' i (ops.toList.drop i).length) a w :=
  RW.rest (fun j => by rw [List.getElem?_drop]; simp) h

theorem Hb.tail {w0 w : World} {x : Nat × Obj} {l : List (Nat × Obj)} {vs : List (Value × Bs)} {B : Nat} (h : Hb w0 (x :: l) vs B w) : Hb w0 l vs B w :=
  ⟨h.base, h.bel, h.lo, h.hi, fun y hy => h.blocks y (List.mem_cons_of_mem _ hy), (List.nodup_cons.1 h.apart).2, fun y hy => (h.rows y hy).mono fun b hF => ⟨hF.1, fun z hz => hF.2 z (List.mem_cons_of_mem _ hz)⟩⟩
def NxC (sv lv : Value) (made c n : Nat) (b : Bool) : Array Value := #[sv, lv, .int .i64 (made : Int), .chan (some c), .int .i64 (n : Int), .bool b]
/-- What next reads. -/
def NF (p c : Nat) (sv lv : Value) (made n : Nat) (b : Bool) (buf : Array Value) (s r : Nat) (w : World) : Prop := w.heap[p]? = some (.cells (NxC sv lv made c n b) 44 (0, 0)) ∧ w.heap[c]? = some (.chan 4 buf false s r false)
def NL (q p c : Nat) (sv lv : Value) (seed : Bs) (made k j n s r : Nat) (b : Bool) (l : List (Nat × Obj)) : List (Nat × Obj) :=
  (q, .cells z32 32 (0, 0)) :: (p, .cells (NxC sv lv made c n b) 44 (0, 0)) :: (c, .chan 4 (waits seed k j) false s r false) :: l
def Ny (w0 : World) (l : List (Nat × Obj)) (vs : List (Value × Bs)) (q p c : Nat) (sv lv : Value) (seed : Bs) (made k j n s r : Nat) (b : Bool) (w : World) : Prop := Hb w0 (NL q p c sv lv seed made k j n s r b l) vs w.heap.size w
section
variable {w0 w w' : World} {l : List (Nat × Obj)} {vs : List (Value × Bs)} {q p c made k j n s r : Nat} {sv lv : Value} {seed : Bs} {b : Bool}
theorem Ny.nf (h : Ny w0 l vs q p c sv lv seed made k j n s r b w) : NF p c sv lv made n b (waits seed k j) s r w := ⟨Hb.at h 1 p _ rfl, Hb.at h 2 c _ rfl⟩
theorem Ny.tab (h : Ny w0 l vs q p c sv lv seed made k j n s r b w) : Tab w := Hb.tab h
theorem Ny.call (h : Ny w0 l vs q p c sv lv seed made k j n s r b w) (hb : Below w.heap.size w w') : Ny w0 l vs q p c sv lv seed made k j n s r b w' := (Hb.calls h hb).top
theorem Ny.drew (h : Ny w0 l vs q p c sv lv seed made k j n s r b w) : Ny w0 l vs q p c sv lv seed made k j n s r b w.drew := h.call (below_drewN' (n := 1) (Below.refl _ _))
theorem Ny.rdseed (h : Ny w0 l vs q p c sv lv seed made k j n s r b w) (hv : vs[0]? = some (sv, seed)) : RD w.heap.size w sv seed := Hb.rd h 0 _ _ hv
theorem Ny.recv (h : Ny w0 l vs q p c sv lv seed made k (j + 1) n s r b w) : Ny w0 l vs q p c sv lv seed made (k + 1) j n s (r + 1) b (w.setChan c 4 ((waits seed k (j + 1)).extract 1 (waits seed k (j + 1)).size) false s (r + 1) false) := by
  rw [waits_tail]
  have := Hb.setChan h 2 c (cap := 4) (s := s) (r := r + 1) (buf := waits seed (k + 1) j) (tm := false) rfl
  exact this.top
theorem Ny.send (h : Ny w0 l vs q p c sv lv seed made k j n s r b w) (hm : made = k + j) : Ny w0 l vs q p c sv lv seed made k (j + 1) n (s + 1) r b (w.setChan c 4 ((waits seed k j).push (.agg (A32 (blk seed made)))) false (s + 1) r false) := by
  rw [hm, waits_push, ← hm]
  have := Hb.setChan h 2 c (cap := 4) (s := s + 1) (r := r) (buf := waits seed k (j + 1)) (tm := false) rfl
  exact this.top
theorem put_made (sv lv : Value) (made c n : Nat) (b : Bool) (m' : Nat) : put (NxC sv lv made c n b) 2 (Value.int .i64 (m' : Int)).cells = NxC sv lv m' c n b := rfl
theorem Ny.putMade (h : Ny w0 l vs q p c sv lv seed made k j n s r b w) {m' : Nat} (hu : Upd p (.cells (put (NxC sv lv made c n b) 2 (Value.int .i64 (m' : Int)).cells) 44 (0, 0)) w w') : Ny w0 l vs q p c sv lv seed m' k j n s r b w' := by
  rw [put_made] at hu
  exact (Hb.put h 1 p rfl hu).top
end
theorem NF.cell3 {p c made n s r : Nat} {sv lv : Value} {b : Bool} {buf : Array Value} {w : World} (h : NF p c sv lv made n b buf s r w) : w.cell? ⟨p, 3, none⟩ = some (.chan (some c)) := by rw [cell_of_row _ p 3 _ _ _ h.1]; rfl
theorem NF.cell2 {p c made n s r : Nat} {sv lv : Value} {b : Bool} {buf : Array Value} {w : World} (h : NF p c sv lv made n b buf s r w) : w.cell? ⟨p, 2, none⟩ = some (.int .i64 (made : Int)) := by rw [cell_of_row _ p 2 _ _ _ h.1]; rfl
theorem NF.len {p c made n s r : Nat} {sv lv : Value} {b : Bool} {buf : Array Value} {w : World} (h : NF p c sv lv made n b buf s r w) (m : Nat) (hm : buf.size = m) (ty : TypeId) : (Builtin.len_ #[42] ty #[.chan (some c)]).run Tryd.prog w = .ok (.int .i64 (m : Int)) w := by
  rw [run_len_chan _ ty Tryd.underlying42 h.2, hm]; rfl
theorem NF.cap {p c made n s r : Nat} {sv lv : Value} {b : Bool} {buf : Array Value} {w : World} (h : NF p c sv lv made n b buf s r w) (ty : TypeId) : (Builtin.cap_ #[42] ty #[.chan (some c)]).run Tryd.prog w = .ok (.int .i64 4) w :=
  run_cap_chan _ ty Tryd.underlying42 h.2
def NxI (w0 : World) (l : List (Nat × Obj)) (vs : List (Value × Bs)) (q p c : Nat) (sv lv : Value) (seed : Bs) (k n : Nat) (b : Bool) (a : Act) (w : World) : Prop :=
  ∃ made j s r, made = k + (j + 1) ∧ j < 4 ∧ Ny w0 l vs q p c sv lv seed made k (j + 1) n s r b w ∧ ∃ u1 u3 u4 u5 u6 u7 u8 u9 u10 u11 u12 u13 u14 u15 u16 u17 u18 u19 u20 u21 u22 u23 u24 u25 u26 u27 u28 u29 u30 u31 u32 u33 u34 u35 u36 u37 u38 u39 u40 : Value, a = ⟨#[.pointer (some ⟨p, 0, none⟩), u1, .pointer (some ⟨q, 0, none⟩), u3, u4, u5, u6, u7, u8, u9, u10, u11, u12, u13, u14, u15, u16, u17, u18, u19, u20, u21, u22, u23, u24, u25, u26, u27, u28, u29, u30, u31, u32, u33, u34, u35, u36, u37, u38, u39, u40], []⟩
/-- What next has done. -/
def NxPost (w0 : World) (l : List (Nat × Obj)) (vs : List (Value × Bs)) (p c : Nat) (sv lv : Value) (seed : Bs) (k n : Nat) (b : Bool) (e : Ending) (w : World) : Prop :=
  e = .returned (.agg (A32 (blk seed k))) ∧ ∃ j s r, j < 4 ∧ Hb w0 ((p, .cells (NxC sv lv (k + 1 + j) c n b) 44 (0, 0)) :: (c, .chan 4 (waits seed (k + 1) j) false s r false) :: l) vs w.heap.size w

set_option maxRecDepth 4000 in
set_option maxHeartbeats 2000000 in
theorem next_calls (w0 : World) (l : List (Nat × Obj)) (vs : List (Value × Bs)) (p c : Nat) (sv lv : Value) (seed : Bs) (k j n s r : Nat) (b : Bool) (w : World) (hj : j ≤ 4) (hk : k + 4 ≤ 9007199254740991) (hs : seed.length ≤ 65536) (hv : vs[0]? = some (sv, seed))
    (h : Hb w0 ((p, .cells (NxC sv lv (k + j) c n b) 44 (0, 0)) :: (c, .chan 4 (waits seed k j) false s r false) :: l) vs w.heap.size w) :
    Calls Tryd.prog 24 #[.pointer (some ⟨p, 0, none⟩)] w (NxPost w0 l vs p c sv lv seed k n b) := by
  have hN0 : Hid (Ny w0 l vs w.heap.size p c sv lv seed (k + j) k j n s r b (WB w)) := Lib.hid (h.fresh _)
  have HS := Lib.hid hs
  have HV := Lib.hid hv
  have HK := Lib.hid hk
  clear h hs hv hk
  refine calls_of_nw Tryd.func24 rfl ?_
  simp only [Tryd.ntmps24, List.size_toArray, List.length_cons, List.length_nil, Nat.reduceAdd, Nat.reduceSub, Array.replicate_succ, Array.replicate_zero, List.push_toArray, List.append_toArray, List.nil_append, List.cons_append]
  refine NW.seq (NW.of_wp ?_)
  go_wp2_with fail
  generalize w.heap.size = q at *
  change NW _ _ _ _ (WB w)
  generalize WB w = w1 at *
  refine NW.block (NW.loop2 (NxI w0 l vs q p c sv lv seed k n b) ?recv ?first)
  case recv =>
    as_aux_lemma =>
    rintro a wr ⟨made, j, s, r, hmade, hj4, hN, u1, u3, u4, u5, u6, u7, u8, u9, u10, u11, u12, u13, u14, u15, u16, u17, u18, u19, u20, u21, u22, u23, u24, u25, u26, u27, u28, u29, u30, u31, u32, u33, u34, u35, u36, u37, u38, u39, u40, rfl⟩
    have HN := Lib.hid hN
    have hc3 := hN.nf.cell3
    have hch := Lib.hid hN.nf.2
    have HMADE := Lib.hid hmade
    have HJ4 := Lib.hid hj4
    clear hN hN0 hmade hj4
    refine NW.block (NW.seq (NW.of_wp ?_))
    go_wp2_with fail
    refine NW.seq (NW.region ?_)
    refine RW.sel_recv (i := 0) (rest := [1, 2]) rfl rfl (c := c) (z := .agg z32) (by simp [go_sem, execOp, rcase, Act.eval]; rfl) hch.out (by rw [size_waits]; omega) ?_
    rw [waits_head]
    have HR := Lib.hid HN.out.recv
    generalize World.setChan wr c 4 _ false s (r + 1) false = w2 at *
    refine RW.drop 1 ?_
    simp only [List.drop_succ_cons, List.drop_zero, Act.put, List.setIfInBounds_toArray, List.set_cons_succ, List.set_cons_zero]
    clear hch hc3
    go_wp2_with fail
    refine NW.block (NW.cond (t := true) rfl ?_)
    simp only [if_true]
    refine NW.of_wp ?_
    have HQ := Lib.hid (Hb.at HR.out 0 q _ rfl)
    have HQL := Lib.hid (lt_of_heap HQ.out)
    have HBL := Lib.hid (length_blk seed k)
    generalize hK0 : blk seed k = K0 at *
    have HK0 := Lib.hid hK0
    clear hK0
    go_wp2_with (first
      | (refine wpList_store_upd rfl 32 (.tmp 3) (.tmp 39) rfl w2.heap.size 0 (.agg (A32 K0)) rfl rfl _ z32 (heap_new w2 _) (info_A32k K0 HBL.out) (le_A32k K0 HBL.out) (one_A32 _) rfl ?_; intro w3 hu3; rw [put_blk K0 HBL.out] at hu3; replace hu3 := Lib.hid hu3)
      | (refine wpList_load_blk rfl 32 (.tmp 3) rfl w2.heap.size 0 rfl _ _ _ hu3.out.here (A32 K0) (List.take_of_length_le (Nat.le_refl _)) _ Tryd.underlying32 rfl (info_A32k K0 HBL.out) ?_)
      | (refine wpList_store_upd rfl 32 (.tmp 2) (.tmp 40) rfl q 0 (.agg (A32 K0)) rfl rfl _ z32 (heap_upd (heap_old HQ.out _) hu3.out (Nat.ne_of_lt HQL.out)) (info_A32k K0 HBL.out) (le_A32k K0 HBL.out) (one_A32 _) rfl ?_; intro w4 hu4; rw [put_blk K0 HBL.out] at hu4; replace hu4 := Lib.hid hu4))
    refine bodyPost_ret (ret_row (P := Tryd.prog) rfl _ q _ (A32 K0) _ _ rfl hu4.out.here Tryd.underlying32 rfl (info_A32k K0 HBL.out)) rfl ⟨by rw [HK0.out], j, s, r + 1, HJ4.out, ?_⟩
    have h3 := HR.out.call (((Below.refl _ _).alloc (Nat.le_refl _) _).trans (hu3.out.below (Nat.le_refl _)))
    have h4 := (Hb.put h3 0 q rfl hu4.out).top.tail
    have e : k + 1 + j = made := by have := HMADE.out; omega
    rw [e]
    exact h4
  case first =>
    as_aux_lemma =>
    by_cases hj0 : 0 < j
    · refine .inl ⟨k + j, j - 1, s, r, by omega, by omega, ?_, _, _, _, _, _, _, _, _, _, _, _, _, _, _, _, _, _, _, _, _, _, _, _, _, _, _, _, _, _, _, _, _, _, _, _, _, _, _, _, rfl⟩
      rw [show j - 1 + 1 = j by omega]
      exact hN0.out
    · obtain rfl : j = 0 := by omega
      refine .inr ?_
      have hc3 := hN0.out.nf.cell3
      have hch := Lib.hid hN0.out.nf.2
      refine NW.block (NW.seq (NW.of_wp ?_))
      go_wp2_with fail
      refine NW.seq (NW.region ?_)
      refine RW.sel_default (i := 0) (rest := [1, 2]) rfl rfl (c := c) (z := .agg z32) (by simp [go_sem, execOp, rcase, Act.eval]; rfl) hch.out ?_
      refine RW.drop 1 ?_
      simp only [List.drop_succ_cons, List.drop_zero, Act.put, List.setIfInBounds_toArray, List.set_cons_succ, List.set_cons_zero]
      clear hch hc3
      go_wp2_with fail
      refine NW.block (NW.cond (t := false) rfl ?_)
      simp only [if_false, Bool.false_eq_true]
      refine NW.block (NW.loop (fun m a wr => ∃ i s r, i + m = 4 ∧ Ny w0 l vs q p c sv lv seed (k + i) k i n s r b wr ∧ ∃ u1 u3 u4 u5 u6 u7 u8 u9 u10 u11 u12 u13 u14 u15 u16 u17 u18 u19 u20 u21 u22 u23 u24 u25 u26 u27 u28 u29 u30 u31 u32 u33 u34 u35 u36 u37 u38 u39 u40 : Value, a = ⟨#[.pointer (some ⟨p, 0, none⟩), u1, .pointer (some ⟨q, 0, none⟩), u3, u4, u5, u6, u7, u8, u9, u10, u11, u12, u13, u14, u15, u16, u17, u18, u19, u20, u21, u22, u23, u24, u25, u26, u27, u28, u29, u30, u31, u32, u33, u34, u35, u36, u37, u38, u39, u40], []⟩) 4 ?init ?round)
      case init => exact ⟨0, s, r, rfl, hN0.out, _, _, _, _, _, _, _, _, _, _, _, _, _, _, _, _, _, _, _, _, _, _, _, _, _, _, _, _, _, _, _, _, _, _, _, _, _, _, _, rfl⟩
      case round =>
        rintro m a wr ⟨i, s, r, him, hN, u1, u3, u4, u5, u6, u7, u8, u9, u10, u11, u12, u13, u14, u15, u16, u17, u18, u19, u20, u21, u22, u23, u24, u25, u26, u27, u28, u29, u30, u31, u32, u33, u34, u35, u36, u37, u38, u39, u40, rfl⟩
        have HN := Lib.hid hN
        clear hN hN0
        have HM := Lib.hid (show k + i ≤ 9007199254740991 by have := HK.out; omega)
        generalize hmade : k + i = made at *
        have HMADE := Lib.hid hmade
        clear hmade
        have f3 : ∀ y : In (NF p c sv lv made n b (waits seed k i) s r), y.val.cell? ⟨p, 3, none⟩ = some (.chan (some c)) := fun y => y.prop.cell3
        have f2 : ∀ y : In (NF p c sv lv made n b (waits seed k i) s r), y.val.cell? ⟨p, 2, none⟩ = some (.int .i64 (made : Int)) := fun y => y.prop.cell2
        have fl : ∀ (y : In (NF p c sv lv made n b (waits seed k i) s r)) ty, (Builtin.len_ #[42] ty #[.chan (some c)]).run Tryd.prog y.val = .ok (.int .i64 (i : Int)) y.val := fun y ty => y.prop.len i (size_waits _ _ _) ty
        have fc : ∀ (y : In (NF p c sv lv made n b (waits seed k i) s r)) ty, (Builtin.cap_ #[42] ty #[.chan (some c)]).run Tryd.prog y.val = .ok (.int .i64 4) y.val := fun y ty => y.prop.cap ty
        have ne : Nonempty (In (NF p c sv lv made n b (waits seed k i) s r)) := ⟨⟨wr, HN.out.nf⟩⟩
        by_cases hi4 : i < 4
        · as_aux_lemma =>
          refine NW.seq (NW.seq (NW.of_wp ?_))
          refine wp_region_lex (NF p c sv lv made n b (waits seed k i) s r) [] [] [3, 4, 8, 9] (by kernel_rfl) (by kernel_rfl) (fun _ => HN.out.nf) ?_
          simp only [List.zipIdx_cons, List.zipIdx_nil, Nat.zero_add, Nat.reduceAdd]
          refine lex_blind 3 (by kernel_rfl) ?_
          simp only [List.take_succ_cons, List.take_zero, List.drop_succ_cons, List.drop_zero, List.map_cons, List.map_nil, Act.put, List.setIfInBounds_toArray, List.set_cons_succ, List.set_cons_zero]
          repeat (go_big_quiet_step (fail))
          refine wpQuiet_nil ?_
          refine lex_reads 1 (by kernel_rfl) (by kernel_rfl) ?_
          simp only [List.take_succ_cons, List.take_zero, List.drop_succ_cons, List.drop_zero, List.map_cons, List.map_nil, Act.put, List.setIfInBounds_toArray, List.set_cons_succ, List.set_cons_zero]
          repeat (go_big_quiet_step (fail))
          refine wpQuiet_nil ?_
          refine lex_reads 1 (by kernel_rfl) (by kernel_rfl) ?_
          simp only [List.take_succ_cons, List.take_zero, List.drop_succ_cons, List.drop_zero, List.map_cons, List.map_nil, Act.put, List.setIfInBounds_toArray, List.set_cons_succ, List.set_cons_zero]
          repeat (go_big_quiet_step (fail))
          refine wpQuiet_nil ?_
          refine lex_blind 3 (by kernel_rfl) ?_
          simp only [List.take_succ_cons, List.take_zero, List.drop_succ_cons, List.drop_zero, List.map_cons, List.map_nil, Act.put, List.setIfInBounds_toArray, List.set_cons_succ, List.set_cons_zero]
          repeat (go_big_quiet_step (fail))
          refine wpQuiet_nil ?_
          refine lex_reads 1 (by kernel_rfl) (by kernel_rfl) ?_
          simp only [List.take_succ_cons, List.take_zero, List.drop_succ_cons, List.drop_zero, List.map_cons, List.map_nil, Act.put, List.setIfInBounds_toArray, List.set_cons_succ, List.set_cons_zero]
          repeat (go_big_quiet_step (fail))
          refine wpQuiet_nil ?_
          refine lex_reads 1 (by kernel_rfl) (by kernel_rfl) ?_
          simp only [List.take_succ_cons, List.take_zero, List.drop_succ_cons, List.drop_zero, List.map_cons, List.map_nil, Act.put, List.setIfInBounds_toArray, List.set_cons_succ, List.set_cons_zero]
          repeat (go_big_quiet_step (fail))
          refine wpQuiet_nil ?_
          refine lex_blind 1 (by kernel_rfl) ?_
          simp only [List.take_succ_cons, List.take_zero, List.drop_succ_cons, List.drop_zero, List.map_cons, List.map_nil, Act.put, List.setIfInBounds_toArray, List.set_cons_succ, List.set_cons_zero]
          repeat (go_big_quiet_step (fail))
          refine wpQuiet_nil ?_
          refine lex_nil ?_
          refine NW.cond (t := true) (congrArg Value.bool (decide_eq_true (show (i : Int) < 4 by omega))) ?_
          simp only [if_true]
          refine NW.of_wp (wp_skip ?_)
          refine NW.block (NW.seq ?_)
          replace HN := Lib.hid HN.out.drew
          generalize World.drew wr = wr at *
          refine NW.region_lex_comm 10 (NF p c sv lv made n b (waits seed k i) s r) [9] [] [3, 8] (by kernel_rfl) rfl (by as_aux_lemma => kernel_rfl) (by as_aux_lemma => kernel_rfl) (by as_aux_lemma => kernel_rfl) (fun _ => HN.out.nf) ?_
          simp only [nopLast, nop]
          simp only [List.zipIdx_cons, List.zipIdx_nil, Nat.zero_add, Nat.reduceAdd]
          refine lex_blind 3 (by kernel_rfl) ?_
          simp only [List.take_succ_cons, List.take_zero, List.drop_succ_cons, List.drop_zero, List.map_cons, List.map_nil, Act.put, List.setIfInBounds_toArray, List.set_cons_succ, List.set_cons_zero]
          repeat (go_big_quiet_step (fail))
          refine wpQuiet_nil ?_
          refine lex_reads 1 (by kernel_rfl) (by kernel_rfl) ?_
          simp only [List.take_succ_cons, List.take_zero, List.drop_succ_cons, List.drop_zero, List.map_cons, List.map_nil, Act.put, List.setIfInBounds_toArray, List.set_cons_succ, List.set_cons_zero]
          repeat (go_big_quiet_step (fail))
          refine wpQuiet_nil ?_
          refine lex_blind 4 (by kernel_rfl) ?_
          simp only [List.take_succ_cons, List.take_zero, List.drop_succ_cons, List.drop_zero, List.map_cons, List.map_nil, Act.put, List.setIfInBounds_toArray, List.set_cons_succ, List.set_cons_zero]
          repeat (go_big_quiet_step (fail))
          refine wpQuiet_nil ?_
          refine lex_reads 1 (by kernel_rfl) (by kernel_rfl) ?_
          simp only [List.take_succ_cons, List.take_zero, List.drop_succ_cons, List.drop_zero, List.map_cons, List.map_nil, Act.put, List.setIfInBounds_toArray, List.set_cons_succ, List.set_cons_zero]
          repeat (go_big_quiet_step (fail))
          refine wpQuiet_nil ?_
          refine lex_act rfl rfl (fun K hK => ?_)
          go_simp
          refine (tblock_calls p (NxC sv lv made c n b) sv seed made HM.out wr.drew HN.out.tab.drew HN.out.nf.1 rfl (HN.out.rdseed HV.out).drew HS.out).mono ?_
          rintro e w2 ⟨rfl, hb2⟩
          have HN2 := Lib.hid (HN.out.call (below_drew hb2))
          clear hb2
          refine hK _ _ (ActLeft.keep rfl fun _ => HN2.out.nf) ?_
          clear hK K
          refine lex_blind 1 (by kernel_rfl) ?_
          simp only [List.take_succ_cons, List.take_zero, List.drop_succ_cons, List.drop_zero, List.map_cons, List.map_nil, Act.put, List.setIfInBounds_toArray, List.set_cons_succ, List.set_cons_zero]
          repeat (go_big_quiet_step (fail))
          refine wpQuiet_nil ?_
          refine lex_nil ⟨rfl, ?_⟩
          refine RW.send (i := 10) (rest := []) rfl rfl (c := c) (v := .agg (A32 (blk seed made))) (z := .tuple #[]) (by simp [go_sem, execOp, scase, Act.eval]) HN2.out.nf.2 (by rw [size_waits]; exact hi4) (RW.nil ?_)
          have HN3 := Lib.hid (HN2.out.send HMADE.out.symm)
          generalize World.setChan w2 c 4 _ false (s + 1) r false = w3 at *
          refine NW.of_wp ?_
          have hc2 := HN3.out.nf.cell2
          have hm0 : (0 : Int) ≤ (made : Int) := by omega
          have hm1 : (made : Int) ≤ 9007199254740991 := by have := HM.out; omega
          have HP := Lib.hid HN3.out.nf.1
          clear f3 f2 fl fc ne HN HN2
          go_wp2_with (refine wpList_store_upd rfl 3 (.tmp 38) (.tmp 36) rfl p 2 (.int .i64 ((made + 1 : Nat) : Int)) rfl rfl _ _ HP.out info_int (Nat.le_of_ble_eq_true rfl) (by simp [Value.cells, Value.oneCell']) rfl ?_; intro w4 hu4; replace hu4 := Lib.hid hu4)
          refine ⟨m - 1, by omega, i + 1, s + 1, r, by omega, ?_, _, _, _, _, _, _, _, _, _, _, _, _, _, _, _, _, _, _, _, _, _, _, _, _, _, _, _, _, _, _, _, _, _, _, _, _, _, _, _, rfl⟩
          have := HN3.out.putMade hu4.out
          have e : k + (i + 1) = made + 1 := by have := HMADE.out; omega
          rw [e]
          exact this
        · as_aux_lemma =>
          obtain rfl : i = 4 := by omega
          refine NW.seq (NW.seq (NW.of_wp ?_))
          refine wp_region_lex (NF p c sv lv made n b (waits seed k 4) s r) [] [] [3, 4, 8, 9] (by kernel_rfl) (by kernel_rfl) (fun _ => HN.out.nf) ?_
          simp only [List.zipIdx_cons, List.zipIdx_nil, Nat.zero_add, Nat.reduceAdd]
          refine lex_blind 3 (by kernel_rfl) ?_
          simp only [List.take_succ_cons, List.take_zero, List.drop_succ_cons, List.drop_zero, List.map_cons, List.map_nil, Act.put, List.setIfInBounds_toArray, List.set_cons_succ, List.set_cons_zero]
          repeat (go_big_quiet_step (fail))
          refine wpQuiet_nil ?_
          refine lex_reads 1 (by kernel_rfl) (by kernel_rfl) ?_
          simp only [List.take_succ_cons, List.take_zero, List.drop_succ_cons, List.drop_zero, List.map_cons, List.map_nil, Act.put, List.setIfInBounds_toArray, List.set_cons_succ, List.set_cons_zero]
          repeat (go_big_quiet_step (fail))
          refine wpQuiet_nil ?_
          refine lex_reads 1 (by kernel_rfl) (by kernel_rfl) ?_
          simp only [List.take_succ_cons, List.take_zero, List.drop_succ_cons, List.drop_zero, List.map_cons, List.map_nil, Act.put, List.setIfInBounds_toArray, List.set_cons_succ, List.set_cons_zero]
          repeat (go_big_quiet_step (fail))
          refine wpQuiet_nil ?_
          refine lex_blind 3 (by kernel_rfl) ?_
          simp only [List.take_succ_cons, List.take_zero, List.drop_succ_cons, List.drop_zero, List.map_cons, List.map_nil, Act.put, List.setIfInBounds_toArray, List.set_cons_succ, List.set_cons_zero]
          repeat (go_big_quiet_step (fail))
          refine wpQuiet_nil ?_
          refine lex_reads 1 (by kernel_rfl) (by kernel_rfl) ?_
          simp only [List.take_succ_cons, List.take_zero, List.drop_succ_cons, List.drop_zero, List.map_cons, List.map_nil, Act.put, List.setIfInBounds_toArray, List.set_cons_succ, List.set_cons_zero]
          repeat (go_big_quiet_step (fail))
          refine wpQuiet_nil ?_
          refine lex_reads 1 (by kernel_rfl) (by kernel_rfl) ?_
          simp only [List.take_succ_cons, List.take_zero, List.drop_succ_cons, List.drop_zero, List.map_cons, List.map_nil, Act.put, List.setIfInBounds_toArray, List.set_cons_succ, List.set_cons_zero]
          repeat (go_big_quiet_step (fail))
          refine wpQuiet_nil ?_
          refine lex_blind 1 (by kernel_rfl) ?_
          simp only [List.take_succ_cons, List.take_zero, List.drop_succ_cons, List.drop_zero, List.map_cons, List.map_nil, Act.put, List.setIfInBounds_toArray, List.set_cons_succ, List.set_cons_zero]
          repeat (go_big_quiet_step (fail))
          refine wpQuiet_nil ?_
          refine lex_nil ?_
          refine NW.cond (t := false) (congrArg Value.bool (decide_eq_false (show ¬ ((4 : Nat) : Int) < 4 by omega))) ?_
          simp only [if_false, Bool.false_eq_true]
          refine NW.of_wp (wp_exit ?_)
          exact ⟨made, 3, s, r, HMADE.out.symm, by omega, HN.out.drew, _, _, _, _, _, _, _, _, _, _, _, _, _, _, _, _, _, _, _, _, _, _, _, _, _, _, _, _, _, _, _, _, _, _, _, _, _, _, _, rfl⟩
end Go.Proofs.YtmkpajhfgdffpaaDoor.Sh
