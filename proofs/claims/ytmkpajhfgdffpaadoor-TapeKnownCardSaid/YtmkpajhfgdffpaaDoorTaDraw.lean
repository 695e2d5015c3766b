/- The contract of a tape's Draw. -/
import Derived.Test.YtmkpajhfgdffpaaDoorTaOpen
namespace Go.Proofs.YtmkpajhfgdffpaaDoor.Sh
set_option linter.unusedVariables false
set_option linter.unusedSimpArgs false
open Go Go.Conc Go.RowKit

theorem put_left (sv lv : Value) (made c n : Nat) (b : Bool) (a : Option Addr) (x y : Nat) : put (NxC sv lv made c n b) 1 (Value.slice a x y).cells = NxC sv (.slice a x y) made c n b := rfl
theorem put_at (sv lv : Value) (made c n : Nat) (b : Bool) (n' : Nat) : put (NxC sv lv made c n b) 4 (Value.int .i64 (n' : Int)).cells = NxC sv lv made c n' b := rfl
theorem upd_drew {g : Nat} {o : Obj} {w w' : World} (h : Upd g o w.drew w') : Upd g o w w' := ⟨h.here, h.size, h.other, h.os, h.tape, h.output⟩
theorem draw_min (m N i : Nat) (hm : 1 ≤ m) (hi : i < N) : ∃ d : Nat, 1 ≤ d ∧ i + d ≤ N ∧ d ≤ m ∧ (if (m : Int) < (N : Int) - (i : Int) then (m : Int) else (N : Int) - (i : Int)) = (d : Int) := by
  by_cases h : (m : Int) < (N : Int) - (i : Int)
  · exact ⟨m, hm, by omega, Nat.le_refl _, by rw [if_pos h]⟩
  · exact ⟨N - i, by omega, by omega, by omega, by rw [if_neg h]; omega⟩
/-- While bytes are drawn: i of N lie in block g; m are left. -/
structure DrH (w0 : World) (l : List (Nat × Obj)) (vs : List (Value × Bs)) (t : TP) (c : Nat) (g N i m k j s r : Nat) (lv : Value) (w : World) : Prop where
  pos : t.n + i + m = t.seed.length + 32 * k
  j4 : j ≤ 4
  m6 : m ≤ 65536
  iN : i ≤ N
  hb : Hb w0 ((t.p, .cells (NxC t.sv lv (k + j) c t.n true) 44 (0, 0)) :: (c, .chan 4 (waits t.seed k j) false s r false) :: (g, .cells (OB (draw t.seed t.n i) N) 5 (0, 0)) :: l)
    ((t.sv, t.seed) :: (lv, draw t.seed (t.n + i) m) :: vs) w.heap.size w
section
variable {w0 w w' w2 : World} {l : List (Nat × Obj)} {vs : List (Value × Bs)} {t : TP} {c g N i m k j s r : Nat} {lv : Value}
theorem DrH.at_p (h : DrH w0 l vs t c g N i m k j s r lv w) : w.heap[t.p]? = some (.cells (NxC t.sv lv (k + j) c t.n true) 44 (0, 0)) := h.hb.at 0 _ _ rfl
theorem DrH.at_g (h : DrH w0 l vs t c g N i m k j s r lv w) : w.heap[g]? = some (.cells (OB (draw t.seed t.n i) N) 5 (0, 0)) := h.hb.at 2 _ _ rfl
theorem DrH.cell1 (h : DrH w0 l vs t c g N i m k j s r lv w) : w.cell? ⟨t.p, 1, none⟩ = some lv := by rw [cell_of_row _ t.p 1 _ _ _ h.at_p]; rfl
theorem DrH.row (h : DrH w0 l vs t c g N i m k j s r lv w) : RF (fun b => b < w.heap.size ∧ NotIn ((t.p, .cells (NxC t.sv lv (k + j) c t.n true) 44 (0, 0)) :: (c, .chan 4 (waits t.seed k j) false s r false) :: (g, .cells (OB (draw t.seed t.n i) N) 5 (0, 0)) :: l) b) w lv ((draw t.seed (t.n + i) m).map bv) := h.hb.rows _ (List.mem_cons_of_mem _ List.mem_cons_self)
theorem DrH.form (h : DrH w0 l vs t c g N i m k j s r lv w) : ∃ a c', lv = .slice a m c' ∧ m ≤ c' := by
  obtain ⟨a, c', h1, h2, _⟩ := h.row.form
  rw [List.length_map, length_draw] at h1 h2
  exact ⟨a, c', h1, h2⟩
theorem DrH.cap {a : Option Addr} {x : Nat} (h : DrH w0 l vs t c g N i m k j s r (.slice a m x) w) : m ≤ x := by
  obtain ⟨a', c', e, h2⟩ := h.form
  simp only [Value.slice.injEq] at e
  omega
theorem DrH.left {u : Value} {f : Bs → Bs} (h : DrH w0 l vs t c g N i m k j s r lv w) (hp : Part u lv f) : RD w.heap.size w u (f (draw t.seed (t.n + i) m)) := (hp _ _ _ h.row).rv fun b hb => hb.1
theorem DrH.small (h : DrH w0 l vs t c g N i m k j s r lv w) : m ≤ 65536 := h.m6
theorem DrH.ne_pg (h : DrH w0 l vs t c g N i m k j s r lv w) : t.p ≠ g := by
  have := h.hb.apart
  simp only [List.map_cons, List.nodup_cons, List.mem_cons, not_or] at this
  exact this.1.2.1
theorem DrH.call (h : DrH w0 l vs t c g N i m k j s r lv w) (hb : Below w.heap.size w w') : DrH w0 l vs t c g N i m k j s r lv w' := ⟨h.pos, h.j4, h.m6, h.iN, (h.hb.calls hb).top⟩
theorem DrH.step {u : Value} {d : Nat} (h : DrH w0 l vs t c g N i m k j s r lv w) (hd : d ≤ m) (hdN : i + d ≤ N) (hl : ((draw t.seed (t.n + i) d).map bv).length = d)
    (hu : Upd g (.cells (put (OB (draw t.seed t.n i) N) i ((draw t.seed (t.n + i) d).map bv).toArray) 5 (0, 0)) w.drew w2) (hu2 : Upd t.p (.cells (NxC t.sv u (k + j) c t.n true) 44 (0, 0)) w2 w') (hp : Part u lv fun x => x.drop d) :
    DrH w0 l vs t c g N (i + d) (m - d) k j s r u w' := by
  have e : put (OB (draw t.seed t.n i) N) i ((draw t.seed (t.n + i) d).map bv).toArray = OB (draw t.seed t.n (i + d)) N := by
    have := OB_push (draw t.seed t.n i) (draw t.seed (t.n + i) d) N (by rw [length_draw, length_draw]; exact hdN)
    rw [length_draw] at this
    rw [this, draw_add]
  rw [e] at hu
  have h1 := (h.hb.drew.put 2 g rfl hu).put 0 t.p rfl hu2
  have h2 := hp _ _ _ (h1.rows _ (List.mem_cons_of_mem _ List.mem_cons_self))
  change RF _ w' u (((draw t.seed (t.n + i) m).drop d).map bv) at h2
  rw [draw_drop _ _ _ _ hd, Nat.add_assoc] at h2
  have h3 := h1.rowF h2
  refine ⟨by have := h.pos; omega, h.j4, by have := h.m6; omega, hdN, (h3.keep _ fun x hx => ?_).top⟩
  rcases List.mem_cons.1 hx with rfl | hx
  · simp
  · rcases List.mem_cons.1 hx with rfl | hx
    · simp
    · simp [hx]
end
theorem run_ptr_none (p : Nat) (w : World) : (binOp .eql 25 (.pointer (some ⟨p, 0, none⟩)) (.pointer none)).run Tryd.prog w = .ok (.bool false) w := by kernel_rfl
theorem next_step {w0 w w3 w4 : World} {l : List (Nat × Obj)} {vs : List (Value × Bs)} {t : TP} {c g N i k j' s r : Nat} {lv : Value} (hpos : t.n + i + 0 = t.seed.length + 32 * k) (hiN : i ≤ N) (hj : j' < 4)
    (H : Hb w0 ((t.p, .cells (NxC t.sv lv (k + 1 + j') c t.n true) 44 (0, 0)) :: (c, .chan 4 (waits t.seed (k + 1) j') false s r false) :: (g, .cells (OB (draw t.seed t.n i) N) 5 (0, 0)) :: l) ((t.sv, t.seed) :: (lv, draw t.seed (t.n + i) 0) :: vs) w.heap.size w)
    (hu3 : Upd w.heap.size (.cells (A32 (blk t.seed k)) 32 (0, 0)) (WB w) w3) (hu4 : Upd t.p (.cells (NxC t.sv (.slice (some ⟨w.heap.size, 0, none⟩) 32 32) (k + 1 + j') c t.n true) 44 (0, 0)) w3 w4) :
    DrH w0 l vs t c g N i 32 (k + 1) j' s r (.slice (some ⟨w.heap.size, 0, none⟩) 32 32) w4 := by
  have h1 := H.newUpd hu3
  have h2 := (h1.put 1 t.p rfl hu4).top
  have h3 := h2.toRow (q := w.heap.size) (n := 32) (c := 32) (m := blk t.seed k) (List.Perm.refl _) (length_blk _ _).symm rfl (by rw [length_blk]; decide)
  refine ⟨by omega, by omega, by omega, hiN, h3.keep _ fun x hx => ?_⟩
  have e : draw t.seed (t.n + i) 32 = blk t.seed k := by rw [show t.n + i = t.seed.length + 32 * k by omega]; exact draw_blk _ _
  rw [e] at hx
  rcases List.mem_cons.1 hx with rfl | hx
  · simp
  · rcases List.mem_cons.1 hx with rfl | hx
    · simp
    · simp [hx]

def DrawPost (w0 : World) (l : List (Nat × Obj)) (vs : List (Value × Bs)) (t : TP) (N : Nat) (e : Ending) (w : World) : Prop :=
  ∃ (T : TP) (g : Nat), e = .returned (.slice (some ⟨g, 0, none⟩) N N) ∧ T.ok ∧ T.p = t.p ∧ T.seed = t.seed ∧ T.n = t.n + N ∧
    Hb w0 ((g, .cells ((draw t.seed t.n N).map bv).toArray 5 (0, 0)) :: (T.blocks ++ l)) (T.rows ++ vs) w.heap.size w

set_option maxRecDepth 4000 in
set_option maxHeartbeats 2000000 in
theorem draw_calls (w0 : World) (l : List (Nat × Obj)) (vs : List (Value × Bs)) (t : TP) (hok : t.ok) (z y : Int) (N : Nat) (hmin : (if (65536 : Int) < z then (65536 : Int) else z) = y) (hmax : (if (0 : Int) < y then y else 0) = (N : Int)) (hN : N ≤ 65536)
    (hsmall : t.n + N ≤ 1000000000) (w : World) (H : Hb w0 (t.blocks ++ l) (t.rows ++ vs) w.heap.size w) :
    Calls Tryd.prog 12 #[.pointer (some ⟨t.p, 0, none⟩), .int .i64 z] w (DrawPost w0 l vs t N) := by
  have HH := Lib.hid H
  have HK := Lib.hid hok
  have HN := Lib.hid hN
  have HS := Lib.hid hsmall
  have hmk := fun w' => run_make0 N (by omega) w'
  have hqp := run_ptr_none t.p w
  clear H hok
  go_enter Tryd.func12, Tryd.ntmps12
  go_upto_region 6 with (go_at_call 23; refine (begin_calls w0 l _ t HK.out.none w HH.out).mono ?_; rintro e w1 ⟨rfl, c, s, r, H1⟩; replace H1 := Lib.hid H1)
  have hN9 : N ≤ 9223372036854775807 := by omega
  have hD0 : DrH w0 l vs t c w1.heap.size N 0 t.m t.k t.j s r t.lv (w1.alloc (.cells (Z N) 5)) := by
    have h2 := H1.out.fresh (.cells (Z N) 5)
    refine ⟨by have := HK.out.pos; omega, HK.out.j4, HK.out.m, Nat.zero_le _, ?_⟩
    rw [draw_zero, OB_nil]
    have h3 := h2.perm ((List.Perm.swap _ _ _).trans ((List.Perm.swap _ _ _).cons _))
    exact h3
  have HD0 := Lib.hid hD0
  clear hD0 hmk hmin hmax hqp hsmall hN H1 HH
  generalize w1.heap.size = gq at *
  generalize World.alloc w1 (.cells (Z N) 5) = w1 at *
  go_loopg [5] N (fun gk ov wr => ∃ i, i + gk = N ∧ ∃ m k j c s r lv, ov = .slice (some ⟨gq, 0, none⟩) i N ∧ DrH w0 l vs t c gq N i m k j s r lv wr)
  case atStart => exact ⟨0, by omega, _, _, _, _, _, _, _, rfl, HD0.out⟩
  case round =>
    obtain ⟨i, hig, m, k, j, c, s, r, lv, rfl, hD⟩ := hrel
    obtain ⟨la, lc, rfl, _⟩ := hD.form
    have HA := Lib.hid hD
    clear hD HD0
    by_cases hiN : i < N
    · by_cases hm0 : m = 0
      · subst hm0
        have c1 : wr.cell? ⟨t.p, 1, none⟩ = some (.slice la 0 lc) := HA.out.cell1
        have hb := HA.out.hb
        have HB := Lib.hid hb
        have hk4 : k + 4 ≤ 9007199254740991 := by have h1 := HA.out.pos; have h2 := HS.out; omega
        have HK4 := Lib.hid hk4
        have HBL := Lib.hid (length_blk t.seed k)
        have HPOS := Lib.hid HA.out.pos
        clear hb hk4
        go_upto_region 9 with (first
          | (go_at_call 24; refine (next_calls w0 _ _ t.p c t.sv (.slice la 0 lc) t.seed k j t.n s r true wr HA.out.j4 HK4.out HK.out.seed rfl HB.out).mono ?_; rintro e w2 ⟨rfl, j2, s2, r2, hj2, H2⟩; have HJ2 := Lib.hid hj2; replace H2 := Lib.hid H2; clear hj2)
          | (refine wpList_store_upd rfl 32 (.tmp 6) (.tmp 28) rfl w2.heap.size 0 (.agg (A32 (blk t.seed k))) rfl rfl _ z32 (heap_new w2 _) (info_A32k _ HBL.out) (le_A32k _ HBL.out) (one_A32 _) rfl ?_; intro w3 hu3; rw [put_blk _ HBL.out] at hu3; replace hu3 := Lib.hid hu3))
        clear c1
        have hp3 := Lib.hid (heap_upd (heap_old (H2.out.at 0 t.p _ rfl) _) hu3.out (Nat.ne_of_lt (lt_of_heap (H2.out.at 0 t.p _ rfl))))
        go_upto_region 10 with (refine wpList_store_upd rfl 22 (.tmp 32) (.tmp 30) rfl t.p 1 (.slice (some ⟨w2.heap.size, 0, none⟩) 32 32) rfl rfl _ _ hp3.out info_sl (Nat.le_of_ble_eq_true rfl) (one_sl _ _ _) rfl ?_; intro w4 hu4; rw [put_left] at hu4; replace hu4 := Lib.hid hu4)
        have HA2 := Lib.hid (next_step HPOS.out (Nat.le_of_lt hiN) HJ2.out H2.out hu3.out hu4.out)
        clear hp3 hu3 hu4 H2 HB HA
        generalize w2.heap.size = qb at *
        have HA := HA2
        clear HA2
        have c1 : w4.cell? ⟨t.p, 1, none⟩ = some (.slice (some ⟨qb, 0, none⟩) 32 32) := HA.out.cell1
        obtain ⟨d, hd1, hdN, hdm, hdeq0⟩ := draw_min 32 N i (by omega) hiN
        have hdeq : (if (32 : Int) < (N : Int) - (i : Int) then (32 : Int) else (N : Int) - (i : Int)) = (d : Int) := hdeq0
        clear hdeq0
        have HD1 := Lib.hid hd1
        have HDN := Lib.hid hdN
        have HDM := Lib.hid hdm
        have hlc := HA.out.cap
        obtain ⟨ua, hua, hpa⟩ := part_to (P := Tryd.prog) elem_u8 (a := (some ⟨qb, 0, none⟩)) (n := 32) (c := 32) .i64 d hdm hlc
        obtain ⟨ub, hub, hpb⟩ := part_from (P := Tryd.prog) elem_u8 (a := (some ⟨qb, 0, none⟩)) (n := 32) (c := 32) .i64 d hdm hlc
        have hra := HA.out.left hpa
        rw [draw_take _ _ _ _ hdm] at hra
        have hrb := HA.out.left hpb
        rw [draw_drop _ _ _ _ hdm] at hrb
        obtain ⟨ba, bc, rfl, _⟩ := hrb.form
        rw [length_draw] at hub hpb
        have HRA := Lib.hid hra
        have HPB := Lib.hid hpb
        have hne : (draw t.seed (t.n + i) d).map bv ≠ [] := by intro e; have := congrArg List.length e; rw [List.length_map, length_draw] at this; simp at this; omega
        have HNE := Lib.hid hne
        have hl1 : ((draw t.seed (t.n + i) d).map bv).length = d := by rw [List.length_map, length_draw]
        have HL1 := Lib.hid hl1
        have hsz : i + ((draw t.seed (t.n + i) d).map bv).length ≤ (OB (draw t.seed t.n i) N).size := by rw [hl1, size_OB _ _ (by rw [length_draw]; omega)]; exact hdN
        have HSZ := Lib.hid hsz
        have hroom : i + ((draw t.seed (t.n + i) d).map bv).length ≤ N := by rw [hl1]; exact hdN
        have HROOM := Lib.hid hroom
        have hm0 : (0 : Int) ≤ (32 : Nat) := by omega
        have hmm : ((32 : Nat) : Int) ≤ 9223372036854775807 := by have := HA.out.small; omega
        clear hd1 hdN hdm hra hrb hpa hpb hne hl1 hsz hroom hlc
        go_upto_region 11 with fail
        clear c1 hm0 hmm hdeq
        have f1 : ∀ y : In (fun w' : World => w'.heap[t.p]? = some (.cells (NxC t.sv (.slice (some ⟨qb, 0, none⟩) 32 32) ((k + 1) + j2) c t.n true) 44 (0, 0))), y.val.cell? ⟨t.p, 1, none⟩ = some (.slice (some ⟨qb, 0, none⟩) 32 32) := fun y => by rw [cell_of_row _ t.p 1 _ _ _ y.prop]; rfl
        have ne : Nonempty (In (fun w' : World => w'.heap[t.p]? = some (.cells (NxC t.sv (.slice (some ⟨qb, 0, none⟩) 32 32) ((k + 1) + j2) c t.n true) 44 (0, 0)))) := ⟨⟨w4, HA.out.at_p⟩⟩
        refine wp_region_lex (fun w' : World => w'.heap[t.p]? = some (.cells (NxC t.sv (.slice (some ⟨qb, 0, none⟩) 32 32) ((k + 1) + j2) c t.n true) 44 (0, 0))) [8, 18] [18] [5, 12] (by kernel_rfl) (by kernel_rfl) (fun _ => HA.out.at_p) ?_
        simp only [List.zipIdx_cons, List.zipIdx_nil, Nat.zero_add, Nat.reduceAdd]
        refine lex_blind 5 (by kernel_rfl) ?_
        simp only [List.take_succ_cons, List.take_zero, List.drop_succ_cons, List.drop_zero, List.map_cons, List.map_nil, Act.put, List.setIfInBounds_toArray, List.set_cons_succ, List.set_cons_zero]
        repeat (go_big_quiet_step (fail))
        refine wpQuiet_nil ?_
        refine lex_reads 1 (by kernel_rfl) (by kernel_rfl) ?_
        simp only [List.take_succ_cons, List.take_zero, List.drop_succ_cons, List.drop_zero, List.map_cons, List.map_nil, Act.put, List.setIfInBounds_toArray, List.set_cons_succ, List.set_cons_zero]
        repeat (go_big_quiet_step (fail))
        refine wpQuiet_nil ?_
        refine lex_blind 2 (by kernel_rfl) ?_
        simp only [List.take_succ_cons, List.take_zero, List.drop_succ_cons, List.drop_zero, List.map_cons, List.map_nil, Act.put, List.setIfInBounds_toArray, List.set_cons_succ, List.set_cons_zero]
        repeat (go_big_quiet_step (fail))
        refine wpQuiet_nil ?_
        refine lex_act rfl rfl (fun K hK => ?_)
        obtain ⟨w5, hr5, hu5⟩ := run_append_exact (P := Tryd.prog) elem_u8 22 gq i N (OB (draw t.seed t.n i) N) 5 (w := w4.drew) HA.out.at_g (RD.drew HRA.out) HNE.out (one_bytes _) HROOM.out HSZ.out
        rw [HL1.out] at hr5
        refine wp_append_of (.tmp 44) (.tmp 50) 22 rfl rfl rfl hr5 ?_
        have hp5 : w5.heap[t.p]? = some (.cells (NxC t.sv (.slice (some ⟨qb, 0, none⟩) 32 32) ((k + 1) + j2) c t.n true) 44 (0, 0)) := heap_upd HA.out.at_p (upd_drew hu5) HA.out.ne_pg
        replace hu5 := Lib.hid hu5
        refine hK _ _ (ActLeft.keep rfl fun _ => hp5) ?_
        clear hK K hr5
        refine lex_blind 3 (by kernel_rfl) ?_
        simp only [List.take_succ_cons, List.take_zero, List.drop_succ_cons, List.drop_zero, List.map_cons, List.map_nil, Act.put, List.setIfInBounds_toArray, List.set_cons_succ, List.set_cons_zero]
        repeat (go_big_quiet_step (fail))
        refine wpQuiet_nil ?_
        refine lex_reads 1 (by kernel_rfl) (by kernel_rfl) ?_
        simp only [List.take_succ_cons, List.take_zero, List.drop_succ_cons, List.drop_zero, List.map_cons, List.map_nil, Act.put, List.setIfInBounds_toArray, List.set_cons_succ, List.set_cons_zero]
        repeat (go_big_quiet_step (fail))
        refine wpQuiet_nil ?_
        refine lex_blind 2 (by kernel_rfl) ?_
        simp only [List.take_succ_cons, List.take_zero, List.drop_succ_cons, List.drop_zero, List.map_cons, List.map_nil, Act.put, List.setIfInBounds_toArray, List.set_cons_succ, List.set_cons_zero]
        repeat (go_big_quiet_step (fail))
        refine wpQuiet_nil ?_
        refine lex_blind 3 (by kernel_rfl) ?_
        simp only [List.take_succ_cons, List.take_zero, List.drop_succ_cons, List.drop_zero, List.map_cons, List.map_nil, Act.put, List.setIfInBounds_toArray, List.set_cons_succ, List.set_cons_zero]
        repeat (go_big_quiet_step (fail))
        refine wpQuiet_nil ?_
        refine lex_act rfl rfl (fun K hK => ?_)
        refine wp_store_upd 22 (.tmp 59) (.tmp 57) rfl t.p 1 (.slice ba (32 - d) bc) rfl rfl _ _ hp5 info_sl (Nat.le_of_ble_eq_true rfl) (one_sl _ _ _) rfl ?_
        intro w6 hu6
        rw [put_left] at hu6
        replace hu6 := Lib.hid hu6
        refine hK _ _ (ActLeft.last rfl rfl) ?_
        clear hK K
        refine lex_nil ?_
        have HN2 := Lib.hid (HA.out.step HDM.out HDN.out HL1.out hu5.out hu6.out HPB.out)
        have hg : i + d + (N - (i + d)) = N := by have := HDN.out; omega
        have hgl : N - (i + d) < gk := by have h1 := HD1.out; have h2 := HDN.out; omega
        have HG := Lib.hid hg
        have HGL := Lib.hid hgl
        clear f1 ne hp5 hua hub hg hgl
        go_wp2_with fail
        go_roundg (N - (i + d))
        case measure => exact HGL.out
        case rel => exact ⟨i + d, HG.out, 32 - d, (k + 1), j2, c, s2, r2, _, rfl, HN2.out⟩
      · have hmpos : 1 ≤ m := by omega
        have c1 : wr.cell? ⟨t.p, 1, none⟩ = some (.slice la m lc) := HA.out.cell1
        obtain ⟨d, hd1, hdN, hdm, hdeq0⟩ := draw_min m N i hmpos hiN
        have hdeq : (if (m : Int) < (N : Int) - (i : Int) then (m : Int) else (N : Int) - (i : Int)) = (d : Int) := hdeq0
        clear hdeq0
        have HD1 := Lib.hid hd1
        have HDN := Lib.hid hdN
        have HDM := Lib.hid hdm
        have hlc := HA.out.cap
        obtain ⟨ua, hua, hpa⟩ := part_to (P := Tryd.prog) elem_u8 (a := la) (n := m) (c := lc) .i64 d hdm hlc
        obtain ⟨ub, hub, hpb⟩ := part_from (P := Tryd.prog) elem_u8 (a := la) (n := m) (c := lc) .i64 d hdm hlc
        have hra := HA.out.left hpa
        rw [draw_take _ _ _ _ hdm] at hra
        have hrb := HA.out.left hpb
        rw [draw_drop _ _ _ _ hdm] at hrb
        obtain ⟨ba, bc, rfl, _⟩ := hrb.form
        rw [length_draw] at hub hpb
        have HRA := Lib.hid hra
        have HPB := Lib.hid hpb
        have hne : (draw t.seed (t.n + i) d).map bv ≠ [] := by intro e; have := congrArg List.length e; rw [List.length_map, length_draw] at this; simp at this; omega
        have HNE := Lib.hid hne
        have hl1 : ((draw t.seed (t.n + i) d).map bv).length = d := by rw [List.length_map, length_draw]
        have HL1 := Lib.hid hl1
        have hsz : i + ((draw t.seed (t.n + i) d).map bv).length ≤ (OB (draw t.seed t.n i) N).size := by rw [hl1, size_OB _ _ (by rw [length_draw]; omega)]; exact hdN
        have HSZ := Lib.hid hsz
        have hroom : i + ((draw t.seed (t.n + i) d).map bv).length ≤ N := by rw [hl1]; exact hdN
        have HROOM := Lib.hid hroom
        have hm0 : (0 : Int) ≤ (m : Nat) := by omega
        have hmm : ((m : Nat) : Int) ≤ 9223372036854775807 := by have := HA.out.small; omega
        clear hd1 hdN hdm hra hrb hpa hpb hne hl1 hsz hroom hlc
        go_upto_region 11 with fail
        clear c1 hm0 hmm hdeq
        have f1 : ∀ y : In (fun w' : World => w'.heap[t.p]? = some (.cells (NxC t.sv (.slice la m lc) (k + j) c t.n true) 44 (0, 0))), y.val.cell? ⟨t.p, 1, none⟩ = some (.slice la m lc) := fun y => by rw [cell_of_row _ t.p 1 _ _ _ y.prop]; rfl
        have ne : Nonempty (In (fun w' : World => w'.heap[t.p]? = some (.cells (NxC t.sv (.slice la m lc) (k + j) c t.n true) 44 (0, 0)))) := ⟨⟨wr, HA.out.at_p⟩⟩
        refine wp_region_lex (fun w' : World => w'.heap[t.p]? = some (.cells (NxC t.sv (.slice la m lc) (k + j) c t.n true) 44 (0, 0))) [8, 18] [18] [5, 12] (by kernel_rfl) (by kernel_rfl) (fun _ => HA.out.at_p) ?_
        simp only [List.zipIdx_cons, List.zipIdx_nil, Nat.zero_add, Nat.reduceAdd]
        refine lex_blind 5 (by kernel_rfl) ?_
        simp only [List.take_succ_cons, List.take_zero, List.drop_succ_cons, List.drop_zero, List.map_cons, List.map_nil, Act.put, List.setIfInBounds_toArray, List.set_cons_succ, List.set_cons_zero]
        repeat (go_big_quiet_step (fail))
        refine wpQuiet_nil ?_
        refine lex_reads 1 (by kernel_rfl) (by kernel_rfl) ?_
        simp only [List.take_succ_cons, List.take_zero, List.drop_succ_cons, List.drop_zero, List.map_cons, List.map_nil, Act.put, List.setIfInBounds_toArray, List.set_cons_succ, List.set_cons_zero]
        repeat (go_big_quiet_step (fail))
        refine wpQuiet_nil ?_
        refine lex_blind 2 (by kernel_rfl) ?_
        simp only [List.take_succ_cons, List.take_zero, List.drop_succ_cons, List.drop_zero, List.map_cons, List.map_nil, Act.put, List.setIfInBounds_toArray, List.set_cons_succ, List.set_cons_zero]
        repeat (go_big_quiet_step (fail))
        refine wpQuiet_nil ?_
        refine lex_act rfl rfl (fun K hK => ?_)
        obtain ⟨w5, hr5, hu5⟩ := run_append_exact (P := Tryd.prog) elem_u8 22 gq i N (OB (draw t.seed t.n i) N) 5 (w := wr.drew) HA.out.at_g (RD.drew HRA.out) HNE.out (one_bytes _) HROOM.out HSZ.out
        rw [HL1.out] at hr5
        refine wp_append_of (.tmp 44) (.tmp 50) 22 rfl rfl rfl hr5 ?_
        have hp5 : w5.heap[t.p]? = some (.cells (NxC t.sv (.slice la m lc) (k + j) c t.n true) 44 (0, 0)) := heap_upd HA.out.at_p (upd_drew hu5) HA.out.ne_pg
        replace hu5 := Lib.hid hu5
        refine hK _ _ (ActLeft.keep rfl fun _ => hp5) ?_
        clear hK K hr5
        refine lex_blind 3 (by kernel_rfl) ?_
        simp only [List.take_succ_cons, List.take_zero, List.drop_succ_cons, List.drop_zero, List.map_cons, List.map_nil, Act.put, List.setIfInBounds_toArray, List.set_cons_succ, List.set_cons_zero]
        repeat (go_big_quiet_step (fail))
        refine wpQuiet_nil ?_
        refine lex_reads 1 (by kernel_rfl) (by kernel_rfl) ?_
        simp only [List.take_succ_cons, List.take_zero, List.drop_succ_cons, List.drop_zero, List.map_cons, List.map_nil, Act.put, List.setIfInBounds_toArray, List.set_cons_succ, List.set_cons_zero]
        repeat (go_big_quiet_step (fail))
        refine wpQuiet_nil ?_
        refine lex_blind 2 (by kernel_rfl) ?_
        simp only [List.take_succ_cons, List.take_zero, List.drop_succ_cons, List.drop_zero, List.map_cons, List.map_nil, Act.put, List.setIfInBounds_toArray, List.set_cons_succ, List.set_cons_zero]
        repeat (go_big_quiet_step (fail))
        refine wpQuiet_nil ?_
        refine lex_blind 3 (by kernel_rfl) ?_
        simp only [List.take_succ_cons, List.take_zero, List.drop_succ_cons, List.drop_zero, List.map_cons, List.map_nil, Act.put, List.setIfInBounds_toArray, List.set_cons_succ, List.set_cons_zero]
        repeat (go_big_quiet_step (fail))
        refine wpQuiet_nil ?_
        refine lex_act rfl rfl (fun K hK => ?_)
        refine wp_store_upd 22 (.tmp 59) (.tmp 57) rfl t.p 1 (.slice ba (m - d) bc) rfl rfl _ _ hp5 info_sl (Nat.le_of_ble_eq_true rfl) (one_sl _ _ _) rfl ?_
        intro w6 hu6
        rw [put_left] at hu6
        replace hu6 := Lib.hid hu6
        refine hK _ _ (ActLeft.last rfl rfl) ?_
        clear hK K
        refine lex_nil ?_
        have HN2 := Lib.hid (HA.out.step HDM.out HDN.out HL1.out hu5.out hu6.out HPB.out)
        have hg : i + d + (N - (i + d)) = N := by have := HDN.out; omega
        have hgl : N - (i + d) < gk := by have h1 := HD1.out; have h2 := HDN.out; omega
        have HG := Lib.hid hg
        have HGL := Lib.hid hgl
        clear f1 ne hp5 hua hub hg hgl
        go_wp2_with fail
        go_roundg (N - (i + d))
        case measure => exact HGL.out
        case rel => exact ⟨i + d, HG.out, m - d, k, j, c, s, r, _, rfl, HN2.out⟩
    · obtain rfl : i = N := by have := HA.out.iN; omega
      have hp := Lib.hid HA.out.at_p
      have c4 : wr.cell? ⟨t.p, 4, none⟩ = some (.int .i64 (t.n : Int)) := by rw [cell_of_row _ t.p 4 _ _ _ hp.out]; rfl
      have hn0 : (0 : Int) ≤ (t.n : Int) := by omega
      have hn1 : (t.n : Int) + (i : Int) ≤ 1000000000 := by have := HS.out; omega
      go_wp2_with (refine wpList_store_upd rfl 3 (.tmp 67) (.tmp 65) rfl t.p 4 (.int .i64 ((t.n + i : Nat) : Int)) rfl rfl _ _ hp.out info_int (Nat.le_of_ble_eq_true rfl) (by simp [Value.cells, Value.oneCell']) rfl ?_; intro w4 hu4; rw [put_at] at hu4; replace hu4 := Lib.hid hu4)
      go_ret
      refine ⟨⟨t.p, t.sv, .slice la m lc, t.seed, m, k, j, t.n + i, some (c, s, r), true⟩, gq, rfl, ⟨HA.out.pos, HA.out.j4, (fun e => by cases e), HK.out.seed, HS.out, HA.out.m6⟩, rfl, rfl, rfl, ?_⟩
      rw [TP.blocks_some rfl]
      have h1 := (HA.out.hb.put 0 t.p rfl hu4.out).top
      have h2 := h1.perm (((List.Perm.swap _ _ _).cons _).trans (List.Perm.swap _ _ _))
      have e := OB_full (draw t.seed t.n i)
      rw [length_draw] at e
      rw [← e]
      exact h2
end Go.Proofs.YtmkpajhfgdffpaaDoor.Sh
