/- The reference: block. -/
import Derived.Test.YtlgaikknodoilaaDoorShRefB
import Derived.Test.YtlgaikknodoilaaDoorShGo
namespace Go.Proofs.YtlgaikknodoilaaDoor.Sh
set_option linter.unusedVariables false
set_option linter.unusedSimpArgs false
open Go Go.RowKit

structure BlkAt (w : World) (v : V8) (m : Bs) (s : V8) (pk pw px : Nat) (wr : World) : Prop where
  v0 : wr.heap[w.heap.size]? = some (.cells (A8 v) 51 (0, 0))
  r0 : wr.heap[w.heap.size + 1]? = some (.cells (A8 V8.zero) 51 (0, 0))
  k0 : wr.heap[pk]? = some (.cells KS 67 (0, 0))
  w0 : wr.heap[pw]? = some (.cells (W64 m 64) 67 (0, 0))
  x0 : wr.heap[px]? = some (.cells (A8 s) 51 (0, 0))
  lt1 : w.heap.size + 1 < pk
  lt2 : pk < pw
  lt3 : pw < px
  below : Below w.heap.size w wr
def W0 (w : World) (v : V8) : World := (w.alloc (.cells (A8 v) 51)).alloc (.cells z8 51)
theorem W0_v (w : World) (v : V8) : (W0 w v).heap[w.heap.size]? = some (.cells (A8 v) 51 (0, 0)) := heap_old (heap_new w _) _
theorem W0_r (w : World) (v : V8) : (W0 w v).heap[w.heap.size + 1]? = some (.cells z8 51 (0, 0)) := heap_new' (by simp) _
theorem W0_below (w : World) (v : V8) : Below w.heap.size w (W0 w v) := ((Below.refl _ _).alloc (Nat.le_refl _) _).alloc (by simp) _
theorem W0_size (w : World) (v : V8) : (W0 w v).heap.size = w.heap.size + 2 := by simp [W0]
section
variable {w w1 w2 w3 w4 : World} {v : V8} {m : Bs}
theorem blk_mid (hb1 : Below (W0 w v).heap.size (W0 w v) w1) (hb2 : Below w1.heap.size w1 w2)
    (hu5 : Upd w2.heap.size (.cells KS 67 (0, 0)) ((w2.alloc (.cells z64 67)).alloc (.cells z64 67)) w3)
    (hu6 : Upd (w2.heap.size + 1) (.cells (W64 m 64) 67 (0, 0)) w3 w4) {b : Nat} {x : Obj} (h : (W0 w v).heap[b]? = some x) : w4.heap[b]? = some x := by
  have hs := W0_size w v
  have hlt := lt_of_heap h
  have h1 : (W0 w v).heap.size ≤ w1.heap.size := hb1.size
  have h2 : w1.heap.size ≤ w2.heap.size := hb2.size
  have := heap_below (heap_below h hb1 hlt) hb2 (by omega)
  exact heap_upd (heap_upd (heap_old (heap_old this _) _) hu5 (by omega)) hu6 (by omega)
theorem blk_start (hb1 : Below (W0 w v).heap.size (W0 w v) w1) (hb2 : Below w1.heap.size w1 w2)
    (hu5 : Upd w2.heap.size (.cells KS 67 (0, 0)) ((w2.alloc (.cells z64 67)).alloc (.cells z64 67)) w3)
    (hu6 : Upd (w2.heap.size + 1) (.cells (W64 m 64) 67 (0, 0)) w3 w4) {w6 : World}
    (hu7 : Upd w4.heap.size (.cells (A8 v) 51 (0, 0)) (w4.alloc (.cells z8 51)) w6) : BlkAt w v m v w2.heap.size (w2.heap.size + 1) w4.heap.size w6 := by
  have hs := W0_size w v
  have h1 : (W0 w v).heap.size ≤ w1.heap.size := hb1.size
  have h2 : w1.heap.size ≤ w2.heap.size := hb2.size
  have hv := blk_mid hb1 hb2 hu5 hu6 (W0_v w v)
  have hr := blk_mid hb1 hb2 hu5 hu6 (W0_r w v)
  have hk : w4.heap[w2.heap.size]? = some (.cells KS 67 (0, 0)) := heap_upd hu5.here hu6 (by omega)
  have hw := hu6.here
  have l3 := lt_of_heap hw
  have b4 : Below w.heap.size w w4 := (((((W0_below w v).trans (hb1.mono (by omega))).trans (hb2.mono (by omega))).alloc (by omega) _).alloc (by rw [World.size_alloc]; omega) _).trans ((hu5.below (by omega)).trans (hu6.below (by omega)))
  exact ⟨heap_upd (heap_old hv _) hu7 (by omega), heap_upd (heap_old hr _) hu7 (by omega), heap_upd (heap_old hk _) hu7 (by omega), heap_upd (heap_old hw _) hu7 (by omega), hu7.here, by omega, by omega, l3, (b4.alloc (by omega) _).trans (hu7.below (by omega))⟩
end
theorem BlkAt.drewN {w wr : World} {v s : V8} {m : Bs} {pk pw px : Nat} (h : BlkAt w v m s pk pw px wr) (n : Nat) : BlkAt w v m s pk pw px (wr.drewN n) :=
  ⟨h.v0, h.r0, h.k0, h.w0, h.x0, h.lt1, h.lt2, h.lt3, h.below.trans (c := wr.drewN n) ⟨rfl, rfl, rfl, Nat.le_refl _, fun _ _ => rfl⟩⟩
theorem BlkAt.step {w wr w2 : World} {v s s2 : V8} {m : Bs} {pk pw px : Nat} (h : BlkAt w v m s pk pw px wr)
    (hu : Upd px (.cells (A8 s2) 51 (0, 0)) wr w2) : BlkAt w v m s2 pk pw px w2 := by
  have l1 := h.lt1
  have l2 := h.lt2
  have l3 := h.lt3
  exact ⟨heap_upd h.v0 hu (by omega), heap_upd h.r0 hu (by omega), heap_upd h.k0 hu (by omega), heap_upd h.w0 hu (by omega), hu.here, h.lt1, h.lt2, h.lt3, h.below.trans (hu.below (by omega))⟩
theorem BlkAt.x {w wr : World} {v s : V8} {m : Bs} {pk pw px : Nat} (h : BlkAt w v m s pk pw px wr) (i : Nat) : wr.cell? ⟨px, i, none⟩ = (A8 s)[i]? := cell_of_row wr px i _ _ _ h.x0
theorem BlkAt.k {w wr : World} {v s : V8} {m : Bs} {pk pw px : Nat} (h : BlkAt w v m s pk pw px wr) (i : Nat) (hi : i < 64) : wr.cell? ⟨pk, i, none⟩ = some (.int .u32 ((ks.getD i 0).toNat : Int)) := by
  rw [cell_of_row wr pk i _ _ _ h.k0]; exact ks_get i hi
theorem BlkAt.w {w wr : World} {v s : V8} {m : Bs} {pk pw px : Nat} (h : BlkAt w v m s pk pw px wr) (i : Nat) (hi : i < 64) : wr.cell? ⟨pw, i, none⟩ = some (.int .u32 (((sched m 64).getD i 0).toNat : Int)) := by
  rw [cell_of_row wr pw i _ _ _ h.w0]; exact W64_get m 64 i hi

structure Blk3 (w : World) (v s : V8) (px k : Nat) (wt : World) : Prop where
  v0 : wt.heap[w.heap.size]? = some (.cells (M8 v s k) 51 (0, 0))
  r0 : wt.heap[w.heap.size + 1]? = some (.cells (A8 V8.zero) 51 (0, 0))
  x0 : wt.heap[px]? = some (.cells (A8 s) 51 (0, 0))
  lt : w.heap.size + 1 < px
  below : Below w.heap.size w wt
theorem BlkAt.three {w wr : World} {v s : V8} {m : Bs} {pk pw px : Nat} (h : BlkAt w v m s pk pw px wr) : Blk3 w v s px 0 wr := by
  have l1 := h.lt1
  have l2 := h.lt2
  have l3 := h.lt3
  exact ⟨h.v0, h.r0, h.x0, by omega, h.below⟩
theorem Blk3.cell {w wt : World} {v s : V8} {px k : Nat} (h : Blk3 w v s px k wt) (hk : k < 8) : wt.cell? ⟨w.heap.size, k, none⟩ = some (.int .u32 ((v.list.getD k 0).toNat : Int)) := by
  rw [cell_of_row wt _ k _ _ _ h.v0, M8_get v s k hk]; rfl
theorem Blk3.xcell {w wt : World} {v s : V8} {px k : Nat} (h : Blk3 w v s px k wt) (hk : k < 8) : wt.cell? ⟨px, k, none⟩ = some (.int .u32 ((s.list.getD k 0).toNat : Int)) := by
  rw [cell_of_row wt _ k _ _ _ h.x0, A8_get s k hk]; rfl
theorem Blk3.drewN {w wr : World} {v s : V8} {px k : Nat} (h : Blk3 w v s px k wr) (n : Nat) : Blk3 w v s px k (wr.drewN n) :=
  ⟨h.v0, h.r0, h.x0, h.lt, h.below.trans (c := wr.drewN n) ⟨rfl, rfl, rfl, Nat.le_refl _, fun _ _ => rfl⟩⟩
theorem Blk3.step {w wt w2 : World} {v s : V8} {px k : Nat} (h : Blk3 w v s px k wt) (hk : k < 8)
    (hu : Upd w.heap.size (.cells (put (M8 v s k) k (wv (v.list.getD k 0 + s.list.getD k 0)).cells) 51 (0, 0)) wt w2) : Blk3 w v s px (k + 1) w2 := by
  have l := h.lt
  exact ⟨by rw [← M8_step v s k hk]; exact hu.here, heap_upd h.r0 hu (by omega), heap_upd h.x0 hu (by omega), h.lt, h.below.trans (hu.below (by omega))⟩

theorem le_KS : 0 + (Value.agg KS).cells.size ≤ z64.size := Nat.le_of_eq ((Nat.zero_add _).trans size_KS)
theorem le_W64 (m : Bs) : 0 + (Value.agg (W64 m 64)).cells.size ≤ z64.size := Nat.le_of_eq ((Nat.zero_add _).trans (size_W64 m 64 (Nat.le_refl _)))
theorem put_KS : put z64 0 (Value.agg KS).cells = KS := put_whole _ _ size_KS.symm
theorem put_W64 (m : Bs) : put z64 0 (Value.agg (W64 m 64)).cells = W64 m 64 := put_whole _ _ (size_W64 m 64 (Nat.le_refl _)).symm
theorem put_A8 (v : V8) : put z8 0 (Value.agg (A8 v)).cells = A8 v := rfl
theorem info_KS : (Tryd.prog.info? 67).map (·.size) = some (Value.agg KS).cells.size := info_a64v _ size_KS
theorem info_W64 (m : Bs) : (Tryd.prog.info? 67).map (·.size) = some (Value.agg (W64 m 64)).cells.size := info_a64v _ (size_W64 m 64 (Nat.le_refl _))

theorem max_u32 : IntKind.u32.max = 4294967295 := rfl
theorem rref_a (s : V8) (kk ww : W) :
    ((s.h.toNat : Int) + bits .xor .u32 (bits .xor .u32 ((rotr s.e 6).toNat : Int) ((rotr s.e 11).toNat : Int)) ((rotr s.e 25).toNat : Int)
        + bits .xor .u32 (bits .and .u32 (s.e.toNat : Int) (s.f.toNat : Int)) (bits .and .u32 (bits .xor .u32 IntKind.u32.max (s.e.toNat : Int)) (s.g.toNat : Int)) + (kk.toNat : Int) + (ww.toNat : Int)
      + (bits .xor .u32 (bits .xor .u32 ((rotr s.a 2).toNat : Int) ((rotr s.a 13).toNat : Int)) ((rotr s.a 22).toNat : Int)
        + bits .xor .u32 (bits .xor .u32 (bits .and .u32 (s.a.toNat : Int) (s.b.toNat : Int)) (bits .and .u32 (s.a.toNat : Int) (s.c.toNat : Int))) (bits .and .u32 (s.b.toNat : Int) (s.c.toNat : Int)))) % 4294967296
      = ((rnd s kk ww).a.toNat : Int) := by
  rw [max_u32]
  simp only [u32_xor, u32_and, u32_not]
  rw [show (rnd s kk ww).a = s.h + bs1 s.e + ch s.e s.f s.g + kk + ww + (bs0 s.a + maj s.a s.b s.c) from rfl, ← ch_alt, ← maj_alt, ← u32_add', ← u32_add', ← u32_add', ← u32_add', ← u32_add', ← u32_add']
  show _ = (((((((s.h.toNat : Int) + ((rotr s.e 6 ^^^ rotr s.e 11 ^^^ rotr s.e 25).toNat : Int)) % 4294967296 + _) % 4294967296 + _) % 4294967296 + _) % 4294967296 + (((rotr s.a 2 ^^^ rotr s.a 13 ^^^ rotr s.a 22).toNat : Int) + _) % 4294967296) % 4294967296)
  generalize (rotr s.e 6 ^^^ rotr s.e 11 ^^^ rotr s.e 25).toNat = x1
  generalize (rotr s.a 2 ^^^ rotr s.a 13 ^^^ rotr s.a 22).toNat = x2
  generalize (s.e &&& s.f ^^^ ~~~s.e &&& s.g).toNat = x3
  generalize (s.a &&& s.b ^^^ s.a &&& s.c ^^^ s.b &&& s.c).toNat = x4
  omega
theorem rref_e (s : V8) (kk ww : W) :
    ((s.d.toNat : Int) + ((s.h.toNat : Int) + bits .xor .u32 (bits .xor .u32 ((rotr s.e 6).toNat : Int) ((rotr s.e 11).toNat : Int)) ((rotr s.e 25).toNat : Int)
        + bits .xor .u32 (bits .and .u32 (s.e.toNat : Int) (s.f.toNat : Int)) (bits .and .u32 (bits .xor .u32 IntKind.u32.max (s.e.toNat : Int)) (s.g.toNat : Int)) + (kk.toNat : Int) + (ww.toNat : Int))) % 4294967296
      = ((rnd s kk ww).e.toNat : Int) := by
  rw [max_u32]
  simp only [u32_xor, u32_and, u32_not]
  rw [show (rnd s kk ww).e = s.d + (s.h + bs1 s.e + ch s.e s.f s.g + kk + ww) from rfl, ← ch_alt, ← u32_add', ← u32_add', ← u32_add', ← u32_add', ← u32_add']
  show _ = ((s.d.toNat : Int) + (((((s.h.toNat : Int) + ((rotr s.e 6 ^^^ rotr s.e 11 ^^^ rotr s.e 25).toNat : Int)) % 4294967296 + _) % 4294967296 + _) % 4294967296 + _) % 4294967296) % 4294967296
  generalize (rotr s.e 6 ^^^ rotr s.e 11 ^^^ rotr s.e 25).toNat = x1
  generalize (s.e &&& s.f ^^^ ~~~s.e &&& s.g).toNat = x3
  omega

set_option maxRecDepth 100000 in
set_option maxHeartbeats 2000000 in
theorem rblock_calls (v : V8) (sv : Value) (m : Bs) (w : World) (hv : RD w.heap.size w sv m) (hm : 64 ≤ m.length) :
    Calls Tryd.prog 45 #[.agg (A8 v), sv] w fun e w' => e = .returned (.agg (A8 (comp v m))) ∧ Below w.heap.size w w' := by
  have hvv := Lib.hid (show RD (W0 w v).heap.size (W0 w v) sv m from (hv.below (W0_below w v)).mono (W0_below w v).size)
  clear hv
  go_enter Tryd.func45, Tryd.ntmps45
  go_upto_region 2 with (first
    | (go_at_call 51; refine (rconstants_calls (W0 w v)).mono ?_; rintro e w1 ⟨rfl, hb1⟩; replace hb1 := Lib.hid hb1)
    | (go_at_call 52; refine (rwords_calls sv m w1 ((hvv.out.below hb1.out).mono hb1.out.size) hm).mono ?_; rintro e w2 ⟨rfl, hb2⟩; replace hb2 := Lib.hid hb2)
    | (refine wpList_store_upd rfl 67 (.tmp 5) (.tmp 14) rfl w2.heap.size 0 (.agg KS) rfl rfl _ z64 (heap_old (heap_new w2 _) _) info_KS le_KS one_KS rfl ?_; intro w3 hu5; rw [put_KS] at hu5; replace hu5 := Lib.hid (show Upd w2.heap.size (.cells KS 67 (0, 0)) ((w2.alloc (.cells z64 67)).alloc (.cells z64 67)) w3 from hu5))
    | (refine wpList_store_upd rfl 67 (.tmp 6) (.tmp 16) rfl (w2.heap.size + 1) 0 (.agg (W64 m 64)) rfl rfl _ z64 (heap_upd (heap_new2 w2 _ _) hu5.out (Nat.succ_ne_self _)) (info_W64 m) (le_W64 m) (one_W64 _ _) rfl ?_; intro w4 hu6; rw [put_W64] at hu6; replace hu6 := Lib.hid hu6))
  go_wp2_with (first
    | (refine wpList_load_blk rfl 51 (.tmp 2) rfl w.heap.size 0 rfl _ _ _ (blk_mid hb1.out hb2.out hu5.out hu6.out (W0_v w v)) (A8 v) (List.take_of_length_le (Nat.le_refl _)) _ Tryd.underlying51 rfl (info_a8v v) ?_)
    | (refine wpList_store_upd rfl 51 (.tmp 7) (.tmp 17) rfl w4.heap.size 0 (.agg (A8 v)) rfl rfl _ z8 (heap_new w4 _) (info_a8v _) (Nat.le_refl 8) (one_A8 _) rfl ?_; intro w6 hu7; rw [put_A8] at hu7; replace hu7 := Lib.hid hu7))
  have hS := Lib.hid (blk_start hb1.out hb2.out hu5.out hu6.out hu7.out)
  generalize w2.heap.size + 1 = pw at *
  generalize w2.heap.size = pk at *
  generalize w4.heap.size = px at *
  clear hb1 hb2 hu5 hu6 hu7 hvv
  go_loopg [8] 64 (fun g i wr => ∃ k : Nat, k + g = 64 ∧ i = .int .i64 k ∧ BlkAt w v m (st v m k) pk pw px wr)
  case atStart => exact ⟨0, rfl, rfl, hS.out⟩
  case round =>
    obtain ⟨k, hk, rfl, hB⟩ := hrel
    clear hS
    by_cases hlt : k < 64
    · have yk := hB.k k hlt
      have yw := hB.w k hlt
      have hst := Lib.hid (show st v m (k + 1) = rnd (st v m k) (ks.getD k 0) ((sched m 64).getD k 0) from rfl)
      generalize ks.getD k 0 = kk at yk hst
      generalize (sched m 64).getD k 0 = ww at yw hst
      generalize st v m k = s at *
      have c0 : wr.cell? ⟨px, 0, none⟩ = some (.int .u32 (s.a.toNat : Int)) := by rw [hB.x 0]; rfl
      have c4 : wr.cell? ⟨px, 4, none⟩ = some (.int .u32 (s.e.toNat : Int)) := by rw [hB.x 4]; rfl
      go_upto_region 6 with fail
      go_quiet (fail)
      go_upto_region 7 with fail
      replace hB := hB.drewN nq
      replace yk : (wr.drewN nq).cell? _ = _ := yk
      replace yw : (wr.drewN nq).cell? _ = _ := yw
      clear c0 c4
      generalize wr.drewN nq = wa at *
      have c5 : wa.cell? ⟨px, 5, none⟩ = some (.int .u32 (s.f.toNat : Int)) := by rw [hB.x 5]; rfl
      have c6 : wa.cell? ⟨px, 6, none⟩ = some (.int .u32 (s.g.toNat : Int)) := by rw [hB.x 6]; rfl
      have c7 : wa.cell? ⟨px, 7, none⟩ = some (.int .u32 (s.h.toNat : Int)) := by rw [hB.x 7]; rfl
      go_quiet ((go_at_call 53; exact Calls.quiet_of (rturn_callsI _ _ (by omega) (by omega) _)))
      go_upto_region 8 with fail
      replace hB := hB.drewN nq
      clear c5 c6 c7 yk yw
      generalize wa.drewN nq = wb at *
      have c1 : wb.cell? ⟨px, 1, none⟩ = some (.int .u32 (s.b.toNat : Int)) := by rw [hB.x 1]; rfl
      have c2 : wb.cell? ⟨px, 2, none⟩ = some (.int .u32 (s.c.toNat : Int)) := by rw [hB.x 2]; rfl
      go_quiet ((go_at_call 53; exact Calls.quiet_of (rturn_callsI _ _ (by omega) (by omega) _)))
      go_upto_region 9 with fail
      replace hB := hB.drewN nq
      clear c1 c2
      generalize wb.drewN nq = wc at *
      have c1 : wc.cell? ⟨px, 1, none⟩ = some (.int .u32 (s.b.toNat : Int)) := by rw [hB.x 1]; rfl
      have c2 : wc.cell? ⟨px, 2, none⟩ = some (.int .u32 (s.c.toNat : Int)) := by rw [hB.x 2]; rfl
      have c3 : wc.cell? ⟨px, 3, none⟩ = some (.int .u32 (s.d.toNat : Int)) := by rw [hB.x 3]; rfl
      have c5 : wc.cell? ⟨px, 5, none⟩ = some (.int .u32 (s.f.toNat : Int)) := by rw [hB.x 5]; rfl
      have c6 : wc.cell? ⟨px, 6, none⟩ = some (.int .u32 (s.g.toNat : Int)) := by rw [hB.x 6]; rfl
      have HB := Lib.hid hB
      clear hB
      go_wp2_with (refine wpList_store_upd rfl 51 (.tmp 7) (.tmp 97) rfl px 0 (.agg (A8 (rnd s kk ww))) rfl ?_ _ _ HB.out.x0 (info_a8v _) (Nat.le_refl 8) (one_A8 _) rfl ?_; rotate_right; intro w6 hu7; rw [show put (A8 s) 0 (Value.agg (A8 (rnd s kk ww))).cells = A8 (rnd s kk ww) from rfl] at hu7; replace hu7 := Lib.hid hu7)
      · have HN := Lib.hid (HB.out.step hu7.out)
        clear hu7 HB
        go_roundg (gk - 1)
        case measure => omega
        case rel => exact ⟨k + 1, by omega, by go_num, by rw [hst.out]; exact HN.out⟩
      · rw [show A8 (rnd s kk ww) = #[wv (rnd s kk ww).a, wv s.a, wv s.b, wv s.c, wv (rnd s kk ww).e, wv s.e, wv s.f, wv s.g] from rfl, show wv (rnd s kk ww).a = Value.int .u32 ((rnd s kk ww).a.toNat : Int) from rfl, show wv (rnd s kk ww).e = Value.int .u32 ((rnd s kk ww).e.toNat : Int) from rfl, ← rref_a s kk ww, ← rref_e s kk ww]
        rfl
    · obtain rfl : k = 64 := by omega
      have hT5 := Lib.hid hB.three
      generalize hs : st v m 64 = s at *
      have HS := Lib.hid hs
      clear hs hB hlt hk
      go_wp2_with fail
      go_loopg [13] 8 (fun g i wt => ∃ k : Nat, k + g = 8 ∧ i = .int .i64 k ∧ Blk3 w v s px k wt)
      case atStart => exact ⟨0, rfl, rfl, hT5.out⟩
      case round =>
        obtain ⟨k, hk2, rfl, hT6⟩ := hrel
        by_cases hlt : k < 8
        · have yk := hT6.cell hlt
          have yx := hT6.xcell hlt
          have H6 := Lib.hid hT6
          generalize hx : s.list.getD k 0 = x at yx
          generalize hy : v.list.getD k 0 = y at yk
          have HX := Lib.hid hx
          have HY := Lib.hid hy
          clear hT6 hT5 hx hy
          go_upto_region 13 with fail
          refine wp_region_quiet_tail 9 (fun w' => ∃ n, w' = wr.drewN n) ⟨1, rfl⟩ (by kernel_rfl) (by kernel_rfl) ?_
          simp only [List.take_succ_cons, List.take_zero, List.drop_succ_cons, List.drop_zero]
          repeat (go_big_quiet_step (fail))
          refine wpQuiet_nil ?_
          intro _ hw'
          obtain ⟨nq, hw''⟩ := hw'
          subst hw''
          refine wpList_store_upd rfl 50 _ _ rfl w.heap.size k (wv (y + x)) rfl (congrArg (Value.int .u32) (u32_add' y x)) _ _ (H6.out.drewN _).v0 info_u32 ?_ (one_wv _) rfl ?_
          rotate_right
          · intro w2 hu2
            have H7 := Lib.hid ((H6.out.drewN _).step hlt (by rw [HX.out, HY.out]; exact hu2))
            clear hu2 H6
            go_wp2_with fail
            go_roundg (gk - 1)
            case measure => omega
            case rel => exact ⟨k + 1, by omega, by go_num, H7.out⟩
          · rw [size_M8 v s k (by omega)]; exact (by omega : k + 1 ≤ 8)
        · obtain rfl : k = 8 := by omega
          have H6 := Lib.hid hT6
          clear hT6 hT5
          go_wp2_with (first
            | (refine wpList_load_blk rfl 51 (.tmp 2) rfl w.heap.size 0 rfl _ _ _ H6.out.v0 (M8 v s 8) rfl _ Tryd.underlying51 rfl info_a8 ?_)
            | (refine wpList_store_upd rfl 51 _ _ rfl (w.heap.size + 1) 0 (.agg (A8 (v.add s))) rfl rfl _ _ H6.out.r0 (info_a8v _) (Nat.le_refl 8) (one_A8 _) rfl ?_; intro w2 hu2))
          refine bodyPost_ret (ret_row (P := Tryd.prog) rfl _ (w.heap.size + 1) _ (A8 (v.add s)) _ _ rfl hu2.here Tryd.underlying51 rfl info_a8) rfl ⟨?_, ?_⟩
          · rw [← HS.out, comp]
          · exact H6.out.below.trans (hu2.below (by omega))
end Go.Proofs.YtlgaikknodoilaaDoor.Sh
