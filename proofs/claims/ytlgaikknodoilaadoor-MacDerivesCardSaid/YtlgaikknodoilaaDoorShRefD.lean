/- The reference: Sum. -/
import Derived.Test.YtlgaikknodoilaaDoorShRefC
namespace Go.Proofs.YtlgaikknodoilaaDoor.Sh
set_option linter.unusedVariables false
set_option linter.unusedSimpArgs false
open Go Go.RowKit

def WZ (w : World) : World := w.alloc (.cells z32 24)
theorem WZ_size (w : World) : (WZ w).heap.size = w.heap.size + 1 := by simp [WZ]
theorem WZ_below (w : World) : Below w.heap.size w (WZ w) := (Below.refl _ _).alloc (Nat.le_refl _) _

/-- The eight words behind q blocks, and the text with its padding. -/
structure SumAt (w : World) (m : Bs) (av : Value) (p q : Nat) (wr : World) : Prop where
  r : wr.heap[w.heap.size]? = some (.cells z32 24 (0, 0))
  x : wr.heap[p]? = some (.cells (A8 (absorb (padded m) q)) 51 (0, 0))
  rd : RD p wr av (padded m)
  lt : w.heap.size < p
  below : Below w.heap.size w wr
theorem sum_start {w wr w1 w2 : World} {m : Bs} {av : Value} (hP : PadAt (WZ w).heap.size (WZ w) av (padded m) wr) (hb1 : Below wr.heap.size wr w1)
    (hu : Upd w1.heap.size (.cells (A8 first) 51 (0, 0)) (w1.alloc (.cells z8 51)) w2) : SumAt w m av w1.heap.size 0 w2 := by
  have hs := WZ_size w
  have h1 := hP.below.size
  have h2 := hb1.size
  have hz : (WZ w).heap[w.heap.size]? = some (.cells z32 24 (0, 0)) := heap_new w _
  refine ⟨heap_upd (heap_old (heap_below (heap_below hz hP.below (by omega)) hb1 (by omega)) _) hu (by omega), hu.here, ?_, by omega, ?_⟩
  · have := RV.of_owns hP.own
    have h3 : RD wr.heap.size wr av (padded m) := this
    exact ((h3.below hb1).mono h2).below (((Below.refl _ _).alloc (Nat.le_refl _) _).trans (hu.below (Nat.le_refl _)))
  · exact (((WZ_below w).trans (hP.below.mono (by omega))).trans (hb1.mono (by omega))).trans (((Below.refl _ _).alloc (by omega) _).trans (hu.below (by omega)))
theorem SumAt.step {w wr w5 w6 : World} {m : Bs} {av : Value} {p q : Nat} (h : SumAt w m av p q wr) (hb5 : Below wr.heap.size wr w5)
    (hu : Upd p (.cells (A8 (comp (absorb (padded m) q) (((padded m).drop (64 * q)).take 64))) 51 (0, 0)) w5 w6) : SumAt w m av p (q + 1) w6 := by
  have l := h.lt
  have lp := lt_of_heap h.x
  exact ⟨heap_upd (heap_below h.r hb5 (by omega)) hu (by omega), hu.here, (h.rd.below (hb5.mono (by omega))).below (hu.below (Nat.le_refl _)), h.lt, (h.below.trans (hb5.mono (by omega))).trans (hu.below (by omega))⟩

structure Out2 (w : World) (V : V8) (p po k : Nat) (wt : World) : Prop where
  r : wt.heap[w.heap.size]? = some (.cells z32 24 (0, 0))
  x : wt.heap[p]? = some (.cells (A8 V) 51 (0, 0))
  o : wt.heap[po]? = some (.cells (O32 V k) 24 (0, 0))
  lt1 : w.heap.size < p
  lt2 : p < po
  below : Below w.heap.size w wt
theorem O32_zero (V : V8) : O32 V 0 = z32 := rfl
theorem SumAt.out {w wr : World} {m : Bs} {av : Value} {p q : Nat} (h : SumAt w m av p q wr) : Out2 w (absorb (padded m) q) p wr.heap.size 0 (wr.alloc (.cells z32 24)) := by
  have l := h.lt
  have lp := lt_of_heap h.x
  exact ⟨heap_old h.r _, heap_old h.x _, by rw [O32_zero]; exact heap_new wr _, h.lt, lp, h.below.trans ((Below.refl _ _).alloc (by omega) _)⟩
theorem Out2.word {w wt : World} {V : V8} {p o k : Nat} (h : Out2 w V p o k wt) (j : Nat) (hj : j < 8) : wt.cell? ⟨p, j, none⟩ = some (.int .u32 ((V.list.getD j 0).toNat : Int)) := by
  rw [cell_of_row wt _ j _ _ _ h.x, A8_get V j hj]; rfl
theorem Out2.step {w wt w2 : World} {V : V8} {p o k : Nat} (h : Out2 w V p o k wt) (hk : k < 32) (hu : Upd o (.cells (put (O32 V k) k (bv (byteOf (V.list.getD (k / 4) 0) k)).cells) 24 (0, 0)) wt w2) : Out2 w V p o (k + 1) w2 := by
  have l1 := h.lt1
  have l2 := h.lt2
  exact ⟨heap_upd h.r hu (by omega), heap_upd h.x hu (by omega), by rw [← O32_step V k hk]; exact hu.here, h.lt1, h.lt2, h.below.trans (hu.below (by omega))⟩
theorem len_val' (n j : Nat) (hj : j < 8) : ((8 * (n : Int)) / 2 ^ (8 * (7 - j)) % 256) = ((UInt8.ofNat ((8 * n) >>> (56 - 8 * j))).toNat : Int) := by
  rw [show 8 * (7 - j) = 56 - 8 * j by omega, Int.mul_comm]
  exact len_val n _
theorem pad_copy {w w1 : World} {v : Value} {m : Bs} (ho : Own (WZ w).heap.size w1 v m) (hb : Below (WZ w).heap.size (WZ w) w1) : PadAt (WZ w).heap.size (WZ w) v m w1 := ⟨ho, hb, Nat.le_refl _⟩

set_option maxRecDepth 100000 in
set_option maxHeartbeats 2000000 in
theorem rsum_calls (v : Value) (m : Bs) (w : World) (hv : RD w.heap.size w v m) (hlen : m.length ≤ 500000) :
    Calls Tryd.prog 35 #[v] w fun e w' => e = .returned (.agg (A32 (sha m))) ∧ Below w.heap.size w w' := by
  have hvv := Lib.hid (show RD (WZ w).heap.size (WZ w) v m from (hv.below (WZ_below w)).mono (WZ_below w).size)
  obtain ⟨va, vc, rfl, hvc, hvm⟩ := hv.form
  clear hv
  have hl0 : m.length ≤ 140737488355328 := by omega
  have HL0 := Lib.hid hl0
  clear hl0
  go_enter Tryd.func35, Tryd.ntmps35
  go_wp2_with (first
    | (go_at_call 13; refine (copyBytes_calls _ m (WZ w) hvv.out HL0.out).mono ?_; rintro e w1 ⟨v1, rfl, ho1, hb1⟩; have hP1 := Lib.hid (pad_copy ho1 hb1); clear ho1 hb1)
    | (at_builtin; refine wpList_append_mine rfl (.tmp 11) (.tmp 12) 22 rfl elem_u8 rfl rfl (hP1.out.own.alloc _) hP1.out.base_le (rv_byte w1 128) (one_bytes [128]) (small_len (by simp; omega)) (small_bytes (by simp; omega)) ?_; intro v' w' hg ho; have hP2 := Lib.hid (hP1.out.push hg ho); clear hg ho))
  clear hP1
  go_loopg [3] (zeros m.length) (fun g pv wr => ∃ k : Nat, k + g = zeros m.length ∧ PadAt (WZ w).heap.size (WZ w) pv (m ++ 128 :: List.replicate k 0) wr)
  case atStart => exact ⟨0, by omega, hP2.out⟩
  case round =>
    obtain ⟨k, hk, hP⟩ := hrel
    have hz : zeros m.length = (119 - m.length % 64) % 64 := rfl
    rw [hz] at hk
    clear hz hP2
    obtain ⟨pb, pc, rfl, hcap⟩ := hP.form (by simp)
    have HP := Lib.hid hP
    clear hP
    simp only [List.length_append, List.length_cons, List.length_replicate] at *
    by_cases hlt : 0 < gk
    · go_wp2_with (at_builtin; refine wpList_append_mine rfl (.tmp 18) (.tmp 19) 22 rfl elem_u8 rfl rfl (HP.out.own.alloc _) (HP.out.base_le) (rv_byte wr 0) (one_bytes [0]) (small_len (by simp; omega)) (small_bytes (by simp; omega)) ?_; intro v' w' hg ho; replace ho := Lib.hid ho)
      have HN := Lib.hid (HP.out.push hg ho.out)
      clear hg ho HP
      go_wp2_with fail
      go_roundg (gk - 1)
      case measure => omega
      case rel => exact ⟨k + 1, by rw [show zeros m.length = (119 - m.length % 64) % 64 from rfl]; omega, by rw [List.replicate_succ', ← List.cons_append, ← List.append_assoc]; exact HN.out⟩
    · have hk0 : k = (119 - m.length % 64) % 64 := by omega
      have HP0 : Hid (PadAt (WZ w).heap.size (WZ w) (.slice (some ⟨pb, 0, none⟩) (m.length + (k + 1)) pc) (m ++ (pre m ++ (len8 (8 * m.length)).take 0)) wr) := by
        have := HP.out
        rw [show pre m ++ (len8 (8 * m.length)).take 0 = 128 :: List.replicate k 0 from by rw [List.take_zero, List.append_nil, hk0]; rfl]
        exact this
      have hb56 : (((m.length : Int) + ((k : Int) + 1)) % 64 != 56) = false := by rw [bne_eq_false_iff_eq]; omega
      clear hk0 HP
      go_wp2_with fail
      go_loopg [3, 5] 8 (fun g pv iv wr => ∃ j : Nat, j + g = 8 ∧ iv = .int .i64 (7 - (j : Int)) ∧ PadAt (WZ w).heap.size (WZ w) pv (m ++ (pre m ++ (len8 (8 * m.length)).take j)) wr)
      case atStart => exact ⟨0, rfl, rfl, HP0.out⟩
      case round =>
        obtain ⟨j, hj, rfl, hP⟩ := hrel
        obtain ⟨pb2, pc2, rfl, hcap2⟩ := hP.form (by simp [pre])
        have HP := Lib.hid hP
        clear hP HP0
        by_cases hlt : j < 8
        · go_wp2_with (at_builtin; refine wpList_append_mine rfl (.tmp 28) (.tmp 34) 22 rfl elem_u8 rfl rfl (HP.out.own.alloc _) (HP.out.base_le) (B := wr.heap.size + 1) (ys := [UInt8.ofNat ((8 * m.length) >>> (56 - 8 * j))].map bv) ?_ (one_bytes _) (small_len (by simp [pre, zeros]; omega)) (small_bytes (by simp [pre, zeros]; omega)) ?_; rotate_right; intro v' w' hg ho; replace ho := Lib.hid ho)
          · have HN := Lib.hid (HP.out.push hg ho.out)
            clear hg ho HP
            go_wp2_with fail
            go_roundg (gk - 1)
            case measure => omega
            case rel => exact ⟨j + 1, by omega, by go_num, by rw [len8_take _ j hlt, ← List.append_assoc (pre m), ← List.append_assoc m]; exact HN.out⟩
          · refine RV.eq_cells (len_val' m.length j hlt) ?_
            exact rv_byte wr _
        · obtain rfl : j = 8 := by omega
          have hpd : m ++ (pre m ++ (len8 (8 * m.length)).take 8) = padded m := by
            rw [List.take_of_length_le (Nat.le_of_eq (length_len8 _))]; rfl
          rw [hpd] at HP hcap2 ⊢
          clear hpd hlt hj
          go_upto_region 11 with (first
            | (go_at_call 44; refine (rfirst_calls wr).mono ?_; rintro e w1 ⟨rfl, hb1⟩; replace hb1 := Lib.hid hb1)
            | (refine wpList_store_upd rfl 51 (.tmp 6) (.tmp 36) rfl w1.heap.size 0 (.agg (A8 first)) rfl rfl _ z8 (heap_new w1 _) (info_a8v _) (Nat.le_refl 8) (one_A8 _) rfl ?_; intro w2 hu2; rw [put_A8] at hu2; replace hu2 := Lib.hid hu2))
          have hS := Lib.hid (sum_start HP.out hb1.out hu2.out)
          have hpl := padded_whole m
          have hpb : (padded m).length ≤ 1000000 := by rw [length_padded]; simp only [zeros]; omega
          obtain ⟨Q, hQ⟩ : ∃ Q, (padded m).length = 64 * Q := ⟨(padded m).length / 64, by omega⟩
          have hst : absorb (padded m) Q = state (padded m) := by rw [state, hQ, Nat.mul_div_cancel_left _ (by decide)]
          have HST := Lib.hid hst
          rw [hQ] at hcap2 hpb ⊢
          have HQ := Lib.hid hQ
          generalize w1.heap.size = pv at *
          have hS2 : Hid (SumAt w m (.slice (some ⟨pb2, 0, none⟩) (64 * Q) pc2) pv 0 w2) := by
            have := hS.out
            rwa [HQ.out] at this
          have hcm : pc2 ≤ maxLen := by
            obtain ⟨_, ⟨e, _⟩ | ⟨g, cap, cur, e, _, _, _, h, _⟩⟩ := HP.out.own
            · cases e
            · simp only [Value.slice.injEq] at e
              omega
          clear hS hpl hst hQ HP hb1 hu2 hb56 hcm
          go_loopg [7] Q (fun g i wr => ∃ q : Nat, q + g = Q ∧ i = .int .i64 (64 * (q : Int)) ∧ SumAt w m (.slice (some ⟨pb2, 0, none⟩) (64 * Q) pc2) pv q wr)
          case atStart => exact ⟨0, by omega, rfl, hS2.out⟩
          case round =>
            obtain ⟨q, hq, rfl, hS⟩ := hrel
            have HS := Lib.hid hS
            clear hS2
            by_cases hlt : q < Q
            · obtain ⟨us, hsl0, hur⟩ := cut_both (P := Tryd.prog) elem_u8 (a := some ⟨pb2, 0, none⟩) (n := 64 * Q) (c := pc2) .i64 .i64 (64 * q) (64 * q + 64) (by omega) (by omega) (by omega)
              have hsl : ∀ w, (Instr.slice 22 (.slice (some ⟨pb2, 0, none⟩) (64 * Q) pc2) (some (.int .i64 (64 * (q : Int)))) (some (.int .i64 (64 * (q : Int) + 64))) none).run Tryd.prog w = .ok us w := fun w => by
                have := hsl0 w
                rwa [show ((64 * q + 64 : Nat) : Int) = 64 * (q : Int) + 64 by omega, show ((64 * q : Nat) : Int) = 64 * (q : Int) by omega] at this
              have hrd : Hid (RD wr.heap.size wr us (((padded m).drop (64 * q)).take 64)) := by
                have := hur pv wr _ hS.rd
                rw [show 64 * q + 64 - 64 * q = 64 by omega, ← List.map_drop, ← List.map_take] at this
                exact RV.mono this (Nat.le_of_lt (lt_of_heap hS.x))
              have hck : Hid (64 ≤ (((padded m).drop (64 * q)).take 64).length) := by
                show 64 ≤ _
                rw [List.length_take, List.length_drop, HQ.out]
                omega
              clear hS hsl0 hur
              go_upto_region 13 with fail
              refine wp_region_lex Every [0, 6, 7] [] [] (by kernel_rfl) (by kernel_rfl) (fun _ => trivial) ?_
              simp only [List.zipIdx_cons, List.zipIdx_nil, Nat.zero_add, Nat.reduceAdd]
              refine lex_act rfl rfl (fun K hK => ?_)
              refine wp_load_row 51 (.tmp 6) rfl pv rfl _ _ _ _ HS.out.x Tryd.underlying51 rfl info_a8 ?_
              refine hK _ _ (ActLeft.keep rfl fun h => h) ?_
              clear hK K
              refine lex_blind 5 (by kernel_rfl) ?_
              simp only [List.take_succ_cons, List.take_zero, List.drop_succ_cons, List.drop_zero, List.map_cons, List.map_nil, Act.put, List.setIfInBounds_toArray, List.set_cons_succ, List.set_cons_zero]
              repeat (go_big_quiet_step (fail))
              refine wpQuiet_nil ?_
              refine lex_act rfl rfl (fun K hK => ?_)
              go_simp
              refine (rblock_calls (absorb (padded m) q) us (((padded m).drop (64 * q)).take 64) wr.drew hrd.out.drew hck.out).mono ?_
              rintro e w5 ⟨rfl, hb5⟩
              refine hK _ _ (ActLeft.keep rfl fun h => h) ?_
              clear hK K
              refine lex_act rfl rfl (fun K hK => ?_)
              refine wp_store_upd 51 (.tmp 6) (.tmp 49) rfl pv 0 (.agg (A8 (comp (absorb (padded m) q) (((padded m).drop (64 * q)).take 64)))) rfl rfl _ (A8 (absorb (padded m) q)) (heap_below HS.out.x (below_drew hb5) (lt_of_heap HS.out.x)) (info_a8v _) (Nat.le_refl 8) (one_A8 _) rfl ?_
              intro w6 hu6
              refine hK _ _ (ActLeft.keep rfl fun h => h) ?_
              clear hK K
              refine lex_nil ?_
              have HN := Lib.hid (HS.out.step (below_drew hb5) hu6)
              clear hu6 hb5 HS
              go_wp2_with fail
              go_roundg (gk - 1)
              case measure => omega
              case rel => exact ⟨q + 1, by omega, by go_num, HN.out⟩
            · obtain rfl : q = Q := by omega
              have hO := hS.out
              rw [HST.out] at hO
              have HO0 := Lib.hid hO
              clear hS hO hlt hq
              go_wp2_with fail
              generalize wr.heap.size = po at *
              go_loopg [9] 32 (fun g iv wt => ∃ j : Nat, j + g = 32 ∧ iv = .int .i64 j ∧ Out2 w (state (padded m)) pv po j wt)
              case atStart => exact ⟨0, rfl, rfl, HO0.out⟩
              case round =>
                obtain ⟨j, hj, rfl, hO⟩ := hrel
                have hc := hO.word (j / 4)
                have HO := Lib.hid hO
                clear hO HO0
                by_cases hlt : j < 32
                · have hc' := hc (by omega)
                  clear hc
                  generalize hx : (state (padded m)).list.getD (j / 4) 0 = x at hc'
                  have HX := Lib.hid hx
                  clear hx
                  have hq0 : 0 ≤ (j : Int) / 4 := by omega
                  have hq1 : (j : Int) / 4 < 8 := by omega
                  go_wp2_with (refine wpList_store_upd rfl 5 (.tmp 65) (.tmp 64) rfl po j (bv (byteOf x j)) rfl ?_ _ _ HO.out.o info_u8 ?_ (one_bv _) rfl ?_; rotate_right; intro w2 hu2)
                  · have HN := Lib.hid (HO.out.step hlt (by rw [HX.out]; exact hu2))
                    clear hu2 HO
                    go_wp2_with fail
                    go_roundg (gk - 1)
                    case measure => omega
                    case rel => exact ⟨j + 1, by omega, by go_num, HN.out⟩
                  · exact congrArg (Value.int .u8) (byte_val x (24 - 8 * (j % 4)))
                  · rw [size_O32 _ j (by omega)]; exact (by omega : j + 1 ≤ 32)
                · obtain rfl : j = 32 := by omega
                  go_wp2_with (first
                    | (refine wpList_load_blk rfl 24 (.tmp 8) rfl po 0 rfl _ _ _ HO.out.o (O32 (state (padded m)) 32) (List.take_of_length_le (Nat.le_refl _)) _ Tryd.underlying24 rfl info_a32 ?_)
                    | (refine wpList_store_upd rfl 24 (.tmp 2) (.tmp 66) rfl w.heap.size 0 (.agg (O32 (state (padded m)) 32)) rfl rfl _ _ HO.out.r info_a32 (Nat.le_of_eq (Nat.zero_add _)) (one_O32 _ _) rfl ?_; intro w2 hu2))
                  have hr := hu2.here
                  rw [show put z32 0 (Value.agg (O32 (state (padded m)) 32)).cells = O32 (state (padded m)) 32 from put_whole _ _ rfl] at hr
                  refine bodyPost_ret (ret_row (P := Tryd.prog) rfl _ w.heap.size _ (O32 (state (padded m)) 32) _ _ rfl hr Tryd.underlying24 rfl info_a32) rfl ⟨?_, ?_⟩
                  · rw [O32_end]; rfl
                  · exact HO.out.below.trans (hu2.below (Nat.le_refl _))
end Go.Proofs.YtlgaikknodoilaaDoor.Sh
