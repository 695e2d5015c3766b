/- Hashes that are none. -/
import Derived.Test.YtkfoalfnjeachaaDoorShPkg
namespace Go.Proofs.YtkfoalfnjeachaaDoor.Sh
open Go Go.RowKit

theorem write_nil (v : Value) (w : World) : Calls Tryd.prog 15 #[.pointer none, v] w fun e w' => e = .returned (.pointer none) ∧ w = w' := by
  go_enter Tryd.func15, Tryd.ntmps15
  go_wp2
  go_ret
  exact ⟨rfl, rfl⟩
theorem copy_nil (w : World) : Calls Tryd.prog 18 #[.pointer none] w fun e w' => e = .returned (.pointer none) ∧ w = w' := by
  go_enter Tryd.func18, Tryd.ntmps18
  go_wp2
  go_ret
  exact ⟨rfl, rfl⟩
theorem len_nil (w : World) : Calls Tryd.prog 17 #[.pointer none] w fun e w' => e = .returned (.int .i64 0) ∧ w = w' := by
  go_enter Tryd.func17, Tryd.ntmps17
  go_wp2
  go_ret
  exact ⟨rfl, rfl⟩

set_option maxRecDepth 100000 in
set_option maxHeartbeats 4000000 in
theorem sum_nil (w : World) (ht : Tab w) :
    Calls Tryd.prog 16 #[.pointer none] w fun e w' => e = .returned (.agg (A32 (sha []))) ∧ Below w.heap.size w w' := by
  obtain ⟨m, hm0⟩ : ∃ m : Bs, m = [] := ⟨_, rfl⟩
  have hlen : m.length ≤ 549755813888 := by rw [hm0]; exact Nat.zero_le _
  rw [← hm0]
  have HM0 := Lib.hid hm0
  clear hm0
  go_enter Tryd.func16, Tryd.ntmps16
  go_wp2_with (first
    | (go_at_call 18; refine (copy_nil _).mono ?_; rintro e w1 ⟨rfl, rfl⟩)
    | (go_at_call 14; refine (new_calls _).mono ?_; rintro e w1 ⟨rfl, hc1, hb1, -⟩; simp only [World.size_alloc] at hc1 hb1 ⊢; rw [← HM0.out] at hc1))
  have hs1 : w.heap.size + 1 < w1.heap.size := hc1.lt
  have HC1 := Lib.hid hc1
  have HB1 := Lib.hid hb1
  have hp1 := Lib.hid (pad_start w1)
  clear hc1 hb1
  go_loopg [4] (zeros m.length) (fun g pv wr => ∃ k : Nat, k + g = zeros m.length ∧ PadAt w1.heap.size w1 pv (128 :: List.replicate k 0) wr)
  case atStart => exact ⟨0, by omega, hp1.out⟩
  case round =>
    obtain ⟨k, hk, hP⟩ := hrel
    have hz : zeros m.length = (119 - m.length % 64) % 64 := rfl
    rw [hz] at hk
    clear hz
    obtain ⟨pb, pc, rfl, hcap⟩ := hP.form (by simp)
    have hmany : wr.cell? ⟨w.heap.size + 1, 9, none⟩ = some (.int .i64 (m.length : Int)) := ((hP.below.cell (p := ⟨w.heap.size + 1, 9, none⟩) hs1).trans (HC1.out.many))
    have HP := Lib.hid hP
    clear hP
    simp only [List.length_cons, List.length_replicate] at *
    by_cases hlt : 0 < gk
    · go_wp2_with (at_builtin; refine wpList_append_mine rfl (.tmp 22) (.tmp 23) 25 rfl elem_u8 rfl rfl (HP.out.own.alloc _) (HP.out.base_le) (rv_byte wr 0) (one_bytes [0]) (small_len (by simp; omega)) (small_bytes (by simp; omega)) ?_; intro v' w' hg ho; replace ho := Lib.hid ho)
      have HN := Lib.hid (HP.out.push hg ho.out)
      clear hg ho HP
      go_wp2_with fail
      go_roundg (gk - 1)
      case measure => omega
      case rel => exact ⟨k + 1, by rw [show zeros m.length = (119 - m.length % 64) % 64 from rfl]; omega, by rw [List.replicate_succ']; exact HN.out⟩
    · have hk0 : k = (119 - m.length % 64) % 64 := by omega
      have HP0 : Hid (PadAt w1.heap.size w1 (.slice (some ⟨pb, 0, none⟩) (k + 1) pc) (pre m ++ (len8 (8 * m.length)).take 0) wr) := by
        have := HP.out
        rw [show pre m ++ (len8 (8 * m.length)).take 0 = 128 :: List.replicate k 0 from by rw [List.take_zero, List.append_nil, hk0]; rfl]
        exact this
      have hb56 : (((m.length : Int) + ((k : Int) + 1)) % 64 != 56) = false := by rw [bne_eq_false_iff_eq]; omega
      clear hk0 HP
      go_wp2_with fail
      go_loopg [4, 25] 8 (fun g pv iv wr => ∃ j : Nat, j + g = 8 ∧ iv = .int .i64 j ∧ PadAt w1.heap.size w1 pv (pre m ++ (len8 (8 * m.length)).take j) wr)
      case atStart => exact ⟨0, rfl, rfl, HP0.out⟩
      case round =>
        obtain ⟨j, hj, rfl, hP⟩ := hrel
        obtain ⟨pb2, pc2, rfl, hcap2⟩ := hP.form (by simp [pre])
        have hmany : wr.cell? ⟨w.heap.size + 1, 9, none⟩ = some (.int .i64 (m.length : Int)) := ((hP.below.cell (p := ⟨w.heap.size + 1, 9, none⟩) hs1).trans (HC1.out.many))
        have HP := Lib.hid hP
        clear hP HP0
        by_cases hlt : j < 8
        · go_wp2_with (at_builtin; refine wpList_append_mine rfl (.tmp 28) (.tmp 39) 25 rfl elem_u8 rfl rfl (HP.out.own.alloc _) (HP.out.base_le) (B := wr.heap.size + 1) (ys := [UInt8.ofNat ((8 * m.length) >>> (56 - 8 * j))].map bv) ?_ (one_bytes _) (small_len (by simp [pre, zeros]; omega)) (small_bytes (by simp [pre, zeros]; omega)) ?_; rotate_right; intro v' w' hg ho; replace ho := Lib.hid ho)
          · have HN := Lib.hid (HP.out.push hg ho.out)
            clear hg ho HP
            go_wp2_with fail
            go_roundg (gk - 1)
            case measure => omega
            case rel => exact ⟨j + 1, by omega, by go_num, by rw [len8_take _ j hlt, ← List.append_assoc]; exact HN.out⟩
          · refine RV.eq_cells (len_val m.length (56 - 8 * j)) ?_
            exact rv_byte wr _
        · obtain rfl : j = 8 := by omega
          have hpd : pre m ++ (len8 (8 * m.length)).take 8 = padding m.length := by
            rw [List.take_of_length_le (Nat.le_of_eq (length_len8 _))]; rfl
          have HPD := Lib.hid hpd
          have HH := Lib.hid (HC1.out.below HP.out.below)
          have HT := Lib.hid ((ht.below ((((Below.refl _ _).alloc (Nat.le_refl _) _).trans (HB1.out.mono (by simp))).trans (HP.out.below.mono (by omega))) ht.lt : Tab wr))
          clear hpd
          go_wp2_with fail
          refine (write_calls (w.heap.size + 1) m (padding m.length) _ wr HT.out HH.out ?_ (by have := ht.lt; omega) ?_).mono ?_
          · have := RV.of_owns HP.out.own
            rw [HPD.out] at this
            have e : (pre m).length + min 8 (len8 (8 * m.length)).length = (padding m.length).length := by rw [← HPD.out]; simp
            rw [e]
            exact this
          · rw [length_padding]; simp only [zeros]; omega
          · rintro e w9 ⟨rfl, hh9, hk9⟩
            have h9 := Lib.hid (out_start HB1.out HP.out.below hs1 hh9 hk9 (HP.out.below.size))
            clear hh9 hk9 hmany hb56
            go_wp2_with fail
            go_loopg [45] 32 (fun g iv wt => ∃ j : Nat, j + g = 32 ∧ iv = .int .i64 j ∧ OutAt w (state (padded m)) j wt)
            case atStart => exact ⟨0, rfl, rfl, h9.out⟩
            case round =>
              obtain ⟨j, hj, rfl, hO⟩ := hrel
              have hc := hO.word (j / 4)
              have HO := Lib.hid hO
              clear hO h9
              by_cases hlt : j < 32
              · have hc' := hc (by omega)
                clear hc
                generalize hx : (state (padded m)).list.getD (j / 4) 0 = x at hc'
                have HX := Lib.hid hx
                clear hx
                have hq0 : 0 ≤ (j : Int) / 4 := by omega
                have hq1 : (j : Int) / 4 < 8 := by omega
                go_wp2_with (refine wpList_store_upd rfl 5 (.tmp 62) (.tmp 61) rfl w.heap.size j (bv (byteOf x j)) rfl ?_ _ _ HO.out.r info_u8 ?_ (one_bv _) rfl ?_; rotate_right; intro w2 hu2)
                · have HN := Lib.hid (HO.out.step hlt (by rw [HX.out]; exact hu2))
                  clear hu2 HO
                  go_wp2_with fail
                  go_roundg (gk - 1)
                  case measure => omega
                  case rel => exact ⟨j + 1, by omega, by go_num, HN.out⟩
                · exact congrArg (Value.int .u8) (byte_val x (24 - 8 * (j % 4)))
                · rw [size_O32 _ j (by omega)]; exact (by omega : j + 1 ≤ 32)
              · obtain rfl : j = 32 := by omega
                go_wp2_with (first
                  | (refine wpList_load_blk rfl 23 (.tmp 2) rfl w.heap.size 0 rfl _ _ _ HO.out.r (O32 (state (padded m)) 32) (List.take_of_length_le (Nat.le_refl _)) _ Tryd.underlying23 rfl info_a32 ?_)
                  | (refine wpList_store_upd rfl 23 (.tmp 2) (.tmp 64) rfl w.heap.size 0 (.agg (O32 (state (padded m)) 32)) rfl rfl _ _ HO.out.r info_a32 (Nat.le_of_eq (Nat.zero_add _)) (one_O32 _ _) rfl ?_; intro w2 hu2))
                have hr := hu2.here
                rw [show put (O32 (state (padded m)) 32) 0 (Value.agg (O32 (state (padded m)) 32)).cells = O32 (state (padded m)) 32 from put_whole _ _ rfl] at hr
                refine bodyPost_ret (ret_row (P := Tryd.prog) rfl _ w.heap.size _ (O32 (state (padded m)) 32) _ _ rfl hr Tryd.underlying23 rfl info_a32) rfl ⟨?_, ?_⟩
                · rw [O32_end]; rfl
                · exact HO.out.below.trans (hu2.below (Nat.le_refl _))
end Go.Proofs.YtkfoalfnjeachaaDoor.Sh
