/- The reference's padded. -/
import Derived.Test.YtlgaikknodoilaaDoorMaDerive2
import Derived.Test.YtlgaikknodoilaaDoorShRefD
namespace Go.Proofs.YtlgaikknodoilaaDoor.Sh
set_option linter.unusedVariables false
set_option linter.unusedSimpArgs false
open Go Go.RowKit

structure PxAt (w : World) (K : Bs) (x : UInt8) (g cap i : Nat) (wr : World) : Prop where
  row : ∃ l : List Value, wr.heap[g]? = some (.cells l.toArray 5 (0, 0)) ∧ l.length = cap ∧ l.take 64 = (mixed K x i).map bv
  k64 : K.length = 64
  lg : w.heap.size ≤ g
  cap64 : 64 ≤ cap
  capm : cap ≤ maxLen
  below : Below w.heap.size w wr
theorem px_start {w w1 : World} {key k : Bs} {x : UInt8} {v : Value} (hk : key64 key = k ++ List.replicate (64 - k.length) 0) (h : PadAt w.heap.size w v (k ++ List.replicate (64 - k.length) 0) w1) : ∃ g cap, v = .slice (some ⟨g, 0, none⟩) 64 cap ∧ PxAt w (key64 key) x g cap 0 w1 := by
  have hl := length_key64 key
  have ho := h.own
  rw [← hk] at ho
  obtain ⟨_, ⟨_, h0⟩ | ⟨g, cap, cur, rfl, hg, hh, hc, hm, hcs, htk⟩⟩ := ho
  · omega
  · rw [hl] at hc htk ⊢
    exact ⟨g, cap, rfl, ⟨cur.toList, by simpa using hh, by simpa using hcs, by simpa [mixed_zero] using htk⟩, hl, hg, hc, hm, h.below⟩
theorem PxAt.cell {w wr : World} {K : Bs} {x : UInt8} {g cap i : Nat} (h : PxAt w K x g cap i wr) (hi : i < 64) : wr.cell? ⟨g, i, none⟩ = some (.int .u8 ((K.getD i 0).toNat : Int)) := by
  obtain ⟨l, h1, h2, h3⟩ := h.row
  have hc := h.cap64
  have hk := h.k64
  rw [cell_of_row wr g i _ _ _ h1, List.getElem?_toArray]
  have e : (l.take 64)[i]? = ((mixed K x i).map bv)[i]? := by rw [h3]
  have hl := length_mixed K x i
  rw [List.getElem?_take, if_pos (by omega), List.getElem?_map] at e
  have e2 := mixed_get K x i (by omega)
  rw [List.getD_eq_getElem?_getD, List.getElem?_eq_getElem (by omega)] at e2
  simp only [Option.getD_some] at e2
  rw [e, List.getElem?_eq_getElem (by omega), Option.map_some, e2]; rfl
theorem PxAt.step {w wr w2 : World} {K : Bs} {x y : UInt8} {g cap i : Nat} (h : PxAt w K x g cap i wr) (hi : i < 64) (hy : y = K.getD i 0 ^^^ x) {l : List Value} (h1 : wr.heap[g]? = some (.cells l.toArray 5 (0, 0))) (hl : l.length = cap) (h3 : l.take 64 = (mixed K x i).map bv)
    (hu : Upd g (.cells (put l.toArray i (bv y).cells) 5 (0, 0)) wr w2) : PxAt w K x g cap (i + 1) w2 := by
  have hc := h.cap64
  have hk := h.k64
  rw [put_one l i (bv y) (by simp [bv, Value.cells]) (by omega)] at hu
  refine ⟨⟨l.set i (bv y), hu.here, by rw [List.length_set]; exact hl, ?_⟩, h.k64, h.lg, h.cap64, h.capm, h.below.trans (hu.below h.lg)⟩
  rw [List.take_set, h3, ← List.map_set, hy, mixed_step K x i (by omega)]
theorem PxAt.own {w wr : World} {key : Bs} {x : UInt8} {g cap : Nat} (h : PxAt w (key64 key) x g cap 64 wr) : Own w.heap.size wr (.slice (some ⟨g, 0, none⟩) 64 cap) (xk x key) := by
  obtain ⟨l, h1, h2, h3⟩ := h.row
  rw [mixed_all _ x h.k64] at h3
  have hl := length_xk x key
  refine ⟨by rw [List.length_map, Nat.mul_one], .inr ⟨g, cap, l.toArray, by rw [hl], h.lg, h1, by rw [hl]; exact h.cap64, h.capm, by simpa using h2, ?_⟩⟩
  rw [hl]
  show List.take (64 * 1) l = List.map bv ((key64 key).map (· ^^^ x))
  rw [Nat.mul_one]; exact h3
theorem own_mono {g g' : Nat} {w : World} {v : Value} {m : Bs} (h : Own g w v m) (hg : g' ≤ g) : Own g' w v m := by
  obtain ⟨h1, h | ⟨b, cap, cur, e, h2, h3⟩⟩ := h
  · exact ⟨h1, .inl h⟩
  · exact ⟨h1, .inr ⟨b, cap, cur, e, by omega, h3⟩⟩

set_option maxRecDepth 4000 in
set_option maxHeartbeats 1000000 in
theorem rpadded_calls (kv : Value) (key : Bs) (x : UInt8) (w : World) (hk0 : RD w.heap.size w kv key) (hlk : key.length ≤ 100000) :
    Calls Tryd.prog 36 #[kv, .int .u8 (x.toNat : Int)] w fun e w' => ∃ v', e = .returned v' ∧ Own w.heap.size w' v' (xk x key) ∧ Below w.heap.size w w' := by
  have HK := Lib.hid hk0
  obtain ⟨ka, kc, rfl, _, _⟩ := hk0.form
  have hl1 : key.length ≤ 140737488355328 := by omega
  have hl2 : key.length ≤ 500000 := by omega
  have HL1 := Lib.hid hl1
  have HL2 := Lib.hid hl2
  clear hk0 hl1 hl2
  by_cases h64 : 64 < key.length
  · have hi64 : (64 : Int) < (key.length : Int) := by omega
    have hls := length_sha key
    have HKEY := Lib.hid (show key64 key = sha key ++ List.replicate (64 - (sha key).length) 0 by rw [key64_long key h64, hls])
    have hls2 : (sha key).length ≤ 140737488355328 := by omega
    have HLS2 := Lib.hid hls2
    clear h64 hls2
    go_enter Tryd.func36, Tryd.ntmps36
    go_upto_region 2 with (go_at_call 13; refine (copyBytes_calls (.slice ka key.length kc) key w HK.out HL1.out).mono ?_; rintro e w1 ⟨v1, rfl, ho1, hb1⟩; have HO1 := Lib.hid ho1; replace hb1 := Lib.hid hb1; clear ho1)
    obtain ⟨a1, c1, rfl⟩ := own_form HO1.out
    go_upto_region 4 with (first
      | (go_at_call 35; refine (rsum_calls (.slice a1 key.length c1) key w1 HO1.out.rd HL2.out).mono ?_; rintro e w2 ⟨rfl, hb2⟩; replace hb2 := Lib.hid hb2)
      | (refine wpList_store_upd rfl 24 (.tmp 6) (.tmp 14) rfl w2.heap.size 0 (.agg (A32 (sha key))) rfl rfl _ z32 (heap_new w2 _) (info_A32 _) (le_A32 _) (one_A32 _) rfl ?_; intro w3 hu3; rw [put_A32] at hu3; replace hu3 := Lib.hid hu3))
    have hrd3 := Lib.hid (rd_RB w3 w2.heap.size 32 (sha key) _ _ hls (by simp only [maxLen]; omega) hu3.out.here)
    have hbel3 : Hid (Below w.heap.size w w3) := Lib.hid ((hb1.out.trans (hb2.out.mono hb1.out.size)).trans (((Below.refl _ _).alloc (Nat.le_trans hb1.out.size hb2.out.size) _).trans (hu3.out.below (Nat.le_trans hb1.out.size hb2.out.size))))
    clear hu3 hb2 hb1 HO1
    go_upto_region 5 with (go_at_call 13; refine (copyBytes_calls (.slice (some ⟨w2.heap.size, 0, none⟩) 32 32) (sha key) w3 hrd3.out HLS2.out).mono ?_; rintro e w4 ⟨v4, rfl, ho4, hb4⟩; have HPK := Lib.hid (show PadAt w.heap.size w v4 (sha key) w4 from ⟨own_mono ho4 hbel3.out.size, hbel3.out.trans (hb4.mono hbel3.out.size), Nat.le_refl _⟩); clear ho4 hb4)
    have hle : (sha key).length ≤ 64 := by omega
    generalize sha key = KD' at *
    obtain ⟨a4, c4, rfl⟩ := own_form (show Own w.heap.size w4 v4 KD' from HPK.out.own)
    clear hrd3 hbel3 hls hi64
    have hP0 := Lib.hid (show PadAt w.heap.size w (.slice a4 KD'.length c4) (KD' ++ List.replicate 0 0) w4 by rw [List.replicate_zero, List.append_nil]; exact HPK.out)
    clear HPK
    go_wp2_with fail
    go_loopg [5] (64 - KD'.length) (fun g pv wr => ∃ j : Nat, j + g = 64 - KD'.length ∧ PadAt w.heap.size w pv (KD' ++ List.replicate j 0) wr)
    case atStart => exact ⟨0, by omega, hP0.out⟩
    case round =>
      obtain ⟨j, hj, hP⟩ := hrel
      have HP := Lib.hid hP
      obtain ⟨ap, cp, rfl⟩ := own_form (show Own w.heap.size wr u5 (KD' ++ List.replicate j 0) from hP.own)
      have hlj : (KD' ++ List.replicate j (0 : UInt8)).length = KD'.length + j := by rw [List.length_append, List.length_replicate]
      rw [hlj] at HP ⊢
      clear hP hP0
      by_cases hlt : KD'.length + j < 64
      · go_wp2_with (at_builtin; refine wpList_append_mine rfl (.tmp 20) (.tmp 21) 22 rfl elem_u8 rfl rfl (HP.out.own.alloc _) (HP.out.base_le) (rv_byte wr 0) (one_bytes [0]) (small_len (by rw [hlj]; simp; omega)) (small_bytes (by rw [hlj]; simp; omega)) ?_; intro v' w' hg ho; replace ho := Lib.hid ho)
        have HN := Lib.hid (HP.out.push hg ho.out)
        clear hg ho HP
        go_wp2_with fail
        go_roundg (gk - 1)
        case measure => omega
        case rel => exact ⟨j + 1, by omega, by rw [List.replicate_succ', ← List.append_assoc]; exact HN.out⟩
      · have hj64 : j = 64 - KD'.length := by omega
        subst hj64
        have hcnt : KD'.length + (64 - KD'.length) = 64 := by omega
        rw [hcnt] at HP ⊢
        obtain ⟨g, cap, hv5, hX0⟩ := px_start (x := x) HKEY.out HP.out
        simp only [Value.slice.injEq] at hv5
        obtain ⟨rfl, _, rfl⟩ := hv5
        have hX1 := Lib.hid hX0
        clear HP hX0 hlt hj hlj hcnt
        go_wp2_with fail
        go_loopg [7] 64 (fun gk iv wt => ∃ i : Nat, i + gk = 64 ∧ iv = .int .i64 i ∧ PxAt w (key64 key) x g cp i wt)
        case atStart => exact ⟨0, rfl, rfl, hX1.out⟩
        case round =>
          obtain ⟨i, hi, rfl, hX⟩ := hrel
          have HX := Lib.hid hX
          clear hX1
          by_cases hlt : i < 64
          · have c0 := hX.cell hlt
            have hc64 := hX.cap64
            obtain ⟨l, h1, hl, h3⟩ := hX.row
            have H1 := Lib.hid h1
            have HL := Lib.hid hl
            have H3 := Lib.hid h3
            have hli : i + 1 ≤ l.toArray.size := by simp; omega
            have HLI := Lib.hid hli
            generalize hy0 : (key64 key).getD i 0 = y0 at c0
            have HY := Lib.hid hy0
            clear hX h1 hl h3 hli hy0
            go_wp2_with (refine wpList_store_upd rfl 5 (.tmp 35) (.tmp 34) rfl g i (bv (y0 ^^^ x)) rfl (congrArg (Value.int .u8) (u8_xor y0 x)) _ l.toArray H1.out info_u8 HLI.out (one_bv _) rfl ?_; intro w2 hu2)
            have HN := Lib.hid (HX.out.step hlt (by rw [HY.out]) H1.out HL.out H3.out hu2)
            clear hu2 HX H1 HL H3
            go_wp2_with fail
            go_roundg (gk - 1)
            case measure => omega
            case rel => exact ⟨i + 1, by omega, by go_num, HN.out⟩
          · obtain rfl : i = 64 := by omega
            clear hX hlt hi
            go_wp2_with fail
            go_ret
            exact ⟨_, rfl, HX.out.own, HX.out.below⟩
  · have hi64 : (key.length : Int) ≤ 64 := by omega
    have hle : key.length ≤ 64 := by omega
    have HKEY := Lib.hid (key64_short key hle)
    clear h64
    go_enter Tryd.func36, Tryd.ntmps36
    go_upto_region 2 with (go_at_call 13; refine (copyBytes_calls (.slice ka key.length kc) key w HK.out HL1.out).mono ?_; rintro e w1 ⟨v1, rfl, ho1, hb1⟩; have HPK := Lib.hid (show PadAt w.heap.size w v1 key w1 from ⟨ho1, hb1, Nat.le_refl _⟩); clear ho1 hb1)
    obtain ⟨a1, c1, rfl⟩ := own_form (show Own w.heap.size w1 v1 key from HPK.out.own)
    have hP0 := Lib.hid (show PadAt w.heap.size w (.slice a1 key.length c1) (key ++ List.replicate 0 0) w1 by rw [List.replicate_zero, List.append_nil]; exact HPK.out)
    clear HPK
    go_wp2_with fail
    go_loopg [5] (64 - key.length) (fun g pv wr => ∃ j : Nat, j + g = 64 - key.length ∧ PadAt w.heap.size w pv (key ++ List.replicate j 0) wr)
    case atStart => exact ⟨0, by omega, hP0.out⟩
    case round =>
      obtain ⟨j, hj, hP⟩ := hrel
      have HP := Lib.hid hP
      obtain ⟨ap, cp, rfl⟩ := own_form (show Own w.heap.size wr u5 (key ++ List.replicate j 0) from hP.own)
      have hlj : (key ++ List.replicate j (0 : UInt8)).length = key.length + j := by rw [List.length_append, List.length_replicate]
      rw [hlj] at HP ⊢
      clear hP hP0
      by_cases hlt : key.length + j < 64
      · go_wp2_with (at_builtin; refine wpList_append_mine rfl (.tmp 20) (.tmp 21) 22 rfl elem_u8 rfl rfl (HP.out.own.alloc _) (HP.out.base_le) (rv_byte wr 0) (one_bytes [0]) (small_len (by rw [hlj]; simp; omega)) (small_bytes (by rw [hlj]; simp; omega)) ?_; intro v' w' hg ho; replace ho := Lib.hid ho)
        have HN := Lib.hid (HP.out.push hg ho.out)
        clear hg ho HP
        go_wp2_with fail
        go_roundg (gk - 1)
        case measure => omega
        case rel => exact ⟨j + 1, by omega, by rw [List.replicate_succ', ← List.append_assoc]; exact HN.out⟩
      · have hj64 : j = 64 - key.length := by omega
        subst hj64
        have hcnt : key.length + (64 - key.length) = 64 := by omega
        rw [hcnt] at HP ⊢
        obtain ⟨g, cap, hv5, hX0⟩ := px_start (x := x) HKEY.out HP.out
        simp only [Value.slice.injEq] at hv5
        obtain ⟨rfl, _, rfl⟩ := hv5
        have hX1 := Lib.hid hX0
        clear HP hX0 hlt hj hlj hcnt
        go_wp2_with fail
        go_loopg [7] 64 (fun gk iv wt => ∃ i : Nat, i + gk = 64 ∧ iv = .int .i64 i ∧ PxAt w (key64 key) x g cp i wt)
        case atStart => exact ⟨0, rfl, rfl, hX1.out⟩
        case round =>
          obtain ⟨i, hi, rfl, hX⟩ := hrel
          have HX := Lib.hid hX
          clear hX1
          by_cases hlt : i < 64
          · have c0 := hX.cell hlt
            have hc64 := hX.cap64
            obtain ⟨l, h1, hl, h3⟩ := hX.row
            have H1 := Lib.hid h1
            have HL := Lib.hid hl
            have H3 := Lib.hid h3
            have hli : i + 1 ≤ l.toArray.size := by simp; omega
            have HLI := Lib.hid hli
            generalize hy0 : (key64 key).getD i 0 = y0 at c0
            have HY := Lib.hid hy0
            clear hX h1 hl h3 hli hy0
            go_wp2_with (refine wpList_store_upd rfl 5 (.tmp 35) (.tmp 34) rfl g i (bv (y0 ^^^ x)) rfl (congrArg (Value.int .u8) (u8_xor y0 x)) _ l.toArray H1.out info_u8 HLI.out (one_bv _) rfl ?_; intro w2 hu2)
            have HN := Lib.hid (HX.out.step hlt (by rw [HY.out]) H1.out HL.out H3.out hu2)
            clear hu2 HX H1 HL H3
            go_wp2_with fail
            go_roundg (gk - 1)
            case measure => omega
            case rel => exact ⟨i + 1, by omega, by go_num, HN.out⟩
          · obtain rfl : i = 64 := by omega
            clear hX hlt hi
            go_wp2_with fail
            go_ret
            exact ⟨_, rfl, HX.out.own, HX.out.below⟩
end Go.Proofs.YtlgaikknodoilaaDoor.Sh
