/- The contracts of Copy, Len, Sum. -/
import Derived.Test.YtlgaikknodoilaaDoorShWrite
namespace Go.Proofs.YtlgaikknodoilaaDoor.Sh
set_option linter.unusedVariables false
set_option linter.unusedSimpArgs false
open Go Go.RowKit

theorem info_hash : (Tryd.prog.info? 53).map (·.size) = some 10 := by kernel_rfl
theorem info_hashv (v : V8) (lv : Value) (n : Int) : (Tryd.prog.info? 53).map (·.size) = some (Value.agg (HC v lv n)).cells.size := info_hash
theorem one_HC (v : V8) (a : Option Addr) (l c : Nat) (n : Int) : (HC v (.slice a l c) n).all (·.oneCell') = true := by simp [HC, V8.list, wv, Value.oneCell']

set_option maxHeartbeats 1000000 in
theorem copy_calls (p : Nat) (m : Bs) (w : World) (hh : HashAt w p m) :
    Calls Tryd.prog 29 #[.pointer (some ⟨p, 0, none⟩)] w fun e w' => e = .returned (.pointer (some ⟨w.heap.size, 0, none⟩)) ∧ HashAt w' w.heap.size m ∧ Below w.heap.size w w' := by
  have hlt := hh.lt
  obtain ⟨v, lv, hb, hl, hv⟩ := hh.here
  obtain ⟨la, lc, rfl, hlc, hlm⟩ := hl.form
  have hleft : w.cell? ⟨p, 8, none⟩ = some (.slice la (left m).length lc) := by rw [cell_of_row w p 8 _ _ _ hb]; rfl
  have HB := Lib.hid (show w.heap[p]? = some (.cells (HC v (.slice la (left m).length lc) (m.length : Int)) 53 (0, 0)) from hb)
  have HL := Lib.hid hl
  have hne : p ≠ w.heap.size := Nat.ne_of_lt hlt
  have hlen : (left m).length ≤ 140737488355328 := by rw [length_left]; omega
  clear hb hl
  go_enter Tryd.func29, Tryd.ntmps29
  go_wp2_with (first
    | (refine wpList_load_blk rfl 53 (.tmp 7) rfl p 0 rfl _ _ _ HB.out (HC v (.slice la (left m).length lc) (m.length : Int)) rfl _ Tryd.underlying53 rfl info_hash ?_)
    | (refine wpList_store_upd rfl 53 (.tmp 3) (.tmp 8) rfl w.heap.size 0 (.agg (HC v (.slice la (left m).length lc) (m.length : Int))) rfl rfl _ _ (heap_new w _) (info_hashv _ _ _) (Nat.le_refl 10) (one_HC _ _ _ _ _) rfl ?_; intro w2 hu2; have hleft2 : w2.cell? ⟨p, 8, none⟩ = some (.slice la (left m).length lc) := (hu2.cell (a := ⟨p, 8, none⟩) hne).trans ((World.cell?_alloc_lt _ _ _ hlt).trans hleft))
    | (go_at_call 28; refine (clone_calls _ (left m) _ ?_ hlen).mono ?_))
  · have b2 : Below w.heap.size w w2 := ((Below.refl _ _).alloc (Nat.le_refl _) _).trans (hu2.below (Nat.le_refl _))
    exact (HL.out.below b2).mono (by rw [hu2.size]; simp)
  · rintro e w3 ⟨v3, rfl, ho3, hb3⟩
    obtain ⟨a3, c3, rfl, _, _⟩ := ho3.rd.form
    have H2 : w2.heap[w.heap.size]? = some (.cells (HC v (.slice la (left m).length lc) (m.length : Int)) 53 (0, 0)) := hu2.here
    have H3 := Lib.hid (heap_below H2 hb3 (lt_of_heap H2))
    have HO3 := Lib.hid ho3
    have b3 : Below w.heap.size w w3 := (((Below.refl _ _).alloc (Nat.le_refl _) _).trans (hu2.below (Nat.le_refl _))).trans (hb3.mono (by rw [hu2.size]; simp))
    have B3 := Lib.hid b3
    clear hu2 hleft2 H2 ho3 hb3 b3
    go_wp2_with (refine wpList_store_upd rfl 22 (.tmp 14) (.tmp 13) rfl w.heap.size 8 (.slice a3 (left m).length c3) rfl rfl _ _ H3.out info_sl (le_HC_l _ _ _ _ _ _) (one_sl _ _ _) rfl ?_; intro w4 hu4)
    have h4 := hu4.here
    rw [put_HC_l] at h4
    have HU := Lib.hid hu4
    have H4 := Lib.hid h4
    clear hu4 h4
    go_ret
    refine ⟨rfl, ⟨⟨v, _, H4.out, ?_, hv⟩⟩, B3.out.trans (HU.out.below (Nat.le_refl _))⟩
    have hbk : HashBlock w.heap.size w3 := ⟨v, _, _, H3.out, _, _, _, rfl⟩
    refine (RD.keeps HO3.out.rd (p := w.heap.size) ⟨HU.out.os, HU.out.tape, HU.out.output, by rw [HU.out.size]; exact Nat.le_refl _, fun k _ hk => HU.out.other k hk⟩ hbk).mono (by rw [HU.out.size]; exact Nat.le_refl _)

def z32 : Array Value := #[.int .u8 0, .int .u8 0, .int .u8 0, .int .u8 0, .int .u8 0, .int .u8 0, .int .u8 0, .int .u8 0, .int .u8 0, .int .u8 0, .int .u8 0, .int .u8 0, .int .u8 0, .int .u8 0, .int .u8 0, .int .u8 0, .int .u8 0, .int .u8 0, .int .u8 0, .int .u8 0, .int .u8 0, .int .u8 0, .int .u8 0, .int .u8 0, .int .u8 0, .int .u8 0, .int .u8 0, .int .u8 0, .int .u8 0, .int .u8 0, .int .u8 0, .int .u8 0]
/-- The padding, so far: what a slice of the call's own holds; below base nothing has turned. -/
structure PadAt (base : Nat) (w1 : World) (pv : Value) (pad : Bs) (wr : World) : Prop where
  own : wr.ownsRow base 5 1 pv pad.length (pad.map bv)
  below : Below base w1 wr
  base : base ≤ w1.heap.size

theorem PadAt.form {base : Nat} {w1 wr : World} {pv : Value} {pad : Bs} (h : PadAt base w1 pv pad wr) (hne : pad ≠ []) : ∃ g cap, pv = .slice (some ⟨g, 0, none⟩) pad.length cap ∧ pad.length ≤ cap := by
  obtain ⟨_, h⟩ := h.own
  rcases h with ⟨_, h0⟩ | ⟨g, cap, cur, rfl, _, _, hc, _⟩
  · exact absurd (List.length_eq_zero_iff.1 h0) hne
  · exact ⟨g, cap, rfl, hc⟩
theorem HashAt.many {w : World} {p : Nat} {m : Bs} (h : HashAt w p m) : w.cell? ⟨p, 9, none⟩ = some (.int .i64 (m.length : Int)) := by
  obtain ⟨v, lv, hb, _⟩ := h.here
  rw [cell_of_row w p 9 _ _ _ hb]; rfl
theorem rv_byte (w : World) (x : UInt8) : RV (w.heap.size + 1) (w.alloc (.cells #[bv x] 5)) (.slice (some ⟨w.heap.size, 0, none⟩) 1 1) ([x].map bv) := by
  have := RV.of_owns (World.ownsRow_lit (e := 5) (size := 1) (base := w.heap.size) w #[bv x] 1 (Nat.le_refl _) (by simp [maxLen]) rfl)
  simpa using this
theorem PadAt.push {base : Nat} {w1 wr w' : World} {pv v' : Value} {pad : Bs} {x : UInt8} {o : Obj} (h : PadAt base w1 pv pad wr) (hg : (wr.alloc o).grownBy w' pv.ownBlock)
    (ho : w'.ownsRow base 5 1 v' (pad.length + ([x].map bv).length) (pad.map bv ++ [x].map bv)) : PadAt base w1 v' (pad ++ [x]) w' := by
  refine ⟨?_, (h.below.alloc (Nat.le_trans h.base h.below.size) o).trans (grown_below hg (by have := h.below.size; have := h.base; simp; omega) (fun k e => ?_)), h.base⟩
  · rw [← List.map_append] at ho
    simpa using ho
  · obtain ⟨_, hown⟩ := h.own
    rcases hown with ⟨rfl, _⟩ | ⟨g, cap, cur, rfl, hb, _⟩
    · cases e
    · simp [Value.ownBlock] at e; omega
theorem PadAt.base_le {base : Nat} {w1 wr : World} {pv : Value} {pad : Bs} (h : PadAt base w1 pv pad wr) {o : Obj} : base ≤ (wr.alloc o).heap.size := by
  have := h.below.size; have := h.base; simp; omega
theorem small_len {n : Nat} (h : n ≤ 1000000) : n ≤ maxLen := by simp only [maxLen]; omega
theorem small_bytes {n : Nat} (h : n ≤ 1000000) : n * 1 ≤ 140737488355328 := by omega
/-- What the padding begins with. -/
def pre (m : Bs) : Bs := 128 :: List.replicate (zeros m.length) 0
theorem len_val (n s : Nat) : ((n : Int) * 8 / 2 ^ s % 256) = ((UInt8.ofNat ((8 * n) >>> s)).toNat : Int) := by
  rw [show ((n : Int) * 8 / 2 ^ s % 256) = ((8 * n / 2 ^ s % 256 : Nat) : Int) from by rw [Nat.mul_comm 8 n]; simp]
  congr 1
  rw [Nat.shiftRight_eq_div_pow]
  simp [UInt8.toNat_ofNat]
theorem len8_take (n j : Nat) (h : j < 8) : (len8 n).take (j + 1) = (len8 n).take j ++ [UInt8.ofNat (n >>> (56 - 8 * j))] := by
  rw [List.take_succ_eq_append_getElem (by rw [length_len8]; exact h)]
  simp [len8]
theorem RV.eq_cells {B : Nat} {w : World} {x y : Int} {t : TypeId} {v : Value} {xs : List Value} (h : x = y) (hr : RV B (w.alloc (.cells #[.int .u8 y] t)) v xs) : RV B (w.alloc (.cells #[.int .u8 x] t)) v xs := by subst h; exact hr
theorem info_u8 : (Tryd.prog.info? 5).map (·.size) = some 1 := by kernel_rfl
theorem one_bv (x : UInt8) : (bv x).cells.all (·.oneCell') = true := by simp [bv, Value.cells, Value.oneCell']
/-- The digest's row behind k rounds. -/
def O32 (V : V8) (k : Nat) : Array Value := (((out V).take k ++ List.replicate (32 - k) 0).map bv).toArray
theorem size_O32 (V : V8) (k : Nat) (h : k ≤ 32) : (O32 V k).size = 32 := by simp [O32, length_out]; omega
theorem O32_end (V : V8) : O32 V 32 = ((out V).map bv).toArray := by
  unfold O32
  rw [List.take_of_length_le (by rw [length_out]; exact Nat.le_refl _)]
  simp
theorem one_O32 (V : V8) (k : Nat) : (Value.agg (O32 V k)).cells.all (·.oneCell') = true := by
  refine Array.all_eq_true_iff_forall_mem.2 fun x hx => ?_
  have hx : x ∈ ((out V).take k ++ List.replicate (32 - k) 0).map bv := by simpa [O32, Value.cells] using hx
  obtain ⟨y, _, rfl⟩ := List.mem_map.1 hx
  rfl
theorem info_a32 : (Tryd.prog.info? 24).map (·.size) = some 32 := by kernel_rfl
theorem byte_val (x : W) (s : Nat) : ((x.toNat : Int) / 2 ^ s % 256) = ((UInt8.ofNat (x.toNat >>> s)).toNat : Int) := by
  rw [show ((x.toNat : Int) / 2 ^ s % 256) = ((x.toNat / 2 ^ s % 256 : Nat) : Int) from by simp]
  congr 1
  rw [Nat.shiftRight_eq_div_pow]
  simp [UInt8.toNat_ofNat]
theorem O32_step (V : V8) (k : Nat) (hk : k < 32) : put (O32 V k) k (bv (byteOf (V.list.getD (k / 4) 0) k)).cells = O32 V (k + 1) := by
  unfold O32
  rw [put_one _ _ _ rfl (by simp [length_out]; omega)]
  congr 1
  rw [← List.map_set]
  congr 1
  have hl : ((out V).take k).length = k := by simp [length_out]; omega
  rw [List.set_append_right _ _ (by omega), hl, Nat.sub_self]
  obtain ⟨r, hr⟩ : ∃ r, 32 - k = r + 1 := ⟨31 - k, by omega⟩
  rw [hr, List.replicate_succ, List.set_cons_zero, show 32 - (k + 1) = r from by omega, List.take_succ_eq_append_getElem (by rw [length_out]; exact hk), List.append_assoc]
  simp [out]
structure OutAt (w : World) (V : V8) (k : Nat) (wt : World) : Prop where
  r : wt.heap[w.heap.size]? = some (.cells (O32 V k) 24 (0, 0))
  c : ∃ lv n, wt.heap[w.heap.size + 1]? = some (.cells (HC V lv n) 53 (0, 0))
  below : Below w.heap.size w wt
theorem OutAt.word {w wt : World} {V : V8} {k : Nat} (h : OutAt w V k wt) (j : Nat) (hj : j < 8) : wt.cell? ⟨w.heap.size + 1, j, none⟩ = some (.int .u32 ((V.list.getD j 0).toNat : Int)) := by
  obtain ⟨lv, n, hc⟩ := h.c
  rw [cell_of_row wt _ j _ _ _ hc]
  match j, hj with
  | 0, _ | 1, _ | 2, _ | 3, _ | 4, _ | 5, _ | 6, _ | 7, _ => rfl
theorem OutAt.step {w wt w2 : World} {V : V8} {k : Nat} (h : OutAt w V k wt) (hk : k < 32) (hu : Upd w.heap.size (.cells (put (O32 V k) k (bv (byteOf (V.list.getD (k / 4) 0) k)).cells) 24 (0, 0)) wt w2) : OutAt w V (k + 1) w2 := by
  obtain ⟨lv, n, hc⟩ := h.c
  exact ⟨by rw [← O32_step V k hk]; exact hu.here, ⟨lv, n, heap_upd hc hu (by omega)⟩, h.below.trans (hu.below (Nat.le_refl _))⟩
theorem out_start {w w1 wr w9 : World} {m : Bs} {base : Nat} (hb1 : Below (w.heap.size + 1) (w.alloc (.cells z32 24)) w1) (hbr : Below base w1 wr) (hs1 : w.heap.size + 1 < base)
    (hh : HashAt w9 (w.heap.size + 1) (m ++ padding m.length)) (hk : Keeps wr.heap.size (w.heap.size + 1) wr w9) (hlr : base ≤ wr.heap.size) : OutAt w (state (padded m)) 0 w9 := by
  have hbelow : Below w.heap.size w wr := (((Below.refl _ _).alloc (Nat.le_refl _) _).trans (hb1.mono (by omega))).trans (hbr.mono (by omega))
  refine ⟨?_, ?_, hbelow.trans ((hk.mono (by omega)).below (by omega))⟩
  · exact (hk.block _ (by omega) (by omega)).trans (heap_below (heap_below (heap_new w _) hb1 (by omega)) hbr (by omega))
  · obtain ⟨v, lv, h1, h2, h3⟩ := hh.here
    have : 64 ≤ (m ++ padding m.length).length := by
      have := padded_whole m
      have := length_padded m
      unfold padded at *
      omega
    rw [h3 this] at h1
    exact ⟨lv, _, h1⟩
theorem pad_start (w1 : World) : PadAt w1.heap.size w1 (.slice (some ⟨w1.heap.size, 0, none⟩) 1 1) [128] (w1.alloc (.cells #[.int .u8 128] 5)) :=
  ⟨World.ownsRow_lit w1 #[.int .u8 128] 1 (Nat.le_refl _) (by simp [maxLen]) rfl, (Below.refl _ _).alloc (Nat.le_refl _) _, Nat.le_refl _⟩

set_option maxRecDepth 100000 in
set_option maxHeartbeats 4000000 in
theorem sum_calls (p : Nat) (m : Bs) (w : World) (ht : Tab w) (hh : HashAt w p m) (hlen : m.length ≤ 549755813888) :
    Calls Tryd.prog 18 #[.pointer (some ⟨p, 0, none⟩)] w fun e w' => e = .returned (.agg ((sha m).map bv).toArray) ∧ Below w.heap.size w w' := by
  have hlt := hh.lt
  have hh2 := Lib.hid (hh.below ((Below.refl w.heap.size w).alloc (Nat.le_refl _) (.cells z32 24)))
  go_enter Tryd.func18, Tryd.ntmps18
  go_wp2_with (go_at_call 29; refine (copy_calls p m _ hh2.out).mono ?_; rintro e w1 ⟨rfl, hc1, hb1⟩; simp only [World.size_alloc] at hc1 hb1 ⊢)
  have hs1 : w.heap.size + 1 < w1.heap.size := hc1.lt
  have HC1 := Lib.hid hc1
  have HB1 := Lib.hid hb1
  have hp1 := Lib.hid (pad_start w1)
  clear hc1 hb1 hh hh2 hlt
  go_loopg [4] (zeros m.length) (fun g pv wr => ∃ k : Nat, k + g = zeros m.length ∧ PadAt w1.heap.size w1 pv (128 :: List.replicate k 0) wr)
  case atStart => exact ⟨0, by omega, hp1.out⟩
  case round =>
    obtain ⟨k, hk, hP⟩ := hrel
    have hz : zeros m.length = (119 - m.length % 64) % 64 := rfl
    rw [hz] at hk
    clear hz
    obtain ⟨pb, pc, rfl, hcap⟩ := hP.form (by simp)
    have hmany : wr.cell? ⟨w.heap.size + 1, 9, none⟩ = some (.int .i64 (m.length : Int)) := ((hP.below.cell (p := ⟨w.heap.size + 1, 9, none⟩) hs1).trans (HC1.out.many))
    have HP := Lib.hid hP
    clear hP
    simp only [List.length_cons, List.length_replicate] at *
    by_cases hlt : 0 < gk
    · go_wp2_with (at_builtin; refine wpList_append_mine rfl (.tmp 22) (.tmp 23) 22 rfl elem_u8 rfl rfl (HP.out.own.alloc _) (HP.out.base_le) (rv_byte wr 0) (one_bytes [0]) (small_len (by simp; omega)) (small_bytes (by simp; omega)) ?_; intro v' w' hg ho; replace ho := Lib.hid ho)
      have HN := Lib.hid (HP.out.push hg ho.out)
      clear hg ho HP
      go_wp2_with fail
      go_roundg (gk - 1)
      case measure => omega
      case rel => exact ⟨k + 1, by rw [show zeros m.length = (119 - m.length % 64) % 64 from rfl]; omega, by rw [List.replicate_succ']; exact HN.out⟩
    · have hk0 : k = (119 - m.length % 64) % 64 := by omega
      have HP0 : Hid (PadAt w1.heap.size w1 (.slice (some ⟨pb, 0, none⟩) (k + 1) pc) (pre m ++ (len8 (8 * m.length)).take 0) wr) := by
        have := HP.out
        rw [show pre m ++ (len8 (8 * m.length)).take 0 = 128 :: List.replicate k 0 from by rw [List.take_zero, List.append_nil, hk0]; rfl]
        exact this
      have hb56 : (((m.length : Int) + ((k : Int) + 1)) % 64 != 56) = false := by rw [bne_eq_false_iff_eq]; omega
      clear hk0 HP
      go_wp2_with fail
      go_loopg [4, 25] 8 (fun g pv iv wr => ∃ j : Nat, j + g = 8 ∧ iv = .int .i64 j ∧ PadAt w1.heap.size w1 pv (pre m ++ (len8 (8 * m.length)).take j) wr)
      case atStart => exact ⟨0, rfl, rfl, HP0.out⟩
      case round =>
        obtain ⟨j, hj, rfl, hP⟩ := hrel
        obtain ⟨pb2, pc2, rfl, hcap2⟩ := hP.form (by simp [pre])
        have hmany : wr.cell? ⟨w.heap.size + 1, 9, none⟩ = some (.int .i64 (m.length : Int)) := ((hP.below.cell (p := ⟨w.heap.size + 1, 9, none⟩) hs1).trans (HC1.out.many))
        have HP := Lib.hid hP
        clear hP HP0
        by_cases hlt : j < 8
        · go_wp2_with (at_builtin; refine wpList_append_mine rfl (.tmp 28) (.tmp 39) 22 rfl elem_u8 rfl rfl (HP.out.own.alloc _) (HP.out.base_le) (B := wr.heap.size + 1) (ys := [UInt8.ofNat ((8 * m.length) >>> (56 - 8 * j))].map bv) ?_ (one_bytes _) (small_len (by simp [pre, zeros]; omega)) (small_bytes (by simp [pre, zeros]; omega)) ?_; rotate_right; intro v' w' hg ho; replace ho := Lib.hid ho)
          · have HN := Lib.hid (HP.out.push hg ho.out)
            clear hg ho HP
            go_wp2_with fail
            go_roundg (gk - 1)
            case measure => omega
            case rel => exact ⟨j + 1, by omega, by go_num, by rw [len8_take _ j hlt, ← List.append_assoc]; exact HN.out⟩
          · refine RV.eq_cells (len_val m.length (56 - 8 * j)) ?_
            exact rv_byte wr _
        · obtain rfl : j = 8 := by omega
          have hpd : pre m ++ (len8 (8 * m.length)).take 8 = padding m.length := by
            rw [List.take_of_length_le (Nat.le_of_eq (length_len8 _))]; rfl
          have HPD := Lib.hid hpd
          have HH := Lib.hid (HC1.out.below HP.out.below)
          have HT := Lib.hid ((ht.below ((((Below.refl _ _).alloc (Nat.le_refl _) _).trans (HB1.out.mono (by simp))).trans (HP.out.below.mono (by omega))) ht.lt : Tab wr))
          clear hpd
          go_wp2_with fail
          refine (write_calls (w.heap.size + 1) m (padding m.length) _ wr HT.out HH.out ?_ (by have := ht.lt; omega) ?_).mono ?_
          · have := RV.of_owns HP.out.own
            rw [HPD.out] at this
            have e : (pre m).length + min 8 (len8 (8 * m.length)).length = (padding m.length).length := by rw [← HPD.out]; simp
            rw [e]
            exact this
          · rw [length_padding]; simp only [zeros]; omega
          · rintro e w9 ⟨rfl, hh9, hk9⟩
            have h9 := Lib.hid (out_start HB1.out HP.out.below hs1 hh9 hk9 (HP.out.below.size))
            clear hh9 hk9 hmany hb56
            go_wp2_with fail
            go_loopg [45] 32 (fun g iv wt => ∃ j : Nat, j + g = 32 ∧ iv = .int .i64 j ∧ OutAt w (state (padded m)) j wt)
            case atStart => exact ⟨0, rfl, rfl, h9.out⟩
            case round =>
              obtain ⟨j, hj, rfl, hO⟩ := hrel
              have hc := hO.word (j / 4)
              have HO := Lib.hid hO
              clear hO h9
              by_cases hlt : j < 32
              · have hc' := hc (by omega)
                clear hc
                generalize hx : (state (padded m)).list.getD (j / 4) 0 = x at hc'
                have HX := Lib.hid hx
                clear hx
                have hq0 : 0 ≤ (j : Int) / 4 := by omega
                have hq1 : (j : Int) / 4 < 8 := by omega
                go_wp2_with (refine wpList_store_upd rfl 5 (.tmp 62) (.tmp 61) rfl w.heap.size j (bv (byteOf x j)) rfl ?_ _ _ HO.out.r info_u8 ?_ (one_bv _) rfl ?_; rotate_right; intro w2 hu2)
                · have HN := Lib.hid (HO.out.step hlt (by rw [HX.out]; exact hu2))
                  clear hu2 HO
                  go_wp2_with fail
                  go_roundg (gk - 1)
                  case measure => omega
                  case rel => exact ⟨j + 1, by omega, by go_num, HN.out⟩
                · exact congrArg (Value.int .u8) (byte_val x (24 - 8 * (j % 4)))
                · rw [size_O32 _ j (by omega)]; exact (by omega : j + 1 ≤ 32)
              · obtain rfl : j = 32 := by omega
                go_wp2_with (first
                  | (refine wpList_load_blk rfl 24 (.tmp 2) rfl w.heap.size 0 rfl _ _ _ HO.out.r (O32 (state (padded m)) 32) (List.take_of_length_le (Nat.le_refl _)) _ Tryd.underlying24 rfl info_a32 ?_)
                  | (refine wpList_store_upd rfl 24 (.tmp 2) (.tmp 64) rfl w.heap.size 0 (.agg (O32 (state (padded m)) 32)) rfl rfl _ _ HO.out.r info_a32 (Nat.le_of_eq (Nat.zero_add _)) (one_O32 _ _) rfl ?_; intro w2 hu2))
                have hr := hu2.here
                rw [show put (O32 (state (padded m)) 32) 0 (Value.agg (O32 (state (padded m)) 32)).cells = O32 (state (padded m)) 32 from put_whole _ _ rfl] at hr
                refine bodyPost_ret (ret_row (P := Tryd.prog) rfl _ w.heap.size _ (O32 (state (padded m)) 32) _ _ rfl hr Tryd.underlying24 rfl info_a32) rfl ⟨?_, ?_⟩
                · rw [O32_end]; rfl
                · exact HO.out.below.trans (hu2.below (Nat.le_refl _))
end Go.Proofs.YtlgaikknodoilaaDoor.Sh
