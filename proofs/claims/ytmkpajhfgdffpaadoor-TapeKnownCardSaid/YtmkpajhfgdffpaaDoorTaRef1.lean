/- The reference's byteAt. -/
import Derived.Test.YtmkpajhfgdffpaaDoorTaAll
import Derived.Test.YtmkpajhfgdffpaaDoorShRefD
namespace Go.Proofs.YtmkpajhfgdffpaaDoor.Sh
set_option linter.unusedVariables false
set_option linter.unusedSimpArgs false
open Go Go.RowKit

theorem Own.lower {b b' : Nat} {w : World} {v : Value} {m : Bs} (h : Own b w v m) (hb : b' ≤ b) : Own b' w v m := by
  obtain ⟨h1, h2 | ⟨g, cap, cur, e, hg, h3⟩⟩ := h
  · exact ⟨h1, .inl h2⟩
  · exact ⟨h1, .inr ⟨g, cap, cur, e, Nat.le_trans hb hg, h3⟩⟩
/-- What is kept of the last block. -/
def Cached (seed last : Bs) (bk : Int) : Prop := last = [] ∨ ∃ b : Nat, bk = (b : Int) ∧ last = blk seed b
def ByPost (w : World) (seed : Bs) (i : Nat) (lv : Value) (last : Bs) (bk : Int) (e : Ending) (w' : World) : Prop :=
  ∃ lv' last' bk', e = .returned (.tuple #[.int .u8 ((tb seed i).toNat : Int), lv', .int .i64 bk']) ∧ Below w.heap.size w w' ∧ ((lv' = lv ∧ last' = last ∧ bk' = bk) ∨ Own w.heap.size w' lv' last') ∧ Cached seed last' bk'
theorem tb_seed (seed : Bs) (i : Nat) (h : i < seed.length) : tb seed i = seed.getD i 0 := by unfold tb; rw [if_pos h]
theorem tb_blk (seed : Bs) (i : Nat) (h : ¬ i < seed.length) : tb seed i = (blk seed ((i - seed.length) / 32)).getD ((i - seed.length) % 32) 0 := by unfold tb; rw [if_neg h]
theorem rd_blk32 {w : World} {q : Nat} {l : Bs} (h : l.length = 32) (hh : w.heap[q]? = some (.cells (A32 l) 32 (0, 0))) : RD w.heap.size w (.slice (some ⟨q, 0, none⟩) 32 32) l := by
  refine ⟨_, 32, by rw [List.length_map, h], by rw [List.length_map, h]; exact Nat.le_refl _, by decide, (fun e => by cases e), fun _ => ⟨q, 0, rfl, lt_of_heap hh, fun j u hu => ?_⟩⟩
  rw [cell_of_row _ _ _ _ _ _ hh, Nat.zero_add]
  show (l.map bv).toArray[j]? = some u
  rw [List.getElem?_toArray]; exact hu

set_option maxRecDepth 4000 in
set_option maxHeartbeats 2000000 in
theorem byteAt_calls (q nn : Nat) (sv : Value) (seed : Bs) (i : Nat) (hi : i ≤ 2000000000) (lv : Value) (last : Bs) (bk : Int) (w : World) (hq : w.heap[q]? = some (.cells #[sv, .int .i64 (nn : Int)] 50 (0, 0)))
    (hs : RD w.heap.size w sv seed) (hsl : seed.length ≤ 65536) (hl : RD w.heap.size w lv last) (hc : Cached seed last bk) :
    Calls Tryd.prog 29 #[.pointer (some ⟨q, 0, none⟩), .int .i64 (i : Int), lv, .int .i64 bk] w (ByPost w seed i lv last bk) := by
  have HS := Lib.hid hs
  have HLv := Lib.hid hl
  obtain ⟨sa, sc, rfl, _, _⟩ := hs.form
  obtain ⟨la, lc, rfl, _, _⟩ := hl.form
  have c0 : w.cell? ⟨q, 0, none⟩ = some (.slice sa seed.length sc) := by rw [cell_of_row _ _ _ _ _ _ hq]; rfl
  have HC := Lib.hid hc
  by_cases hlt : i < seed.length
  · obtain ⟨b, o, c, e, _, _, _⟩ := hs.addr (by intro e; subst e; simp at hlt)
    simp only [Value.slice.injEq] at e
    obtain ⟨rfl, _, rfl⟩ := e
    have hci := hs.cell i hlt
    rw [← tb_seed seed i hlt] at hci
    change w.cell? ⟨b, o + i, none⟩ = some (.int .u8 ((tb seed i).toNat : Int)) at hci
    have hb0 : (0 : Int) ≤ (i : Int) := by omega
    clear hs hl hc hq
    go_enter Tryd.func29, Tryd.ntmps29
    go_wp2_with fail
    go_ret3
    exact ⟨_, _, _, rfl, Below.refl _ _, .inl ⟨rfl, rfl, rfl⟩, HC.out⟩
  · have htb := tb_blk seed i hlt
    obtain ⟨ii, hii⟩ : ∃ ii, i - seed.length = ii := ⟨_, rfl⟩
    rw [hii] at htb
    have hiI : (i : Int) - (seed.length : Int) = (ii : Int) := by omega
    have hii0 : (0 : Int) ≤ (ii : Int) := by omega
    have hii1 : (ii : Int) ≤ 2000000000 := by omega
    obtain ⟨nb, hnb⟩ : ∃ nb, ii / 32 = nb := ⟨_, rfl⟩
    obtain ⟨rr, hrr⟩ : ∃ rr, ii % 32 = rr := ⟨_, rfl⟩
    have hqI : (ii : Int) / 32 = (nb : Int) := by omega
    have hrI : (ii : Int) % 32 = (rr : Int) := by omega
    have hr32 : rr < 32 := by omega
    have hnb1 : (nb : Int) ≤ 100000000 := by omega
    have hnb2 : nb ≤ 9007199254740991 := by omega
    rw [hnb, hrr] at htb
    have HTB := Lib.hid htb
    have HBL := Lib.hid (length_blk seed nb)
    have hL5 : (seed ++ be 8 nb).length ≤ 500000 := by rw [List.length_append, length_be]; omega
    have HL5 := Lib.hid hL5
    have HSH := Lib.hid (show sha (seed ++ be 8 nb) = blk seed nb from rfl)
    have HSL := Lib.hid (show seed.length ≤ 140737488355328 by omega)
    have HSL6 := Lib.hid hsl
    have hge : ¬ (i : Int) < (seed.length : Int) := by omega
    clear hii hnb hrr htb hL5 hq hs hsl hi
    by_cases hhit : last ≠ [] ∧ bk = (nb : Int)
    · obtain ⟨h1, rfl⟩ := hhit
      obtain ⟨b, hb, rfl⟩ := hc.resolve_left h1
      obtain rfl : nb = b := by omega
      obtain ⟨lb, lo, c, e, _, _, _⟩ := hl.addr h1
      simp only [Value.slice.injEq] at e
      obtain ⟨rfl, _, rfl⟩ := e
      have hci := hl.cell rr (by rw [HBL.out]; exact hr32)
      rw [← HTB.out] at hci
      change w.cell? ⟨lb, lo + rr, none⟩ = some (.int .u8 ((tb seed i).toNat : Int)) at hci
      rw [HBL.out]
      clear hl hc h1 hb hlt
      go_enter Tryd.func29, Tryd.ntmps29
      go_wp2_with fail
      go_ret3
      exact ⟨_, _, _, rfl, Below.refl _ _, .inl ⟨rfl, rfl, rfl⟩, HC.out⟩
    · have hmiss : last = [] ∨ (last.length = 32 ∧ ∃ b : Nat, bk = (b : Int) ∧ b ≠ nb) := by
        rcases hc with h | ⟨b, rfl, rfl⟩
        · exact .inl h
        · refine .inr ⟨length_blk _ _, b, rfl, fun e => hhit ⟨fun h0 => ?_, by rw [e]⟩⟩
          have := length_blk seed b
          rw [h0] at this; simp at this
      clear hc hl hhit hlt
      rcases hmiss with rfl | ⟨h32, b, rfl, hbn⟩
      · go_enter Tryd.func29, Tryd.ntmps29
        go_upto_region 6 with (go_at_call 16; refine (copyBytes_calls (.slice sa seed.length sc) seed w HS.out HSL.out).mono ?_; rintro e w1 ⟨cv, rfl, ho1, hb1⟩; have hO1 := Lib.hid ho1; have hB1 := Lib.hid hb1; clear ho1 hb1)
        have HP0 := Lib.hid (show PadAt w.heap.size w cv (seed ++ (be 8 nb).take (8 - 8)) w1 by rw [Nat.sub_self, List.take_zero, List.append_nil]; exact ⟨hO1.out, hB1.out, Nat.le_refl _⟩)
        clear hO1 hB1
        go_wp2_with fail
        go_loopg [11, 12] 8 (fun g pv iv wr => g ≤ 8 ∧ iv = .int .i64 ((g : Int) - 1) ∧ PadAt w.heap.size w pv (seed ++ (be 8 nb).take (8 - g)) wr)
        case atStart => exact ⟨Nat.le_refl _, rfl, HP0.out⟩
        case round =>
          obtain ⟨hg8, rfl, hP⟩ := hrel
          have HP := Lib.hid hP
          clear hP HP0
          rcases gk with _ | kk
          · have hfull : (be 8 nb).take (8 - 0) = be 8 nb := List.take_of_length_le (by rw [length_be]; exact Nat.le_refl 8)
            have HO := Lib.hid (show Own w.heap.size wr u11 (seed ++ be 8 nb) by have := HP.out.own; rw [hfull] at this; exact this)
            have HBw := Lib.hid HP.out.below
            clear HP hfull
            go_upto_region 13 with (first
              | (go_at_call 16; refine (copyBytes_calls (.slice (some ⟨q6, 0, none⟩) 32 32) (blk seed nb) w7 (rd_blk32 HBL.out hu7.out.here) (by rw [HBL.out]; decide)).mono ?_; rintro e w8 ⟨v8, rfl, ho8, hb8⟩; have HO8 := Lib.hid ho8; have HB8 := Lib.hid hb8; have hf8 := own_form ho8; rw [HBL.out] at hf8; obtain ⟨a8, c8, rfl⟩ := hf8; clear ho8 hb8)
              | (refine wpList_store_upd rfl 32 (.tmp 13) (.tmp 65) rfl w6.heap.size 0 (.agg (A32 (blk seed nb))) rfl rfl _ z32 (heap_new w6 _) (info_A32k _ HBL.out) (le_A32k _ HBL.out) (one_A32 _) rfl ?_; intro w7 hu7; rw [put_blk _ HBL.out] at hu7; replace hu7 := Lib.hid hu7; have HB7 := Lib.hid (HB6.out.trans ((((Below.refl _ _).alloc (Nat.le_refl _) _).trans (hu7.out.below (Nat.le_refl _))).mono HB6.out.size)); generalize w6.heap.size = q6 at *)
              | (go_at_call 34; refine (rsum_calls _ (seed ++ be 8 nb) wr HO.out.rd HL5.out).mono ?_; rintro e w6 ⟨rfl, hb6⟩; rw [HSH.out]; have HB6 := Lib.hid (HBw.out.trans (hb6.mono HBw.out.size)); clear hb6))
            have hrd8 := HO8.out.rd
            obtain ⟨g8, o8, cc, e8, _, _, _⟩ := hrd8.addr (by intro e; have := HBL.out; rw [e] at this; simp at this)
            simp only [Value.slice.injEq] at e8
            obtain ⟨rfl, _, rfl⟩ := e8
            have hc8 := hrd8.cell rr (by rw [HBL.out]; exact hr32)
            rw [← HTB.out] at hc8
            change w8.cell? ⟨g8, o8 + rr, none⟩ = some (.int .u8 ((tb seed i).toNat : Int)) at hc8
            have HBZ := Lib.hid (HB7.out.trans (HB8.out.mono HB7.out.size))
            have HOZ := Lib.hid (HO8.out.lower HB7.out.size)
            clear hrd8 HO HBw HB6 HB7 HB8 hu7
            go_wp2_with fail
            go_ret3
            exact ⟨_, _, _, rfl, HBZ.out, .inr HOZ.out, .inr ⟨nb, rfl, rfl⟩⟩
          · have e1 : ((kk + 1 : Nat) : Int) - 1 = (kk : Int) := by omega
            have hk0 : (0 : Int) ≤ (kk : Int) := by omega
            have hk7 : (kk : Int) ≤ 7 := by omega
            have et : (be 8 nb).take (8 - kk) = (be 8 nb).take (8 - (kk + 1)) ++ [UInt8.ofNat (nb >>> (8 * kk))] := by
              have := be_take 8 nb (8 - (kk + 1)) (by omega)
              rw [show 8 - (kk + 1) + 1 = 8 - kk from by omega, show 8 - 1 - (8 - (kk + 1)) = kk from by omega] at this
              exact this
            have ET := Lib.hid et
            clear et
            have hln : (seed ++ (be 8 nb).take (8 - (kk + 1))).length + ([UInt8.ofNat (nb >>> (8 * kk))].map bv).length ≤ 1000000 := by
              have h1 := HSL6.out
              simp only [List.length_append, List.length_take, length_be, List.length_map, List.length_cons, List.length_nil]; omega
            have HLN := Lib.hid hln
            clear hln
            rw [e1]
            clear e1
            go_wp2_with (at_builtin; refine wpList_append_mine rfl (.tmp 55) (.tmp 62) 22 rfl elem_u8 rfl rfl (HP.out.own.alloc _) (HP.out.base_le) (B := wr.heap.size + 1) (ys := [UInt8.ofNat (nb >>> (8 * kk))].map bv) ?_ (one_bytes _) (small_len HLN.out) (small_bytes HLN.out) ?_; rotate_right; intro v' w' hg ho; replace ho := Lib.hid ho)
            · have HNx := Lib.hid (HP.out.push hg ho.out)
              clear hg ho HP
              go_wp2_with fail
              go_roundg kk
              case measure => omega
              case rel => exact ⟨by omega, by go_num, by rw [ET.out, ← List.append_assoc]; exact HNx.out⟩
            · refine RV.eq_cells (be_val nb (8 * kk)) ?_
              exact rv_byte wr _
      · have hb1 : (b == nb) = false := by simpa using hbn
        have hb2 : ((b : Int) == (nb : Int)) = false := by rw [beq_eq_false_iff_ne]; omega
        have hb3 : ¬ (b : Int) = (nb : Int) := by omega
        rw [h32]
        go_enter Tryd.func29, Tryd.ntmps29
        go_upto_region 6 with (go_at_call 16; refine (copyBytes_calls (.slice sa seed.length sc) seed w HS.out HSL.out).mono ?_; rintro e w1 ⟨cv, rfl, ho1, hb1'⟩; have hO1 := Lib.hid ho1; have hB1 := Lib.hid hb1'; clear ho1 hb1')
        clear hb1 hb2 hb3 h32 hbn
        have HP0 := Lib.hid (show PadAt w.heap.size w cv (seed ++ (be 8 nb).take (8 - 8)) w1 by rw [Nat.sub_self, List.take_zero, List.append_nil]; exact ⟨hO1.out, hB1.out, Nat.le_refl _⟩)
        clear hO1 hB1
        go_wp2_with fail
        go_loopg [11, 12] 8 (fun g pv iv wr => g ≤ 8 ∧ iv = .int .i64 ((g : Int) - 1) ∧ PadAt w.heap.size w pv (seed ++ (be 8 nb).take (8 - g)) wr)
        case atStart => exact ⟨Nat.le_refl _, rfl, HP0.out⟩
        case round =>
          obtain ⟨hg8, rfl, hP⟩ := hrel
          have HP := Lib.hid hP
          clear hP HP0
          rcases gk with _ | kk
          · have hfull : (be 8 nb).take (8 - 0) = be 8 nb := List.take_of_length_le (by rw [length_be]; exact Nat.le_refl 8)
            have HO := Lib.hid (show Own w.heap.size wr u11 (seed ++ be 8 nb) by have := HP.out.own; rw [hfull] at this; exact this)
            have HBw := Lib.hid HP.out.below
            clear HP hfull
            go_upto_region 13 with (first
              | (go_at_call 16; refine (copyBytes_calls (.slice (some ⟨q6, 0, none⟩) 32 32) (blk seed nb) w7 (rd_blk32 HBL.out hu7.out.here) (by rw [HBL.out]; decide)).mono ?_; rintro e w8 ⟨v8, rfl, ho8, hb8⟩; have HO8 := Lib.hid ho8; have HB8 := Lib.hid hb8; have hf8 := own_form ho8; rw [HBL.out] at hf8; obtain ⟨a8, c8, rfl⟩ := hf8; clear ho8 hb8)
              | (refine wpList_store_upd rfl 32 (.tmp 13) (.tmp 65) rfl w6.heap.size 0 (.agg (A32 (blk seed nb))) rfl rfl _ z32 (heap_new w6 _) (info_A32k _ HBL.out) (le_A32k _ HBL.out) (one_A32 _) rfl ?_; intro w7 hu7; rw [put_blk _ HBL.out] at hu7; replace hu7 := Lib.hid hu7; have HB7 := Lib.hid (HB6.out.trans ((((Below.refl _ _).alloc (Nat.le_refl _) _).trans (hu7.out.below (Nat.le_refl _))).mono HB6.out.size)); generalize w6.heap.size = q6 at *)
              | (go_at_call 34; refine (rsum_calls _ (seed ++ be 8 nb) wr HO.out.rd HL5.out).mono ?_; rintro e w6 ⟨rfl, hb6⟩; rw [HSH.out]; have HB6 := Lib.hid (HBw.out.trans (hb6.mono HBw.out.size)); clear hb6))
            have hrd8 := HO8.out.rd
            obtain ⟨g8, o8, cc, e8, _, _, _⟩ := hrd8.addr (by intro e; have := HBL.out; rw [e] at this; simp at this)
            simp only [Value.slice.injEq] at e8
            obtain ⟨rfl, _, rfl⟩ := e8
            have hc8 := hrd8.cell rr (by rw [HBL.out]; exact hr32)
            rw [← HTB.out] at hc8
            change w8.cell? ⟨g8, o8 + rr, none⟩ = some (.int .u8 ((tb seed i).toNat : Int)) at hc8
            have HBZ := Lib.hid (HB7.out.trans (HB8.out.mono HB7.out.size))
            have HOZ := Lib.hid (HO8.out.lower HB7.out.size)
            clear hrd8 HO HBw HB6 HB7 HB8 hu7
            go_wp2_with fail
            go_ret3
            exact ⟨_, _, _, rfl, HBZ.out, .inr HOZ.out, .inr ⟨nb, rfl, rfl⟩⟩
          · have e1 : ((kk + 1 : Nat) : Int) - 1 = (kk : Int) := by omega
            have hk0 : (0 : Int) ≤ (kk : Int) := by omega
            have hk7 : (kk : Int) ≤ 7 := by omega
            have et : (be 8 nb).take (8 - kk) = (be 8 nb).take (8 - (kk + 1)) ++ [UInt8.ofNat (nb >>> (8 * kk))] := by
              have := be_take 8 nb (8 - (kk + 1)) (by omega)
              rw [show 8 - (kk + 1) + 1 = 8 - kk from by omega, show 8 - 1 - (8 - (kk + 1)) = kk from by omega] at this
              exact this
            have ET := Lib.hid et
            clear et
            have hln : (seed ++ (be 8 nb).take (8 - (kk + 1))).length + ([UInt8.ofNat (nb >>> (8 * kk))].map bv).length ≤ 1000000 := by
              have h1 := HSL6.out
              simp only [List.length_append, List.length_take, length_be, List.length_map, List.length_cons, List.length_nil]; omega
            have HLN := Lib.hid hln
            clear hln
            rw [e1]
            clear e1
            go_wp2_with (at_builtin; refine wpList_append_mine rfl (.tmp 55) (.tmp 62) 22 rfl elem_u8 rfl rfl (HP.out.own.alloc _) (HP.out.base_le) (B := wr.heap.size + 1) (ys := [UInt8.ofNat (nb >>> (8 * kk))].map bv) ?_ (one_bytes _) (small_len HLN.out) (small_bytes HLN.out) ?_; rotate_right; intro v' w' hg ho; replace ho := Lib.hid ho)
            · have HNx := Lib.hid (HP.out.push hg ho.out)
              clear hg ho HP
              go_wp2_with fail
              go_roundg kk
              case measure => omega
              case rel => exact ⟨by omega, by go_num, by rw [ET.out, ← List.append_assoc]; exact HNx.out⟩
            · refine RV.eq_cells (be_val nb (8 * kk)) ?_
              exact rv_byte wr _
end Go.Proofs.YtmkpajhfgdffpaaDoor.Sh
