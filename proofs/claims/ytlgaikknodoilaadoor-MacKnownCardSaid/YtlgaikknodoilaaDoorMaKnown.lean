/- The walk of MacKnown. -/
import Derived.Test.YtlgaikknodoilaaDoorMaTells
namespace Go.Proofs.YtlgaikknodoilaaDoor.Sh
set_option linter.unusedVariables false
set_option linter.unusedSimpArgs false
open Go Go.RowKit

def ltext : Bs := [84, 101, 115, 116, 32, 85, 115, 105, 110, 103, 32, 76, 97, 114, 103, 101, 114, 32, 84, 104, 97, 110, 32, 66, 108, 111, 99, 107, 45, 83, 105, 122, 101, 32, 75, 101, 121, 32, 45, 32, 72, 97, 115, 104, 32, 75, 101, 121, 32, 70, 105, 114, 115, 116]
def mdig3 : Bs := [54, 48, 101, 52, 51, 49, 53, 57, 49, 101, 101, 48, 98, 54, 55, 102, 48, 100, 56, 97, 50, 54, 97, 97, 99, 98, 102, 53, 98, 55, 55, 102, 56, 101, 48, 98, 99, 54, 50, 49, 51, 55, 50, 56, 99, 53, 49, 52, 48, 53, 52, 54, 48, 52, 48, 102, 48, 101, 101, 51, 55, 102, 53, 52]
def mdig4 : Bs := [55, 55, 51, 101, 97, 57, 49, 101, 51, 54, 56, 48, 48, 101, 52, 54, 56, 53, 52, 100, 98, 56, 101, 98, 100, 48, 57, 49, 56, 49, 97, 55, 50, 57, 53, 57, 48, 57, 56, 98, 51, 101, 102, 56, 99, 49, 50, 50, 100, 57, 54, 51, 53, 53, 49, 52, 99, 101, 100, 53, 54, 53, 102, 101]
set_option maxRecDepth 1000000 in
theorem mdig3_eq : hx (hmac (List.replicate 131 170) ltext) 32 = ⟨mdig3.toArray⟩ := by decide +kernel
set_option maxRecDepth 1000000 in
theorem mdig4_eq : hx (hmac (List.replicate 20 170) (List.replicate 50 221)) 32 = ⟨mdig4.toArray⟩ := by decide +kernel
def ends : List Int := [(-9223372036854775808), (-1), 0, 1, 255, 256, 9007199254740991, 9007199254740992, 9223372036854775807]
def ENDS : Array Value := #[.int .i64 (-9223372036854775808), .int .i64 (-1), .int .i64 0, .int .i64 1, .int .i64 255, .int .i64 256, .int .i64 9007199254740991, .int .i64 9007199254740992, .int .i64 9223372036854775807]
theorem ENDS_eq : ENDS = (ends.map (Value.int .i64)).toArray := rfl
theorem ends_get (i : Nat) (h : i < 9) : ENDS[i]? = some (.int .i64 (ends.getD i 0)) := by
  rw [ENDS_eq, List.getElem?_toArray, List.getElem?_map, List.getD_eq_getElem?_getD, List.getElem?_eq_getElem (by exact h)]; rfl
theorem ends_fit : ∀ i, i < 9 → Fits (ends.getD i 0) := by
  intro i h
  unfold Fits
  match i, h with
  | 0, _ => exact ⟨by decide, by decide⟩
  | 1, _ => exact ⟨by decide, by decide⟩
  | 2, _ => exact ⟨by decide, by decide⟩
  | 3, _ => exact ⟨by decide, by decide⟩
  | 4, _ => exact ⟨by decide, by decide⟩
  | 5, _ => exact ⟨by decide, by decide⟩
  | 6, _ => exact ⟨by decide, by decide⟩
  | 7, _ => exact ⟨by decide, by decide⟩
  | 8, _ => exact ⟨by decide, by decide⟩
theorem Held.alloc {w0 w : World} {l : List (Nat × Obj)} {vs : List (Value × Bs)} (h : Held w0 l vs w) (o : Obj) : Held w0 l vs (w.alloc o) := h.call ((Below.refl _ _).alloc (Nat.le_refl _) o)
theorem Held.fresh {w0 w : World} {l : List (Nat × Obj)} {vs : List (Value × Bs)} (h : Held w0 l vs w) (o : Obj) : Held w0 ((w.heap.size, o) :: l) vs (w.alloc o) := by
  have h2 := h.alloc o
  refine ⟨h2.base, h2.li, fun x hx => ?_, h2.rows⟩
  rcases List.mem_cons.1 hx with rfl | hx
  · exact ⟨h.li.bel.size, heap_new w o⟩
  · exact h2.all x hx
theorem rd_text (w : World) : RD (w.alloc (.cells #[.int .u8 116, .int .u8 101, .int .u8 120, .int .u8 116] 5 (4, 5))).heap.size (w.alloc (.cells #[.int .u8 116, .int .u8 101, .int .u8 120, .int .u8 116] 5 (4, 5))) (.slice (some ⟨w.heap.size, 0, none⟩) 4 4) [116, 101, 120, 116] := rd_const w [116, 101, 120, 116] 4 (by decide) (4, 5)
theorem rd_k (w : World) (o : Obj) : RD ((w.alloc (.cells #[.int .u8 107] 5 (1, 2))).alloc o).heap.size ((w.alloc (.cells #[.int .u8 107] 5 (1, 2))).alloc o) (.slice (some ⟨w.heap.size, 0, none⟩) 1 1) [107] := rd_past (rd_const w [107] 1 (by decide) (1, 2)) o
theorem rd_label (w : World) (o : Obj) : RD ((w.alloc o).alloc (.cells #[.int .u8 108, .int .u8 97, .int .u8 98, .int .u8 101, .int .u8 108] 5 (5, 6))).heap.size ((w.alloc o).alloc (.cells #[.int .u8 108, .int .u8 97, .int .u8 98, .int .u8 101, .int .u8 108] 5 (5, 6))) (.slice (some ⟨w.heap.size + 1, 0, none⟩) 5 5) [108, 97, 98, 101, 108] := rd_const' (w.alloc o) (w.heap.size + 1) (by simp) [108, 97, 98, 101, 108] 5 (by decide) (5, 6)
theorem rd_a0 (w : World) (o : Obj) : RD ((w.alloc o).alloc (.cells #[.int .u8 97, .int .u8 0] 5)).heap.size ((w.alloc o).alloc (.cells #[.int .u8 97, .int .u8 0] 5)) (.slice (some ⟨w.heap.size + 1, 0, none⟩) 2 2) [97, 0] := rd_const' (w.alloc o) (w.heap.size + 1) (by simp) [97, 0] 2 (by decide) (0, 0)
theorem rd_ltext (w : World) : RD (w.alloc (.cells #[.int .u8 84, .int .u8 101, .int .u8 115, .int .u8 116, .int .u8 32, .int .u8 85, .int .u8 115, .int .u8 105, .int .u8 110, .int .u8 103, .int .u8 32, .int .u8 76, .int .u8 97, .int .u8 114, .int .u8 103, .int .u8 101, .int .u8 114, .int .u8 32, .int .u8 84, .int .u8 104, .int .u8 97, .int .u8 110, .int .u8 32, .int .u8 66, .int .u8 108, .int .u8 111, .int .u8 99, .int .u8 107, .int .u8 45, .int .u8 83, .int .u8 105, .int .u8 122, .int .u8 101, .int .u8 32, .int .u8 75, .int .u8 101, .int .u8 121, .int .u8 32, .int .u8 45, .int .u8 32, .int .u8 72, .int .u8 97, .int .u8 115, .int .u8 104, .int .u8 32, .int .u8 75, .int .u8 101, .int .u8 121, .int .u8 32, .int .u8 70, .int .u8 105, .int .u8 114, .int .u8 115, .int .u8 116] 5 (54, 55))).heap.size (w.alloc (.cells #[.int .u8 84, .int .u8 101, .int .u8 115, .int .u8 116, .int .u8 32, .int .u8 85, .int .u8 115, .int .u8 105, .int .u8 110, .int .u8 103, .int .u8 32, .int .u8 76, .int .u8 97, .int .u8 114, .int .u8 103, .int .u8 101, .int .u8 114, .int .u8 32, .int .u8 84, .int .u8 104, .int .u8 97, .int .u8 110, .int .u8 32, .int .u8 66, .int .u8 108, .int .u8 111, .int .u8 99, .int .u8 107, .int .u8 45, .int .u8 83, .int .u8 105, .int .u8 122, .int .u8 101, .int .u8 32, .int .u8 75, .int .u8 101, .int .u8 121, .int .u8 32, .int .u8 45, .int .u8 32, .int .u8 72, .int .u8 97, .int .u8 115, .int .u8 104, .int .u8 32, .int .u8 75, .int .u8 101, .int .u8 121, .int .u8 32, .int .u8 70, .int .u8 105, .int .u8 114, .int .u8 115, .int .u8 116] 5 (54, 55))) (.slice (some ⟨w.heap.size, 0, none⟩) 54 54) ltext := rd_const w ltext 54 (by decide) (54, 55)
theorem rd_none (w : World) : RD w.heap.size w (.slice none 0 0) [] := RV.nil
theorem many_byte (n : Nat) (h : n < 140) (w : World) :
    Calls Tryd.prog 14 #[.int .u8 (n : Int), .int .i64 (n : Int)] w fun e w' => ∃ v', e = .returned v' ∧ Own w.heap.size w' v' (List.replicate n (UInt8.ofNat n)) ∧ Below w.heap.size w w' := by
  have := many_calls (UInt8.ofNat n) n (by omega) w
  rwa [show ((UInt8.ofNat n).toNat : Int) = (n : Int) by rw [show (UInt8.ofNat n).toNat = n % 256 from UInt8.toNat_ofNat' ..]; omega] at this
theorem mac_M (M : Bs) (kv bvv : Value) (key m : Bs) (hM : hmac key m = M) (w : World) (ht : Tab w) (hk : RD w.heap.size w kv key) (hm : RD w.heap.size w bvv m) (hlk : key.length ≤ 549755813888) (hlm : m.length ≤ 500000000000) :
    Calls Tryd.prog 10 #[kv, bvv] w fun e w' => e = .returned (.agg (A32 M)) ∧ Below w.heap.size w w' := hM ▸ mac_calls kv bvv key m w ht hk hm hlk hlm

set_option maxRecDepth 8000 in
set_option maxHeartbeats 2000000 in
theorem known3_calls (w : World) (ht : Tab w) :
    Calls Tryd.prog 8 #[] w fun e w' => e = .returned (.bool true) ∧ Below w.heap.size w w' := by
  obtain ⟨M1, hM1⟩ : ∃ M, hmac (List.replicate 131 170) ltext = M := ⟨_, rfl⟩
  obtain ⟨M2, hM2⟩ : ∃ M, hmac (List.replicate 20 170) (List.replicate 50 221) = M := ⟨_, rfl⟩
  obtain ⟨s1, hs1, q1⟩ := str_name _ _ mdig3_eq
  obtain ⟨s2, hs2, q2⟩ := str_name _ _ mdig4_eq
  rw [hM1] at hs1
  rw [hM2] at hs2
  have S1 := Lib.hid hs1
  have S2 := Lib.hid hs2
  have HM1 := Lib.hid hM1
  have HM2 := Lib.hid hM2
  have HL1 := Lib.hid (show M1.length = 32 by rw [← hM1]; exact length_hmac _ _)
  have HL2 := Lib.hid (show M2.length = 32 by rw [← hM2]; exact length_hmac _ _)
  clear hs1 hs2 hM1 hM2
  unfold mdig3 at q1
  unfold mdig4 at q2
  have Q1 := Lib.hid q1
  have Q2 := Lib.hid q2
  clear q1 q2
  have kc := fun (w : World) (C : Array Value) (n c : Nat) => Lib.run_convert_bytes_const (P := Tryd.prog) w 22 5 C n c Tryd.underlying22 Tryd.underlying5
  have hH0 := Lib.hid (Held.start ht (LI.start ht))
  go_enter Tryd.func8, Tryd.ntmps8
  go_wp2_with fail
  go_loopg [1] 140 (fun g iv wr => ∃ i : Nat, i + g = 140 ∧ iv = .int .i64 i ∧ Held w [] [] wr)
  case atStart => exact ⟨0, rfl, rfl, hH0.out⟩
  case round =>
    obtain ⟨i, hi, rfl, hH⟩ := hrel
    have HH := Lib.hid hH
    clear hH hH0
    by_cases hlt : i < 140
    · have hfi : Fits (i : Int) := by unfold Fits; omega
      have HF := Lib.hid hfi
      have HLT := Lib.hid hlt
      clear hfi
      go_wp2_with (first
        | (go_at_call 14; refine (many_byte i HLT.out wr).mono ?_; rintro e w1 ⟨v1, rfl, ho1, hb1⟩; have HH1 := Lib.hid (((HH.out.call hb1).row ho1.rd).alloc (.cells #[.int .u8 116, .int .u8 101, .int .u8 120, .int .u8 116] 5 (4, 5))); clear ho1 hb1)
        | (go_at_call 7; refine (tells_calls _ HH1.out.li.tab v1 _ (HH1.out.rd 0 _ _ rfl) (.slice (some ⟨w1.heap.size, 0, none⟩) 4 4) _ (rd_text w1) (i : Int) HF.out).mono ?_; rintro e w2 ⟨rfl, hb2⟩; have HH2 := Lib.hid (HH1.out.call hb2); clear hb2))
      go_roundg (gk - 1)
      case measure => omega
      case rel => exact ⟨i + 1, by omega, by go_num, ⟨HH2.out.base, HH2.out.li, fun x hx => (by cases hx), fun x hx => (by cases hx)⟩⟩
    · obtain rfl : i = 140 := by omega
      clear hlt hi
      obtain ⟨wo, rfl⟩ : ∃ wo : World, wo = wr := ⟨_, rfl⟩
      have HK0 := Lib.hid (HH.out.fresh (.cells ENDS 3))
      clear HH
      go_wp2_with fail
      have hq0 : Hid (Held w [(wo.heap.size, .cells ENDS 3)] [] (wo.alloc (.cells ENDS 3))) := HK0
      go_loopg [3] 9 (fun g iv wr => ∃ i : Nat, i + g = 9 ∧ iv = .int .i64 i ∧ Held w [(wo.heap.size, .cells ENDS 3)] [] wr)
      case atStart => exact ⟨0, rfl, rfl, hq0.out⟩
      case round =>
        obtain ⟨i, hi, rfl, hH⟩ := hrel
        have HH := Lib.hid hH
        clear hH hq0 HK0
        generalize wo.heap.size = q at *
        by_cases hlt : i < 9
        · have FE := Lib.hid (ends_fit i hlt)
          have hce : ∀ w', Held w [(q, .cells ENDS 3)] [] w' → w'.cell? ⟨q, i, none⟩ = some (.int .i64 (ends.getD i 0)) := fun w' h => by
            rw [cell_of_row w' q i _ _ _ (h.at 0 _ _ rfl)]; exact ends_get i hlt
          generalize ends.getD i 0 = E at *
          have HCE := Lib.hid hce
          have hc1 : ∀ o1 o2, ((wr.alloc o1).alloc o2).cell? ⟨q, i, none⟩ = some (.int .i64 E) := fun o1 o2 => hce _ ((HH.out.alloc o1).alloc o2)
          have kc2 : ∀ (o : Obj) (C : Array Value) (n c : Nat), (convert 22 22 (.slice (some ⟨wr.heap.size + 1, 0, none⟩) n c)).run Tryd.prog ((wr.alloc o).alloc (.cells C 5)) = .ok (.slice (some ⟨wr.heap.size + 1, 0, none⟩) n c) ((wr.alloc o).alloc (.cells C 5 (C.size, C.size + 1))) := fun o C n c => by
            have := kc (wr.alloc o) C n c
            rwa [World.size_alloc] at this
          clear hce
          go_wp2_with (first
            | (go_at_call 7; refine (tells_calls _ ((HH3.out.alloc _).alloc _).li.tab (.slice (some ⟨w3.heap.size, 0, none⟩) 1 1) _ (rd_k w3 _) (.slice (some ⟨w3.heap.size + 1, 0, none⟩) 2 2) _ (rd_a0 w3 _) E FE.out).mono ?_; rintro e w4 ⟨rfl, hb4⟩; have HH4 := Lib.hid (((HH3.out.alloc _).alloc _).call hb4); clear hb4)
            | (go_at_call 7; refine (tells_calls _ HH2.out.li.tab (.slice none 0 0) [] (rd_none _) (.slice none 0 0) [] (rd_none _) E FE.out).mono ?_; rintro e w3 ⟨rfl, hb3⟩; have HH3 := Lib.hid (HH2.out.call hb3); clear hb3; have hc3 : ∀ o1 o2, ((w3.alloc o1).alloc o2).cell? ⟨q, i, none⟩ = some (.int .i64 E) := fun o1 o2 => HCE.out _ ((HH3.out.alloc o1).alloc o2))
            | (go_at_call 7; refine (tells_calls _ ((HH.out.alloc _).alloc _).li.tab (.slice (some ⟨wr.heap.size, 0, none⟩) 1 1) _ (rd_k wr _) (.slice (some ⟨wr.heap.size + 1, 0, none⟩) 5 5) _ (rd_label wr _) E FE.out).mono ?_; rintro e w2 ⟨rfl, hb2⟩; have HH2 := Lib.hid (((HH.out.alloc _).alloc _).call hb2); clear hb2; have hc2 : w2.cell? ⟨q, i, none⟩ = some (.int .i64 E) := HCE.out _ HH2.out))
          go_roundg (gk - 1)
          case measure => omega
          case rel => exact ⟨i + 1, by omega, by go_num, HH4.out⟩
        · obtain rfl : i = 9 := by omega
          clear hlt hi
          have mk1 := Lib.hid (many_calls 170 131 (by omega) wr)
          have HK1 := Lib.hid HH.out
          clear HH
          go_upto_region 13 with (first
            | (go_at_call 14; refine Calls.mono (show Calls Tryd.prog 14 #[.int .u8 170, .int .i64 131] wr _ from mk1.out) ?_; rintro e w1 ⟨v1, rfl, ho1, hb1⟩; have HK2 := Lib.hid (((HK1.out.call hb1).row ho1.rd).alloc (.cells #[.int .u8 84, .int .u8 101, .int .u8 115, .int .u8 116, .int .u8 32, .int .u8 85, .int .u8 115, .int .u8 105, .int .u8 110, .int .u8 103, .int .u8 32, .int .u8 76, .int .u8 97, .int .u8 114, .int .u8 103, .int .u8 101, .int .u8 114, .int .u8 32, .int .u8 84, .int .u8 104, .int .u8 97, .int .u8 110, .int .u8 32, .int .u8 66, .int .u8 108, .int .u8 111, .int .u8 99, .int .u8 107, .int .u8 45, .int .u8 83, .int .u8 105, .int .u8 122, .int .u8 101, .int .u8 32, .int .u8 75, .int .u8 101, .int .u8 121, .int .u8 32, .int .u8 45, .int .u8 32, .int .u8 72, .int .u8 97, .int .u8 115, .int .u8 104, .int .u8 32, .int .u8 75, .int .u8 101, .int .u8 121, .int .u8 32, .int .u8 70, .int .u8 105, .int .u8 114, .int .u8 115, .int .u8 116] 5 (54, 55))); clear ho1 hb1)
            | (go_at_call 10; refine (mac_M M1 v1 (.slice (some ⟨w1.heap.size, 0, none⟩) 54 54) _ ltext HM1.out _ HK2.out.li.tab (HK2.out.rd 0 _ _ rfl) (rd_ltext w1) (by rw [List.length_replicate]; omega) (by decide)).mono ?_; rintro e w2 ⟨rfl, hb2⟩; have HK3 := Lib.hid (HK2.out.call hb2); clear hb2)
            | (refine wpList_hold rfl 24 (.tmp 4) (.tmp 58) rfl HK3.out (A32 M1) z32 rfl rfl (info_A32l M1 HL1.out) (size_z32 M1 HL1.out) (one_A32 _) rfl ?_; intro w3 hK4 _; replace hK4 := Lib.hid hK4))
          clear HK1 HK2 HK3 mk1
          generalize w2.heap.size = p1 at *
          have mk2 := Lib.hid (many_calls 170 20 (by omega) w3)
          have mk3 := Lib.hid (fun w => many_calls 221 50 (by omega) w)
          go_upto_region 14 with (first
            | (go_at_call 14; refine Calls.mono (show Calls Tryd.prog 14 #[.int .u8 221, .int .i64 50] w5 _ from mk3.out w5) ?_; rintro e w6 ⟨v6, rfl, ho6, hb6⟩; have HK6 := Lib.hid ((HK5.out.call hb6).row ho6.rd); clear ho6 hb6)
            | (go_at_call 14; refine Calls.mono (show Calls Tryd.prog 14 #[.int .u8 170, .int .i64 20] w3 _ from mk2.out) ?_; rintro e w5 ⟨v5, rfl, ho5, hb5⟩; have HK5 := Lib.hid ((hK4.out.call hb5).row ho5.rd); clear ho5 hb5)
            | (go_at_call 10; refine (mac_M M2 v5 v6 _ _ HM2.out _ HK6.out.li.tab (HK6.out.rd 1 _ _ rfl) (HK6.out.rd 0 _ _ rfl) (by rw [List.length_replicate]; omega) (by rw [List.length_replicate]; omega)).mono ?_; rintro e w7 ⟨rfl, hb7⟩; have HK7 := Lib.hid (HK6.out.call hb7); clear hb7)
            | (refine wpList_hold rfl 24 (.tmp 5) (.tmp 61) rfl HK7.out (A32 M2) z32 rfl rfl (info_A32l M2 HL2.out) (size_z32 M2 HL2.out) (one_A32 _) rfl ?_; intro w8 hK8 _; replace hK8 := Lib.hid hK8))
          clear hK4 HK5 HK6 HK7 mk2 mk3
          generalize w7.heap.size = p2 at *
          have q1 := Q1.out
          have q2 := Q2.out
          go_wp2_with (first
            | (refine wpList_load_row_g (by rfl) 24 (.tmp 4) rfl p1 rfl _ _ _ _ (hK8.out.at 1 _ _ rfl) Tryd.underlying24 rfl (info_A32l M1 HL1.out) ?_)
            | (refine wpList_load_row_g (by rfl) 24 (.tmp 5) rfl p2 rfl _ _ _ _ (hK8.out.at 0 _ _ rfl) Tryd.underlying24 rfl (info_A32l M2 HL2.out) ?_)
            | (go_at_call 24; refine (hex_calls _ (by first | exact HL1.out | exact HL2.out) _).mono ?_; rintro e w9 ⟨rfl, hb9⟩; (first | rw [S1.out] | rw [S2.out]); replace hK8 := Lib.hid (hK8.out.call hb9); clear hb9)
            | (go_at_call 9; refine (works3_calls _ hK8.out.li.tab).mono ?_; rintro e w10 ⟨rfl, hb10⟩; replace hK8 := Lib.hid (hK8.out.call hb10); clear hb10))
          go_ret
          exact ⟨rfl, hK8.out.bel⟩
end Go.Proofs.YtlgaikknodoilaaDoor.Sh
