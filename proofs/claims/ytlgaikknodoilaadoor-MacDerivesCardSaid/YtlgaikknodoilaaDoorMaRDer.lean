/- The reference's Derive. -/
import Derived.Test.YtlgaikknodoilaaDoorMaTold
import Derived.Test.YtlgaikknodoilaaDoorMaSame2
namespace Go.Proofs.YtlgaikknodoilaaDoor.Sh
set_option linter.unusedVariables false
set_option linter.unusedSimpArgs false
open Go Go.RowKit

open Classical in
/-- What Derive answers. -/
def drv (key : Bs) (s : ByteArray) (n : Int) : Bs × Int :=
  if (∀ x ∈ s.data.toList, x ≠ 0) ∧ 0 ≤ n ∧ n ≤ 9007199254740991 then ((hmac key (told s.data.toList n.toNat)).take 16, 0) else (List.replicate 16 0, 2)
theorem length_drv (key : Bs) (s : ByteArray) (n : Int) : (drv key s n).1.length = 16 := by
  unfold drv
  split
  · show ((hmac key (told s.data.toList n.toNat)).take 16).length = 16
    rw [List.length_take, length_hmac]; rfl
  · rfl
theorem drv_bad (key : Bs) (s : ByteArray) (n : Int) (h : (∃ x ∈ s.data.toList, x = 0) ∨ n < 0 ∨ 9007199254740991 < n) : drv key s n = (List.replicate 16 0, 2) := by
  unfold drv
  rw [if_neg]
  rintro ⟨h1, h2, h3⟩
  rcases h with ⟨x, hx, e⟩ | h | h
  · exact h1 x hx e
  · omega
  · omega
theorem drv_ok (key : Bs) (s : ByteArray) (n : Nat) (h1 : ∀ x ∈ s.data.toList, x ≠ 0) (h3 : n ≤ 9007199254740991) : drv key s (n : Int) = ((hmac key (told s.data.toList n)).take 16, 0) := by
  unfold drv
  rw [if_pos ⟨h1, by omega, by omega⟩, Int.toNat_natCast]
theorem drv_cases (s : ByteArray) (n : Int) : ((∃ x ∈ s.data.toList, x = 0) ∨ n < 0 ∨ 9007199254740991 < n) ∨ ((∀ x ∈ s.data.toList, x ≠ 0) ∧ ∃ k : Nat, n = (k : Int) ∧ k ≤ 9007199254740991) := by
  by_cases h : ∃ x ∈ s.data.toList, x = 0
  · exact .inl (.inl h)
  · by_cases h2 : n < 0 ∨ 9007199254740991 < n
    · exact .inl (.inr h2)
    · exact .inr ⟨fun x hx e => h ⟨x, hx, e⟩, n.toNat, by omega, by omega⟩
/-- The program's own. -/
theorem derive_calls (kv : Value) (key : Bs) (s : ByteArray) (n : Int) (hsz : s.size ≤ 100000) (w : World) (ht : Tab w) (hk0 : RD w.heap.size w kv key) (hlk : key.length ≤ 100000) :
    Calls Tryd.prog 20 #[kv, .string s, .int .i64 n] w fun e w' => e = .returned (.tuple #[.agg (A16 (drv key s n).1), .int .i64 (drv key s n).2]) ∧ Below w.heap.size w w' := by
  rcases drv_cases s n with h | ⟨h1, k, rfl, h2⟩
  · rw [drv_bad key s n h]; exact derive_bad kv s n h w
  · rw [drv_ok key s k h1 h2]; exact derive_ok kv key s k h1 h2 (by omega) w ht hk0 (by omega)

structure D2 (w : World) (M : Bs) (wr : World) : Prop where
  res : wr.heap[w.heap.size]? = some (.cells z16 41 (0, 0))
  out : wr.heap[w.heap.size + 1]? = some (.cells (A16 M) 41 (0, 0))
  below : Below w.heap.size w wr
theorem D2.lt {w wr : World} {M : Bs} (h : D2 w M wr) : w.heap.size + 1 < wr.heap.size := lt_of_heap h.out
theorem d2_start (w : World) : D2 w (List.replicate 16 0) ((w.alloc (.cells z16 41)).alloc (.cells z16 41)) :=
  ⟨heap_old (heap_new w _) _, heap_new2 w _ _, ((Below.refl _ _).alloc (Nat.le_refl _) _).alloc (by simp) _⟩
theorem D2.call {w wr w2 : World} {M : Bs} (h : D2 w M wr) (hb : Below wr.heap.size wr w2) : D2 w M w2 := ⟨heap_below h.res hb (lt_of_heap h.res), heap_below h.out hb (lt_of_heap h.out), h.below.trans (hb.mono h.below.size)⟩
/-- A string's byte, as Go reads it. -/
def sbt (s : ByteArray) (i : Nat) : Int := ((s.data.toList.getD i 0).toNat : Int)
theorem sbt_getD (s : ByteArray) (i : Nat) (_ : i < s.size) : sbt s i = ((s.data.toList.getD i 0).toNat : Int) := rfl
theorem get_sbt (s : ByteArray) : ∀ (i : Nat) (h : i < s.size), ((s[i]'h).toNat : Int) = sbt s i := fun i h => by
  have h2 : i < s.data.toList.length := by rw [Array.length_toList]; exact h
  unfold sbt
  rw [List.getD_eq_getElem?_getD, List.getElem?_eq_getElem h2, Array.getElem_toList]; rfl
theorem sbt_mem (s : ByteArray) (i : Nat) (h : i < s.size) (h0 : sbt s i = 0) : ∃ x ∈ s.data.toList, x = 0 := by
  have h2 : i < s.data.toList.length := by rw [Array.length_toList]; exact h
  rw [sbt_getD s i h, List.getD_eq_getElem?_getD, List.getElem?_eq_getElem h2] at h0
  refine ⟨s.data.toList[i], List.getElem_mem h2, UInt8.toNat_inj.1 ?_⟩
  have h3 : ((s.data.toList[i].toNat : Nat) : Int) = 0 := h0
  have : (0 : UInt8).toNat = 0 := rfl
  omega
theorem sbt_all (s : ByteArray) (h : ∀ i, i < s.size → sbt s i ≠ 0) : ∀ x ∈ s.data.toList, x ≠ 0 := by
  intro x hx e
  obtain ⟨i, hi, rfl⟩ := List.getElem_of_mem hx
  have h2 : i < s.size := by rw [Array.length_toList] at hi; exact hi
  apply h i h2
  rw [sbt_getD s i h2, List.getD_eq_getElem?_getD, List.getElem?_eq_getElem hi]
  show ((s.data.toList[i].toNat : Nat) : Int) = 0
  rw [e]; rfl

/-- Filled so far. -/
def f16 (D : Bs) (i : Nat) : Bs := D.take i ++ List.replicate (16 - i) 0
theorem length_f16 (D : Bs) (i : Nat) (hD : D.length = 32) (hi : i ≤ 16) : (f16 D i).length = 16 := by simp [f16, hD]; omega
theorem f16_step (D : Bs) (i : Nat) (hD : D.length = 32) (hi : i < 16) : (f16 D i).set i (D.getD i 0) = f16 D (i + 1) := by
  have ht : (D.take i).length = i := by rw [List.length_take]; omega
  unfold f16
  rw [List.set_append_right _ _ (by omega), ht, Nat.sub_self, show 16 - i = (16 - (i + 1)) + 1 from by omega, List.replicate_succ, List.set_cons_zero,
    List.take_succ_eq_append_getElem (by omega), List.append_assoc, List.singleton_append, List.getD_eq_getElem?_getD, List.getElem?_eq_getElem (by omega)]
  rfl
theorem f16_all (D : Bs) : f16 D 16 = D.take 16 := by simp [f16]
theorem put_A16l (T : Bs) (i : Nat) (x : UInt8) (hi : i < T.length) : put (A16 T) i (bv x).cells = A16 (T.set i x) := by
  unfold A16
  rw [put_one _ _ _ (by simp [bv, Value.cells]) (by simpa using hi), List.map_set]
structure D3 (w : World) (D : Bs) (i q : Nat) (wr : World) : Prop where
  d : D2 w (f16 D i) wr
  mac : wr.heap[q]? = some (.cells (A32 D) 24 (0, 0))
  lt : w.heap.size + 1 < q
  len : D.length = 32
theorem D3.step {w wr w2 : World} {D : Bs} {i q : Nat} (h : D3 w D i q wr) (hi : i < 16) {x : UInt8} (hx : D.getD i 0 = x) (hu : Upd (w.heap.size + 1) (.cells (put (A16 (f16 D i)) i (bv x).cells) 41 (0, 0)) wr w2) : D3 w D (i + 1) q w2 := by
  have hl := h.lt
  rw [put_A16l _ _ _ (by rw [length_f16 D i h.len (by omega)]; exact hi), ← hx, f16_step D i h.len hi] at hu
  exact ⟨⟨heap_upd h.d.res hu (by omega), hu.here, h.d.below.trans (hu.below (by omega))⟩, heap_upd h.mac hu (by omega), h.lt, h.len⟩
theorem d3_start {w w1 w2 : World} {D : Bs} (h : D2 w (List.replicate 16 0) w1) (hD : D.length = 32) (hu : Upd w1.heap.size (.cells (A32 D) 24 (0, 0)) (w1.alloc (.cells z32 24)) w2) : D3 w D 0 w1.heap.size w2 := by
  have hl := h.lt
  exact ⟨⟨heap_upd (heap_old h.res _) hu (by omega), heap_upd (heap_old h.out _) hu (by omega), h.below.trans (((Below.refl _ _).alloc (by omega) _).trans (hu.below (by omega)))⟩, hu.here, hl, hD⟩
theorem D3.cell {w w1 : World} {D : Bs} {i q : Nat} (h : D3 w D i q w1) (k : Nat) (hk : k < 32) : w1.cell? ⟨q, k, none⟩ = some (.int .u8 ((D.getD k 0).toNat : Int)) := by
  rw [cell_of_row w1 q k _ _ _ h.mac, A32_get' D k (by rw [h.len]; exact hk)]; rfl

set_option maxRecDepth 4000 in
set_option maxHeartbeats 1000000 in
theorem rderive_calls (kv : Value) (key : Bs) (s : ByteArray) (n : Int) (hsz : s.size ≤ 50000) (w : World) (hk0 : RD w.heap.size w kv key) (hlk : key.length ≤ 100000) :
    Calls Tryd.prog 23 #[kv, .string s, .int .i64 n] w fun e w' => e = .returned (.tuple #[.agg (A16 (drv key s n).1), .int .i64 (drv key s n).2]) ∧ Below w.heap.size w w' := by
  have HK0 := Lib.hid hk0
  have HLK := Lib.hid hlk
  have hb := get_sbt s
  have hD0 := Lib.hid (d2_start w)
  have H16 := Lib.hid (show (List.replicate 16 (0 : UInt8)).length = 16 from rfl)
  generalize hL : List.replicate 16 (0 : UInt8) = L at *
  have HL := Lib.hid hL
  clear hk0 hlk hL
  go_enter Tryd.func23, Tryd.ntmps23
  go_wp2_with fail
  go_loopg [9] s.size (fun g iv wr => ∃ i : Nat, i + g = s.size ∧ iv = .int .i64 i ∧ (∀ j, j < i → sbt s j ≠ 0) ∧ D2 w L wr)
  case atStart => exact ⟨0, by omega, rfl, fun j hj => absurd hj (by omega), hD0.out⟩
  case round =>
    obtain ⟨i, hi, rfl, hno, hD⟩ := hrel
    have HD := Lib.hid hD
    have HNO := Lib.hid hno
    clear hD hD0 hno
    by_cases hlt : i < s.size
    · have hi2 : (i : Int) < (s.size : Int) := by omega
      by_cases hz : sbt s i = 0
      · have HB := Lib.hid (drv_bad key s n (.inl (sbt_mem s i hlt hz)))
        go_wp2_with (first
          | (refine wpList_load_blk rfl 41 (.tmp 8) rfl (w.heap.size + 1) 0 rfl _ _ _ HD.out.out (A16 L) (List.take_of_length_le (Nat.le_refl _)) _ Tryd.underlying41 rfl (info_A16 _ H16.out) ?_)
          | (refine wpList_store_upd rfl 41 (.tmp 6) (.tmp 22) rfl w.heap.size 0 (.agg (A16 L)) rfl rfl _ _ HD.out.res (info_A16 _ H16.out) (Nat.le_of_eq ((Nat.zero_add _).trans ((size_A16 L).trans H16.out))) (one_A16 _) rfl ?_; intro w10 hu10; rw [show put z16 0 (Value.agg (A16 L)).cells = A16 L from put_whole _ _ ((size_A16 L).trans H16.out).symm] at hu10; replace hu10 := Lib.hid hu10))
        refine bodyPost_ret (ret_row2 rfl _ _ w.heap.size _ (A16 L) _ _ (.int .i64 2) rfl rfl hu10.out.here Tryd.underlying41 rfl (info_A16 _ H16.out)) rfl ⟨?_, ?_⟩
        · rw [HB.out, HL.out]
        · exact HD.out.below.trans (hu10.out.below (Nat.le_refl _))
      · go_wp2_with fail
        go_roundg (gk - 1)
        case measure => omega
        case rel =>
          refine ⟨i + 1, by omega, by go_num, fun j hj => ?_, HD.out⟩
          by_cases e : j = i
          · rw [e]; exact hz
          · exact HNO.out j (by omega)
    · obtain rfl : i = s.size := by omega
      have hall := sbt_all s HNO.out
      clear hlt hi
      by_cases hr : n < 0 ∨ 9007199254740991 < n
      · have HB := Lib.hid (drv_bad key s n (.inr hr))
        have split : n < 0 ∨ (¬ n < 0 ∧ 9007199254740991 < n) := by omega
        clear hall hr
        rcases split with h1 | ⟨h1, h2⟩
        all_goals (
          go_wp2_with (first
            | (refine wpList_load_blk rfl 41 (.tmp 8) rfl (w.heap.size + 1) 0 rfl _ _ _ HD.out.out (A16 L) (List.take_of_length_le (Nat.le_refl _)) _ Tryd.underlying41 rfl (info_A16 _ H16.out) ?_)
            | (refine wpList_store_upd rfl 41 (.tmp 6) (.tmp 29) rfl w.heap.size 0 (.agg (A16 L)) rfl rfl _ _ HD.out.res (info_A16 _ H16.out) (Nat.le_of_eq ((Nat.zero_add _).trans ((size_A16 L).trans H16.out))) (one_A16 _) rfl ?_; intro w10 hu10; rw [show put z16 0 (Value.agg (A16 L)).cells = A16 L from put_whole _ _ ((size_A16 L).trans H16.out).symm] at hu10; replace hu10 := Lib.hid hu10))
          refine bodyPost_ret (ret_row2 rfl _ _ w.heap.size _ (A16 L) _ _ (.int .i64 2) rfl rfl hu10.out.here Tryd.underlying41 rfl (info_A16 _ H16.out)) rfl ⟨?_, ?_⟩
          · rw [HB.out, HL.out]
          · exact HD.out.below.trans (hu10.out.below (Nat.le_refl _)))
      · obtain ⟨k, rfl⟩ : ∃ k : Nat, n = (k : Int) := ⟨n.toNat, by omega⟩
        have hk : k ≤ 9007199254740991 := by omega
        have HOK := Lib.hid (drv_ok key s k hall hk)
        have HKK := Lib.hid hk
        have hsz2 : s.size ≤ 500000 := by omega
        have HSZ := Lib.hid hsz2
        have htl : (told s.data.toList k).length ≤ 100000 := by rw [length_told, Array.length_toList]; have : s.data.size = s.size := rfl; omega
        have HTL := Lib.hid htl
        have h1 : ¬ (k : Int) < 0 := by omega
        have h2 : (k : Int) ≤ 9007199254740991 := by omega
        have HDR := Lib.hid (HK0.out.below HD.out.below)
        clear hall hk hsz2 htl hr
        go_upto_region 10 with (first
          | (go_at_call 37; refine (rtold_calls s k HKK.out HSZ.out wr).mono ?_; rintro e w1 ⟨v1, rfl, ho1, hb1⟩; replace ho1 := Lib.hid ho1; have HD1 := Lib.hid (HD.out.call hb1); have HK1 := Lib.hid (HK0.out.below HD1.out.below); clear hb1)
          | (go_at_call 22; refine (rmac_calls kv v1 key (told s.data.toList k) w1 (HK1.out.mono HD1.out.below.size) ho1.out.rd HLK.out HTL.out).mono ?_; rintro e w2 ⟨rfl, hb2⟩; have HD2 := Lib.hid (HD1.out.call hb2); clear hb2)
          | (refine wpList_store_upd rfl 24 (.tmp 10) (.tmp 34) rfl w2.heap.size 0 (.agg (A32 (hmac key (told s.data.toList k)))) rfl rfl _ z32 (heap_new w2 _) (info_A32h _ _) (le_A32h _ _) (one_A32 _) rfl ?_; intro w3 hu3; rw [put_A32h] at hu3; replace hu3 := Lib.hid hu3))
        have hl32 := length_hmac key (told s.data.toList k)
        generalize hmac key (told s.data.toList k) = D at *
        have hD3 : Hid (D3 w D 0 w2.heap.size w3) := Lib.hid (d3_start (by rw [HL.out]; exact HD2.out) hl32 hu3.out)
        generalize w2.heap.size = q at *
        clear hu3 HD HD1 HD2 HK1 HDR ho1 hl32
        go_wp2_with fail
        go_loopg [11] 16 (fun g iv wt => ∃ i : Nat, i + g = 16 ∧ iv = .int .i64 i ∧ D3 w D i q wt)
        case atStart => exact ⟨0, rfl, rfl, hD3.out⟩
        case round =>
          obtain ⟨i, hi, rfl, hX⟩ := hrel
          have HX := Lib.hid hX
          clear hD3
          by_cases hlt : i < 16
          · have c0 := hX.cell i (by omega)
            generalize hd0 : D.getD i 0 = d0 at c0
            have HD0 := Lib.hid hd0
            have hsz3 : i + 1 ≤ (A16 (f16 D i)).size := by rw [size_A16, length_f16 D i hX.len (by omega)]; omega
            have HS3 := Lib.hid hsz3
            clear hX hd0 hsz3
            go_wp2_with (refine wpList_store_upd rfl 5 (.tmp 43) (.tmp 42) rfl (w.heap.size + 1) i (bv d0) rfl rfl _ _ HX.out.d.out info_u8 HS3.out (one_bv _) rfl ?_; intro w4 hu4)
            have HN := Lib.hid (HX.out.step hlt HD0.out hu4)
            clear hu4 HX
            go_wp2_with fail
            go_roundg (gk - 1)
            case measure => omega
            case rel => exact ⟨i + 1, by omega, by go_num, HN.out⟩
          · obtain rfl : i = 16 := by omega
            have h16 := Lib.hid (length_f16 D 16 hX.len (Nat.le_refl _))
            clear hX hlt hi
            go_wp2_with (first
              | (refine wpList_load_blk rfl 41 (.tmp 8) rfl (w.heap.size + 1) 0 rfl _ _ _ HX.out.d.out (A16 (f16 D 16)) (List.take_of_length_le (Nat.le_refl _)) _ Tryd.underlying41 rfl (info_A16 _ h16.out) ?_)
              | (refine wpList_store_upd rfl 41 (.tmp 6) (.tmp 44) rfl w.heap.size 0 (.agg (A16 (f16 D 16))) rfl rfl _ _ HX.out.d.res (info_A16 _ h16.out) (Nat.le_of_eq ((Nat.zero_add _).trans ((size_A16 _).trans h16.out))) (one_A16 _) rfl ?_; intro w10 hu10; rw [show put z16 0 (Value.agg (A16 (f16 D 16))).cells = A16 (f16 D 16) from put_whole _ _ ((size_A16 _).trans h16.out).symm] at hu10; replace hu10 := Lib.hid hu10))
            refine bodyPost_ret (ret_row2 rfl _ _ w.heap.size _ (A16 (f16 D 16)) _ _ (.int .i64 0) rfl rfl hu10.out.here Tryd.underlying41 rfl (info_A16 _ h16.out)) rfl ⟨?_, ?_⟩
            · rw [HOK.out, f16_all]
            · exact HX.out.d.below.trans (hu10.out.below (Nat.le_refl _))
end Go.Proofs.YtlgaikknodoilaaDoor.Sh
