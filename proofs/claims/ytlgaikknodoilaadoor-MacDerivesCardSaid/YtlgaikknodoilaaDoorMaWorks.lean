/- The contract of works (the laws of mac). -/
import Derived.Test.YtlgaikknodoilaaDoorMaMany
namespace Go.Proofs.YtlgaikknodoilaaDoor.Sh
set_option linter.unusedVariables false
set_option linter.unusedSimpArgs false
open Go Go.RowKit

set_option maxRecDepth 4000 in
set_option maxHeartbeats 1000000 in
theorem works3_calls (w : World) (ht : Tab w) :
    Calls Tryd.prog 9 #[] w fun e w' => e = .returned (.bool true) ∧ Below w.heap.size w w' := by
  obtain ⟨s1, hs1, q1⟩ := str_name _ _ mdig1_eq
  obtain ⟨s2, hs2, q2⟩ := str_name _ _ mdig2_eq
  have S1 := Lib.hid hs1
  have S2 := Lib.hid hs2
  clear hs1 hs2
  unfold mdig1 at q1
  unfold mdig2 at q2
  have kc := fun (w : World) (C : Array Value) (n c : Nat) => Lib.run_convert_bytes_const (P := Tryd.prog) w 22 5 C n c Tryd.underlying22 Tryd.underlying5
  have HT := Lib.hid ht
  have mk := Lib.hid (many_calls 11 20 (by omega) w)
  go_enter Tryd.func9, Tryd.ntmps9
  go_wp2_with (go_at_call 14; refine Calls.mono (show Calls Tryd.prog 14 #[.int .u8 11, .int .i64 20] w _ from mk.out) ?_; rintro e w1 ⟨v1, rfl, ho1, hb1⟩; replace ho1 := Lib.hid ho1; replace hb1 := Lib.hid hb1)
  have HL1 : Hid (LI w w1) := Lib.hid ((LI.start HT.out).call hb1.out)
  have HR1 : Hid (RD w1.heap.size w1 v1 k11) := Lib.hid (by have := ho1.out.rd; rwa [k11_eq] at this)
  clear hb1 ho1 mk
  go_upto_region 2 with (first
    | (go_at_call 10; refine (mac_L w v1 (.slice (some ⟨w1.heap.size, 0, none⟩) 8 8) k11 hiThere _ (HL1.out.alloc _) (rd_past HR1.out _) (rd_hi w1) (by decide) (by decide)).mono ?_; rintro e w2 ⟨rfl, hl2, -⟩; replace hl2 := Lib.hid hl2)
    | (refine wpList_store_upd rfl 24 (.tmp 1) (.tmp 6) rfl w2.heap.size 0 (.agg (A32 (hmac k11 hiThere))) rfl rfl _ z32 (heap_new w2 _) (info_A32h _ _) (le_A32h _ _) (one_A32 _) rfl ?_; intro w3 hu3; rw [put_A32h] at hu3; replace hu3 := Lib.hid hu3))
  have hd1 := Lib.hid (kd_start hl2.out hu3.out)
  generalize w2.heap.size = p1 at *
  clear hl2 hu3 HL1 HR1
  have kc2 : ∀ (o : Obj) (C : Array Value) (n c : Nat), (convert 22 22 (.slice (some ⟨w3.heap.size + 1, 0, none⟩) n c)).run Tryd.prog ((w3.alloc o).alloc (.cells C 5)) = .ok (.slice (some ⟨w3.heap.size + 1, 0, none⟩) n c) ((w3.alloc o).alloc (.cells C 5 (C.size, C.size + 1))) := fun o C n c => by
    have := kc (w3.alloc o) C n c
    rwa [World.size_alloc] at this
  go_upto_region 3 with (first
    | (go_at_call 10; refine (mac_L w (.slice (some ⟨w3.heap.size, 0, none⟩) 4 4) (.slice (some ⟨w3.heap.size + 1, 0, none⟩) 28 28) jefe whatDo _ ((hd1.out.alloc _).alloc _).li (rd_jefe w3 _) (rd_what w3 _) (by decide) (by decide)).mono ?_; rintro e w4 ⟨rfl, hl4, hb4⟩; have hd4 := Lib.hid (((hd1.out.alloc _).alloc _).call hb4); clear hl4 hb4)
    | (refine wpList_store_upd rfl 24 (.tmp 2) (.tmp 11) rfl w4.heap.size 0 (.agg (A32 (hmac jefe whatDo))) rfl rfl _ z32 (heap_new w4 _) (info_A32h _ _) (le_A32h _ _) (one_A32 _) rfl ?_; intro w5 hu5; rw [put_A32h] at hu5; replace hu5 := Lib.hid hu5))
  have hd5 := Lib.hid (hd4.out.two hu5.out)
  have hd2 := Lib.hid (kd_start hd4.out.li hu5.out)
  generalize w4.heap.size = p2 at *
  have HA1 := Lib.hid (length_hmac k11 hiThere)
  have HA2 := Lib.hid (length_hmac jefe whatDo)
  have HI1 := Lib.hid (info_A32h k11 hiThere)
  have HI2 := Lib.hid (info_A32h jefe whatDo)
  clear hd4 hu5 hd1 kc kc2
  have ha1 := HA1.out
  have ha2 := HA2.out
  generalize hmac k11 hiThere = D1 at *
  generalize hmac jefe whatDo = D2 at *
  go_wp2_with (first
    | (refine wpList_load_row_g (by rfl) 24 (.tmp 1) rfl p1 rfl _ _ _ _ hd5.out.row Tryd.underlying24 rfl HI1.out ?_)
    | (refine wpList_load_row_g (by rfl) 24 (.tmp 2) rfl p2 rfl _ _ _ _ hd2.out.row Tryd.underlying24 rfl HI2.out ?_)
    | (go_at_call 24; refine (hex_calls _ (by assumption) _).mono ?_; rintro e w6 ⟨rfl, hb6⟩; (first | rw [S1.out] | rw [S2.out]); replace hd2 := Lib.hid (hd2.out.call hb6); clear hb6))
  go_ret
  exact ⟨rfl, hd2.out.li.bel⟩
end Go.Proofs.YtlgaikknodoilaaDoor.Sh
