/- The walk of ShaKnown. -/
import Derived.Test.YtkfoalfnjeachaaDoorShSums
import Derived.Test.YtkfoalfnjeachaaDoorShNil
import Derived.Test.YtkfoalfnjeachaaDoorShMillion
namespace Go.Proofs.YtkfoalfnjeachaaDoor.Sh
open Go Go.RowKit

theorem rd_blk (w : World) (t n : Nat) (T : Bs) (ty : TypeId) (fr : Nat × Nat) (hn : T.length = n) (hm : n ≤ maxLen) (h : w.heap[t]? = some (.cells (T.map bv).toArray ty fr)) : RD w.heap.size w (.slice (some ⟨t, 0, none⟩) n n) T := by
  refine ⟨some ⟨t, 0, none⟩, n, by rw [List.length_map, hn], by rw [List.length_map, hn]; exact Nat.le_refl _, hm, fun e => (by cases e), fun _ => ⟨t, 0, rfl, lt_of_heap h, fun j u hu => ?_⟩⟩
  rw [cell_of_row w t (0 + j) _ _ _ h, List.getElem?_toArray, Nat.zero_add]
  exact hu
structure K1 (w0 : World) (t : Nat) (T : Bs) (w : World) : Prop where
  li : LI w0 w
  own : w0.heap.size ≤ t
  tx : w.heap[t]? = some (.cells (T.map bv).toArray 5 (0, 0))
  len : T.length = 200
theorem K1.start {w : World} (ht : Tab w) : K1 w w.heap.size (List.replicate 200 0) (w.alloc (.cells (Z 200) 5)) := ⟨(LI.start ht).alloc _, Nat.le_refl _, heap_new w _, List.length_replicate ..⟩
theorem K1.call {w0 w w' : World} {t : Nat} {T : Bs} (h : K1 w0 t T w) (hb : Below w.heap.size w w') : K1 w0 t T w' := ⟨h.li.call hb, h.own, heap_below h.tx hb (lt_of_heap h.tx), h.len⟩
theorem K1.rd {w0 w : World} {t : Nat} {T : Bs} (h : K1 w0 t T w) : RD w.heap.size w (.slice (some ⟨t, 0, none⟩) 200 200) T := rd_blk w t 200 T _ _ h.len (by simp only [maxLen]; omega) h.tx
theorem put_bv (T : Bs) (i : Nat) (x : UInt8) (hi : i < T.length) : put (T.map bv).toArray i (bv x).cells = ((T.set i x).map bv).toArray := by
  rw [put_one _ _ _ (by simp [bv, Value.cells]) (by simpa using hi), List.map_set]
theorem K1.step {w0 w w' : World} {t i : Nat} {T : Bs} {x : UInt8} (ht : Tab w0) (h : K1 w0 t T w) (hi : i < 200) (hu : Upd t (.cells (put (T.map bv).toArray i (bv x).cells) 5 (0, 0)) w w') : K1 w0 t (T.set i x) w' := by
  rw [put_bv T i x (by rw [h.len]; exact hi)] at hu
  exact ⟨(LI.start ht).call (h.li.bel.trans (hu.below h.own)), h.own, hu.here, by rw [List.length_set]; exact h.len⟩
theorem text_val (i : Nat) : ((7 * (i : Int) + (i : Int) / 3) % 256) = ((UInt8.ofNat (7 * i + i / 3)).toNat : Int) := by
  rw [show (UInt8.ofNat (7 * i + i / 3)).toNat = (7 * i + i / 3) % 256 from UInt8.toNat_ofNat' ..]
  omega

/-- A thousand bytes, the first i of them 97. -/
def TH (i : Nat) : Bs := List.replicate i 97 ++ List.replicate (1000 - i) 0
theorem length_TH (i : Nat) (h : i ≤ 1000) : (TH i).length = 1000 := by simp [TH]; omega
theorem TH_step (i : Nat) (h : i < 1000) : (TH i).set i 97 = TH (i + 1) := by
  unfold TH
  obtain ⟨r, hr⟩ : ∃ r, 1000 - i = r + 1 := ⟨999 - i, by omega⟩
  rw [List.set_append_right _ _ (by rw [List.length_replicate]; exact Nat.le_refl _), List.length_replicate, Nat.sub_self, hr, List.replicate_succ, List.set_cons_zero, show 1000 - (i + 1) = r by omega, List.replicate_succ', List.append_assoc]
  rfl
theorem TH_all : TH 1000 = List.replicate 1000 97 := by unfold TH; rw [Nat.sub_self]; exact List.append_nil _
structure K2 (w0 : World) (p th i : Nat) (w : World) : Prop where
  li : LI w0 w
  ph : w0.heap.size ≤ p
  oth : w0.heap.size ≤ th
  hash : HashAt w p []
  ne : p ≠ th
  row : w.heap[th]? = some (.cells ((TH i).map bv).toArray 5 (0, 0))
theorem HashAt.upd0 {w w' : World} {p g : Nat} {o : Obj} (h : HashAt w p []) (hu : Upd g o w w') (hpg : p ≠ g) : HashAt w' p [] := by
  obtain ⟨v, lv, h1, ⟨a, c, rfl, r1, r2, r3, _⟩, h3⟩ := h.here
  exact ⟨v, _, heap_upd h1 hu hpg, ⟨a, c, rfl, r1, r2, r3, fun hne => absurd rfl hne⟩, h3⟩
theorem K2.start {w0 w : World} {p : Nat} (h : LH w0 p [] w) : K2 w0 p w.heap.size 0 (w.alloc (.cells (Z 1000) 5)) :=
  ⟨h.li.alloc _, h.own, h.li.bel.size, h.hash.below ((Below.refl _ _).alloc (Nat.le_refl _) _), Nat.ne_of_lt h.hash.lt, heap_new w _⟩
theorem K2.step {w0 w w' : World} {p th i : Nat} (ht : Tab w0) (h : K2 w0 p th i w) (hi : i < 1000) (hu : Upd th (.cells (put ((TH i).map bv).toArray i (bv 97).cells) 5 (0, 0)) w w') : K2 w0 p th (i + 1) w' := by
  rw [put_bv _ i 97 (by rw [length_TH i (by omega)]; exact hi), TH_step i hi] at hu
  exact ⟨(LI.start ht).call (h.li.bel.trans (hu.below h.oth)), h.ph, h.oth, h.hash.upd0 hu h.ne, h.ne, hu.here⟩
structure K3 (w0 : World) (p th k : Nat) (w : World) : Prop where
  lh : LH w0 p (List.replicate (1000 * k) 97) w
  ne : p ≠ th
  row : w.heap[th]? = some (.cells ((List.replicate 1000 (97 : UInt8)).map bv).toArray 5 (0, 0))
theorem K2.three {w0 w : World} {p th : Nat} (h : K2 w0 p th 1000 w) : K3 w0 p th 0 w := ⟨⟨h.li, h.ph, h.hash⟩, h.ne, by have := h.row; rwa [TH_all] at this⟩
theorem K3.write (w0 : World) (p th k : Nat) (w : World) (ht : Tab w0) (h : K3 w0 p th k w) (hk : k < 1000) :
    Calls Tryd.prog 15 #[.pointer (some ⟨p, 0, none⟩), .slice (some ⟨th, 0, none⟩) 1000 1000] w fun e w' => e = .returned (.pointer (some ⟨p, 0, none⟩)) ∧ K3 w0 p th (k + 1) w' := by
  have hrd := rd_blk w th 1000 _ _ _ (List.length_replicate ..) (by simp only [maxLen]; omega) h.row
  have hl : (List.replicate (1000 * k) (97 : UInt8)).length + (List.replicate 1000 (97 : UInt8)).length ≤ 1099511627776 := by
    have e1 : (List.replicate (1000 * k) (97 : UInt8)).length = 1000 * k := List.length_replicate ..
    have e2 : (List.replicate 1000 (97 : UInt8)).length = 1000 := List.length_replicate ..
    omega
  refine (write_calls p _ _ _ w h.lh.li.tab h.lh.hash hrd (by have := h.lh.own; have := ht.lt; omega) hl).mono fun _ _ ⟨h1, h2, h3⟩ => ⟨h1, ?_, h.ne, (h3.block th (lt_of_heap h.row) (Ne.symm h.ne)).trans h.row⟩
  have e : List.replicate (1000 * k) (97 : UInt8) ++ List.replicate 1000 97 = List.replicate (1000 * (k + 1)) 97 := by
    rw [List.replicate_append_replicate]; rfl
  rw [e] at h2
  exact h.lh.write h2 h3 ht
theorem K3.end {w0 w : World} {p th : Nat} (h : K3 w0 p th 1000 w) : LH w0 p million w := h.lh
theorem write_LH2w (w0 : World) (p q : Nat) (c d x : Bs) (sv : Value) (w : World) (ht : Tab w0) (h : LH2 w0 p c q d w) (hx : RD w.heap.size w sv x) (hlen : d.length + x.length ≤ 1099511627776) :
    Calls Tryd.prog 15 #[.pointer (some ⟨q, 0, none⟩), sv] w fun e w' => e = .returned (.pointer (some ⟨q, 0, none⟩)) ∧ LH2 w0 p c q (d ++ x) w' :=
  (write_calls q d x sv w h.one.li.tab h.hash hx (by have := h.own; have := ht.lt; omega) hlen).mono fun _ _ ⟨h1, h2, h3⟩ => ⟨h1, (LH2.symm ⟨h.symm.one.write h2 h3 ht, h.one.own, Ne.symm h.ne, h.one.hash.keeps h.hash.block h.ne h3⟩)⟩
theorem zero_LH2 {w0 w : World} {p : Nat} {c : Bs} (h : LH w0 p c w) : LH2 w0 p c w.heap.size [] (w.alloc (.cells #[.int .u32 0, .int .u32 0, .int .u32 0, .int .u32 0, .int .u32 0, .int .u32 0, .int .u32 0, .int .u32 0, .slice none 0 0, .int .i64 0] 41)) :=
  ⟨h.call ((Below.refl _ _).alloc (Nat.le_refl _) _), h.li.bel.size, Nat.ne_of_lt h.hash.lt, new_at w⟩
theorem LH2.alloc {w0 w : World} {p q : Nat} {c d : Bs} (h : LH2 w0 p c q d w) (o : Obj) : LH2 w0 p c q d (w.alloc o) := h.call ((Below.refl _ _).alloc (Nat.le_refl _) o)
theorem sumnil_LH2 (w0 : World) (p q : Nat) (c d : Bs) (w : World) (h : LH2 w0 p c q d w) :
    Calls Tryd.prog 16 #[.pointer none] w fun e w' => e = .returned (.agg (A32 (sha []))) ∧ LH2 w0 p c q d w' :=
  (sum_nil w h.one.li.tab).mono fun _ _ ⟨h1, h2⟩ => ⟨h1, h.call h2⟩
theorem hex_LH2 (w0 : World) (p q : Nat) (c d l : Bs) (hl : l.length = 32) (w : World) (h : LH2 w0 p c q d w) :
    Calls Tryd.prog 19 #[.agg (A32 l)] w fun e w' => e = .returned (.string (hx l 32)) ∧ LH2 w0 p c q d w' :=
  (hex_calls l hl w).mono fun _ _ ⟨h1, h2⟩ => ⟨h1, h.call h2⟩
theorem len_LH2 (w0 : World) (p q : Nat) (c d : Bs) (w : World) (h : LH2 w0 p c q d w) :
    Calls Tryd.prog 17 #[.pointer (some ⟨p, 0, none⟩)] w fun e w' => e = .returned (.int .i64 (c.length : Int)) ∧ w = w' := len_calls p c w h.one.hash
theorem rd_abc (w : World) : RD (w.alloc (.cells #[.int .u8 97, .int .u8 98, .int .u8 99] 5 (3, 4))).heap.size (w.alloc (.cells #[.int .u8 97, .int .u8 98, .int .u8 99] 5 (3, 4))) (.slice (some ⟨w.heap.size, 0, none⟩) 3 3) abc :=
  (rd_marked w abc (by decide) (3, 4)).mono (by simp)

set_option maxRecDepth 100000 in
set_option maxHeartbeats 1000000 in
theorem known_calls (w : World) (ht : Tab w) :
    Calls Tryd.prog 8 #[] w fun e w' => e = .returned (.bool true) ∧ Below w.heap.size w w' := by
  have HT := Lib.hid ht
  have mk1 : ∀ w, (Instr.makeSlice 25 (.int .i64 200) (.int .i64 200)).run Tryd.prog w = .ok (.slice (some ⟨w.heap.size, 0, none⟩) 200 200) (w.alloc (.cells (Z 200) 5)) := fun w => run_make_Z 200 (by omega) w
  have mk2 : ∀ w, (Instr.makeSlice 25 (.int .i64 1000) (.int .i64 1000)).run Tryd.prog w = .ok (.slice (some ⟨w.heap.size, 0, none⟩) 1000 1000) (w.alloc (.cells (Z 1000) 5)) := fun w => run_make_Z 1000 (by omega) w
  go_enter Tryd.func8, Tryd.ntmps8
  go_wp2_with fail
  have hK0 := Lib.hid (K1.start ht)
  go_loopg [2] 200 (fun gk iv wr => ∃ (i : Nat) (T : Bs), i + gk = 200 ∧ iv = .int .i64 i ∧ K1 w w.heap.size T wr)
  case atStart => exact ⟨0, _, rfl, rfl, hK0.out⟩
  case round =>
    obtain ⟨i, T, hi, rfl, hK⟩ := hrel
    have HK := Lib.hid hK
    have hTl := hK.len
    clear hK hK0
    by_cases hlt : i < 200
    · obtain ⟨u, hu, hur'⟩ := rd_to (a := some ⟨w.heap.size, 0, none⟩) (n := 200) (c := 200) .i64 i (by omega) (by omega)
      have hur := Lib.hid hur'
      have HX := Lib.hid hTl
      have hli : i + 1 ≤ (T.map bv).toArray.size := by simp; omega
      have HLI := Lib.hid hli
      clear hur' hTl hli
      go_wp2_with (first
        | (refine wpList_store_upd rfl 5 (.tmp 23) (.tmp 22) rfl w.heap.size i (bv (UInt8.ofNat (7 * i + i / 3))) rfl (congrArg (Value.int .u8) (text_val i)) _ _ HK.out.tx info_u8 HLI.out (one_bv _) rfl ?_; intro w2 hu2; replace hu2 := Lib.hid hu2; have HK2 := Lib.hid (HK.out.step HT.out hlt hu2.out))
        | (go_at_call 4; refine (sums_calls w2 HK2.out.li.tab u _ (hur.out _ _ _ HK2.out.rd) ((i : Int) / 2) (by unfold Fits; omega)).mono ?_; rintro e w3 ⟨rfl, hb3⟩; have HK3 := Lib.hid (HK2.out.call hb3)))
      go_roundg (gk - 1)
      case measure => omega
      case rel => exact ⟨i + 1, _, by omega, by go_num, HK3.out⟩
    · obtain rfl : i = 200 := by omega
      clear hlt hi hTl
      go_wp2_with (go_at_call 14; refine (new_LHx w wr HK.out.li).mono ?_; rintro e w1 ⟨p, rfl, lh1⟩; have hK2 := Lib.hid (K2.start lh1); clear lh1)
      go_loopg [5] 1000 (fun gk iv wr => ∃ i : Nat, i + gk = 1000 ∧ iv = .int .i64 i ∧ K2 w p w1.heap.size i wr)
      case atStart => exact ⟨0, rfl, rfl, hK2.out⟩
      case round =>
        obtain ⟨i, hi, rfl, hK3⟩ := hrel
        have HK3 := Lib.hid hK3
        clear hK3 hK2
        by_cases hlt : i < 1000
        · have hli : i + 1 ≤ ((TH i).map bv).toArray.size := by simp [length_TH i (by omega)]; omega
          have HLI := Lib.hid hli
          clear hli
          go_wp2_with (refine wpList_store_upd rfl 5 (.tmp 39) _ rfl w1.heap.size i (bv 97) rfl rfl _ _ HK3.out.row info_u8 HLI.out (one_bv _) rfl ?_; intro w2 hu2; have HK4 := Lib.hid (HK3.out.step HT.out hlt hu2); clear hu2)
          go_roundg (gk - 1)
          case measure => omega
          case rel => exact ⟨i + 1, by omega, by go_num, HK4.out⟩
        · obtain rfl : i = 1000 := by omega
          have hK5 := Lib.hid HK3.out.three
          clear HK3 hlt hi
          go_wp2_with fail
          go_loopg [6] 1000 (fun gk iv wr => ∃ k : Nat, k + gk = 1000 ∧ iv = .int .i64 k ∧ K3 w p w1.heap.size k wr)
          case atStart => exact ⟨0, rfl, rfl, hK5.out⟩
          case round =>
            obtain ⟨k, hk, rfl, hK6⟩ := hrel
            have HK6 := Lib.hid hK6
            clear hK6 hK5
            by_cases hlt : k < 1000
            · go_wp2_with (go_at_call 15; refine (K3.write w p w1.heap.size k _ HT.out HK6.out hlt).mono ?_; rintro e w2 ⟨rfl, hK7⟩; have HK7 := Lib.hid hK7; clear hK7)
              go_roundg (gk - 1)
              case measure => omega
              case rel => exact ⟨k + 1, by omega, by go_num, HK7.out⟩
            · obtain rfl : k = 1000 := by omega
              have hz0 := Lib.hid (zero_LH2 HK6.out.end)
              obtain ⟨s0, hs0, q0⟩ := eq_name _ _ digH_eq
              have S0 := Lib.hid hs0
              have hlm : million.length ≤ 549755813888 := by rw [length_million]; omega
              have HLM := Lib.hid hlm
              have hee : ∀ w, (binOp .eql 23 (.agg (A32 (sha []))) (.agg (A32 (sha [])))).run Tryd.prog w = .ok (.bool true) w := fun w => run_eql_same (sha []) (length_sha []) w
              have hea : ∀ w, (binOp .eql 23 (.agg (A32 (sha abc))) (.agg (A32 (sha abc)))).run Tryd.prog w = .ok (.bool true) w := fun w => run_eql_same (sha abc) (length_sha abc) w
              clear HK6 hlt hk hlm hs0
              unfold digH at q0
              go_upto_region 20 with fail
              have hle : ([] : Bs).length ≤ 549755813888 := Nat.zero_le _
              have HLE := Lib.hid hle
              have hla : ([] : Bs).length + abc.length ≤ 1099511627776 := by decide
              have HLA := Lib.hid hla
              have hlb : ([] ++ abc).length ≤ 549755813888 := by decide
              have HLB := Lib.hid hlb
              clear hle hla hlb
              generalize hq : wr.heap.size = q at *
              go_upto_region 21 with (first
                | (go_at_call 15; refine (write_nil _ _).mono ?_; rintro e w2 ⟨rfl, rfl⟩)
                | (go_at_call 18; refine (copy_nil _).mono ?_; rintro e w2 ⟨rfl, rfl⟩)
                | (go_at_call 17; refine (len_nil _).mono ?_; rintro e w2 ⟨rfl, rfl⟩)
                | (go_at_call 16; refine (sumnil_LH2 w p q million [] _ hz0.out).mono ?_; rintro e w2 ⟨rfl, hz1⟩; replace hz1 := Lib.hid hz1)
                | (go_at_call 10; refine (shaSum_LH2' w p q million [] [] (.slice none 0 0) _ hz1.out RD.nil HLE.out).mono ?_; rintro e w3 ⟨rfl, hz2⟩; replace hz2 := Lib.hid hz2))
              have kc := fun (w : World) (C : Array Value) (n c : Nat) => Lib.run_convert_bytes_const (P := Tryd.prog) w 25 5 C n c Tryd.underlying25 Tryd.underlying5
              go_wp2_with (first
                | (go_at_call 11; refine (works_LH2 w p q million [] _ hz2.out).mono ?_; rintro e w4 ⟨rfl, hz3⟩; replace hz3 := Lib.hid hz3)
                | (go_at_call 16; refine (sum_LH2 w p q million [] _ hz3.out HLM.out).mono ?_; rintro e w5 ⟨rfl, hz4⟩; replace hz4 := Lib.hid hz4)
                | (go_at_call 19; refine (hex_LH2 w p q million [] (sha million) (length_sha _) _ hz4.out).mono ?_; rintro e w6 ⟨rfl, hz5⟩; rw [S0.out]; replace hz5 := Lib.hid hz5)
                | (go_at_call 17; refine (len_LH2 w p q million [] _ hz5.out).mono ?_; rintro e w7 ⟨rfl, rfl⟩; rw [length_million]))
              go_wp2_with (first
                | (go_at_call 15; refine (write_LH2w w p q million [] abc _ _ HT.out (hz5.out.alloc _) (rd_abc _) HLA.out).mono ?_; rintro e w8 ⟨rfl, hz6⟩; replace hz6 := Lib.hid hz6)
                | (go_at_call 16; refine (sum_LH2' w p q million ([] ++ abc) _ hz6.out HLB.out).mono ?_; rintro e w9 ⟨rfl, hz7⟩; replace hz7 := Lib.hid hz7; rw [List.nil_append])
                | (go_at_call 10; refine (shaSum_LH2' w p q million ([] ++ abc) abc _ _ (hz7.out.alloc _) (rd_abc _) HLB.out).mono ?_; rintro e w10 ⟨rfl, hz8⟩; replace hz8 := Lib.hid hz8))
              go_ret
              exact ⟨rfl, hz8.out.one.li.bel⟩
end Go.Proofs.YtkfoalfnjeachaaDoor.Sh
