/- The walk of TapeKnown. -/
import Derived.Test.YtmkpajhfgdffpaaDoorTaDraws
namespace Go.Proofs.YtmkpajhfgdffpaaDoor.Sh
set_option linter.unusedVariables false
set_option linter.unusedSimpArgs false
open Go Go.RowKit

theorem run_tp_nil (w : World) : (binOp .eql 25 (.pointer none) (.pointer none)).run Tryd.prog w = .ok (.bool true) w := by kernel_rfl
theorem draw_nil (z : Int) (w : World) : Calls Tryd.prog 12 #[.pointer none, .int .i64 z] w fun e w' => e = .returned (.slice none 0 0) ∧ w = w' := by
  have h := run_tp_nil w
  go_enter Tryd.func12, Tryd.ntmps12
  go_wp2_with fail
  go_ret
  exact ⟨rfl, rfl⟩
theorem at_nil (w : World) : Calls Tryd.prog 13 #[.pointer none] w fun e w' => e = .returned (.int .i64 0) ∧ w = w' := by
  have h := run_tp_nil w
  go_enter Tryd.func13, Tryd.ntmps13
  go_wp2_with fail
  go_ret
  exact ⟨rfl, rfl⟩
theorem copy_nil (w : World) : Calls Tryd.prog 20 #[.pointer none] w fun e w' => e = .returned (.pointer none) ∧ w = w' := by
  have h := run_tp_nil w
  go_enter Tryd.func20, Tryd.ntmps20
  go_wp2_with fail
  go_ret
  exact ⟨rfl, rfl⟩
def zcells : Array Value := #[.slice none 0 0, .slice none 0 0, .int .i64 0, .chan none, .int .i64 0, .bool false]
theorem tk_zero {w0 w : World} {ts : List (Nat × Bs × Nat)} {l : List (Nat × Obj)} {vs : List (Value × Bs)} (h : Tk w0 ts l vs w) : Tk w0 ((w.heap.size, [], 0) :: ts) l vs (w.alloc (.cells zcells 44)) := by
  obtain ⟨tps, h1, h2, h3⟩ := h
  refine ⟨⟨w.heap.size, .slice none 0 0, .slice none 0 0, [], 0, 0, 0, 0, none, false⟩ :: tps, by rw [List.map_cons, h1]; rfl, fun x hx => ?_, ?_⟩
  · rcases List.mem_cons.1 hx with rfl | hx
    · exact ⟨rfl, by simp, fun _ => rfl, by simp, by simp, by simp⟩
    · exact h2 x hx
  · rw [List.flatMap_cons, TP.blocks_none rfl]
    have h4 := h3.fresh (.cells zcells 44)
    have h5 := (h4.rowF (v := .slice none 0 0) (m := []) RF.nil).rowF (v := .slice none 0 0) (m := []) RF.nil
    exact h5
theorem bytes_of_u8s {cur : Array Value} {n : Nat} (h : U8s cur n) (hs : cur.size = n) : ∃ L : Bs, L.length = n ∧ cur = (L.map bv).toArray := by
  refine ⟨cur.toList.map fun v => match v with | .int _ x => UInt8.ofNat x.toNat | _ => 0, by simp [hs], ?_⟩
  apply Array.ext'
  rw [List.map_map]
  apply List.ext_getElem (by simp)
  intro j h1 h2
  have hj : j < n := by rw [← hs]; simpa using h1
  obtain ⟨x, hx⟩ := h.2 j hj
  have e : cur.toList[j] = bv x := by
    have : cur.toList[j]? = some (bv x) := by simpa using hx
    rw [List.getElem?_eq_getElem h1] at this
    exact Option.some.inj this
  simp only [List.getElem_map, Function.comp_def]
  rw [e]
  show bv x = bv (UInt8.ofNat ((x.toNat : Int)).toNat)
  rw [Int.toNat_natCast]
  congr 1
  exact (UInt8.ofNat_toNat).symm
theorem u8s_Z (n : Nat) : U8s (Z n) n := by have := U8s.of_row (List.replicate n 0); rwa [List.length_replicate] at this
theorem put_u8_size {cur : Array Value} {n i : Nat} (hs : cur.size = n) (hi : i < n) (y : UInt8) : (put cur i (bv y).cells).size = n := by
  unfold put
  show ((cur.toList.take i ++ [bv y] ++ cur.toList.drop (i + 1)).toArray).size = n
  simp; omega
theorem div7 (i : Nat) : ((i : Int) / 7 % 256) = ((UInt8.ofNat (i / 7)).toNat : Int) := by
  rw [show (UInt8.ofNat (i / 7)).toNat = i / 7 % 256 from UInt8.toNat_ofNat' ..]; omega
def drawsArgs (n : Nat) : List Int := [(n : Int), 1, 0, -1, 31, 33, (n : Int)]
theorem rv_args (w : World) (n : Nat) : RV (w.alloc (.cells #[.int .i64 (n : Int), .int .i64 1, .int .i64 0, .int .i64 (-1), .int .i64 31, .int .i64 33, .int .i64 (n : Int)] 3)).heap.size (w.alloc (.cells #[.int .i64 (n : Int), .int .i64 1, .int .i64 0, .int .i64 (-1), .int .i64 31, .int .i64 33, .int .i64 (n : Int)] 3)) (.slice (some ⟨w.heap.size, 0, none⟩) 7 7) ((drawsArgs n).map (Value.int .i64)) := by
  refine ⟨_, 7, rfl, Nat.le_refl _, by simp [maxLen], (fun e => by cases e), fun _ => ⟨w.heap.size, 0, rfl, by simp, fun j u hu => ?_⟩⟩
  rw [cell_of_row _ _ _ _ _ _ (heap_new w _), Nat.zero_add]
  show ((drawsArgs n).map (Value.int .i64)).toArray[j]? = some u
  rw [List.getElem?_toArray]
  exact hu
theorem fits_args (n : Nat) (hn : n < 70) : ∀ x ∈ drawsArgs n, Fits x := by
  intro x hx
  unfold Fits
  simp only [drawsArgs, List.mem_cons, List.not_mem_nil, or_false] at hx
  rcases hx with rfl | rfl | rfl | rfl | rfl | rfl | rfl <;> constructor <;> omega

set_option maxRecDepth 100000 in
set_option maxHeartbeats 2000000 in
theorem tknown_calls (w : World) (ht : Tab w) :
    Calls Tryd.prog 8 #[] w fun e w' => e = .returned (.bool true) ∧ Below w.heap.size w w' := by
  have hmk : ∀ w' : World, (Instr.makeSlice 22 (.int .i64 65541) (.int .i64 65541)).run Tryd.prog w' = .ok (.slice (some ⟨w'.heap.size, 0, none⟩) 65541 65541) (w'.alloc (.cells (Z 65541) 5)) := fun w' => run_make_Z 65541 (by decide) w'
  have HT0 := Lib.hid ((Tk.start ht).fresh (.cells (Z 65541) 5))
  have hpn := fun (p : Nat) => run_tp_some p
  have hpz := fun w' : World => run_tp_nil w'
  go_enter Tryd.func8, Tryd.ntmps8
  go_upto_region 2 with fail
  clear hmk
  have HA0 : Hid (∃ cur : Array Value, U8s cur 65541 ∧ cur.size = 65541 ∧ Tk w [] [(w.heap.size, .cells cur 5 (0, 0))] [] (w.alloc (.cells (Z 65541) 5))) := Lib.hid ⟨Z 65541, u8s_Z _, size_Z _, HT0.out⟩
  clear HT0
  generalize World.alloc w (.cells (Z 65541) 5) = w1 at *
  generalize w.heap.size = g at *
  generalize hNL : (65541 : Nat) = NL at *
  have HNL := Lib.hid hNL
  have hNb : NL ≤ 70000 := by omega
  clear hNL
  go_wp2_with fail
  go_loopg [2] NL (fun gk iv wr => ∃ i : Nat, i + gk = NL ∧ iv = .int .i64 i ∧ ∃ cur : Array Value, U8s cur NL ∧ cur.size = NL ∧ Tk w [] [(g, .cells cur 5 (0, 0))] [] wr)
  case atStart => exact ⟨0, by omega, rfl, HA0.out⟩
  case round =>
    obtain ⟨i, hi, rfl, cur, hu8, hcs, hT⟩ := hrel
    have HT := Lib.hid hT
    have HU8 := Lib.hid hu8
    have HCS := Lib.hid hcs
    clear hT hu8 hcs HA0
    by_cases hlt : i < NL
    · have HBK := Lib.hid (HT.out.atL 0 g rfl)
      have HSZ := Lib.hid (show i + (bv (UInt8.ofNat (i / 7))).cells.size ≤ cur.size by have := HCS.out; show i + 1 ≤ cur.size; omega)
      go_wp2_with (refine wpList_store_upd rfl 5 (.tmp 24) (.tmp 23) rfl g i (bv (UInt8.ofNat (i / 7))) rfl (congrArg (Value.int .u8) (div7 i)) _ _ HBK.out info_u8 HSZ.out (one_bv _) rfl ?_; intro w4 hu4; replace hu4 := Lib.hid hu4)
      go_roundg (gk - 1)
      case measure => omega
      case rel => exact ⟨i + 1, by omega, by go_num, _, HU8.out.put i hlt _, put_u8_size HCS.out hlt _, HT.out.putL 0 g rfl hu4.out⟩
    · obtain rfl : i = NL := by omega
      clear hi hlt
      obtain ⟨L, hLl, rfl⟩ := bytes_of_u8s HU8.out HCS.out
      have HL := Lib.hid hLl
      have h0 := HT.out.rowOf (n := i) hLl.symm (by rw [hLl]; simp only [maxLen]; omega)
      obtain ⟨u1, hu1, hp1⟩ := part_to (P := Tryd.prog) elem_u8 (a := some ⟨g, 0, none⟩) (n := i) (c := i) .i64 65536 (by have := HNL.out; omega) (Nat.le_refl _)
      have h1 := h0.part 0 rfl hp1
      obtain ⟨M, hM⟩ : ∃ M, L.take 65536 = M := ⟨_, rfl⟩
      have hM2 : M.take 65536 = M := by rw [← hM, List.take_take]; rfl
      have HM := Lib.hid hM
      have HM2 := Lib.hid hM2
      have h1b : Tk w [] [] [(.slice (some ⟨g, 0, none⟩) i i, L), (u1, M)] wr := by rw [← hM]; exact h1.keep _ (fun x hx => by simp only [List.mem_cons, List.not_mem_nil, or_false] at hx ⊢; rcases hx with h | h <;> simp [h])
      have H1 := Lib.hid h1b
      have hu2 : ∀ w' : World, (Instr.slice 22 (.slice (some ⟨g, 0, none⟩) i i) none (some (.int .i64 65536)) none).run Tryd.prog w' = .ok u1 w' := hu1
      have E1 := Lib.hid (eqb_true (rfl : draw M 0 65536 = draw M 0 65536))
      have E2 := Lib.hid (eqb_true (rfl : draw M 65536 40 = draw M 65536 40))
      have E3 := Lib.hid (eqb_true (rfl : draw [] 0 70 = draw [] 0 70))
      clear hLl h0 h1 h1b hM hM2 hp1 hu1 HT HU8 HCS
      go_upto_region 6 with fail
      refine wp_region_lex (Every) [1, 4] [] [] (by kernel_rfl) (by kernel_rfl) (fun _ => trivial) ?_
      simp only [List.zipIdx_cons, List.zipIdx_nil, Nat.zero_add, Nat.reduceAdd]
      refine lex_blind 1 (by kernel_rfl) ?_
      simp only [List.take_succ_cons, List.take_zero, List.drop_succ_cons, List.drop_zero, List.map_cons, List.map_nil, Act.put, List.setIfInBounds_toArray, List.set_cons_succ, List.set_cons_zero]
      repeat (go_big_quiet_step (fail))
      refine wpQuiet_nil ?_
      refine lex_act rfl rfl (fun K hK => ?_)
      go_simp
      refine (tk_new H1.out.drew (H1.out.drew.rd 0 _ _ rfl)).mono ?_
      rintro e x2 ⟨t, rfl, h⟩
      rw [HM.out] at h
      have H2 : Hid (Tk w [(t, M, 0)] [] [(.slice (some ⟨g, 0, none⟩) i i, L), (u1, M)] x2) := Lib.hid (h.keep _ (fun x hx => by simp at hx; rcases hx with h | h <;> simp [h]))
      clear h
      refine hK _ _ (ActLeft.keep rfl fun h => h) ?_
      clear hK K
      refine lex_blind 2 (by kernel_rfl) ?_
      simp only [List.take_succ_cons, List.take_zero, List.drop_succ_cons, List.drop_zero, List.map_cons, List.map_nil, Act.put, List.setIfInBounds_toArray, List.set_cons_succ, List.set_cons_zero]
      repeat (go_big_quiet_step (fail))
      refine wpQuiet_nil ?_
      refine lex_act rfl rfl (fun K hK => ?_)
      go_simp
      refine (tk_new H2.out (H2.out.rd 1 _ _ rfl)).mono ?_
      rintro e x3 ⟨u, rfl, h⟩
      rw [HM2.out] at h
      have H3 : Hid (Tk w [(u, M, 0), (t, M, 0)] [] [(.slice (some ⟨g, 0, none⟩) i i, L), (u1, M)] x3) := Lib.hid h
      clear h H2
      refine hK _ _ (ActLeft.keep rfl fun h => h) ?_
      clear hK K
      refine lex_blind 2 (by kernel_rfl) ?_
      simp only [List.take_succ_cons, List.take_zero, List.drop_succ_cons, List.drop_zero, List.map_cons, List.map_nil, Act.put, List.setIfInBounds_toArray, List.set_cons_succ, List.set_cons_zero]
      repeat (go_big_quiet_step (fail))
      refine wpQuiet_nil ?_
      refine lex_nil ?_
      clear hu2 H1
      go_upto_region 8 with (first
        | (go_at_call 12; refine (tk_drawN H4.out 0 rfl 65536 (by decide) (by decide) 65536 rfl).mono ?_; rintro e x5 ⟨g2, rfl, h⟩; have H5 : Hid (Tk w [(u, M, 65536), (t, M, 65536)] [] _ x5) := Lib.hid h; clear h H4)
        | (go_at_call 12; refine (tk_draw H3.out 1 rfl 4611686018427387904 65536 65536 (by decide) (by decide) (by decide) (by decide)).mono ?_; rintro e x4 ⟨g1, rfl, h⟩; have H4 : Hid (Tk w [(u, M, 0), (t, M, 65536)] [] _ x4) := Lib.hid h; clear h H3))
      go_upto_region 9 with (first
        | (go_at_call 13; refine (tk_at H10.out 1 rfl).mono ?_; rintro e x9 ⟨rfl, rfl⟩; have H11 := H10; clear H10)
        | (go_at_call 12; refine (tk_draw H9.out 1 rfl (-9223372036854775808) (-9223372036854775808) 0 (by decide) (by decide) (by decide) (by decide)).mono ?_; rintro e x10 ⟨g5, rfl, h⟩; have H10 : Hid (Tk w [(u, M, 65576), (t, M, 65576)] [] _ x10) := Lib.hid h; clear h H9)
        | (go_at_call 14; refine (eqBytes_calls _ _ _ _ _ (H8.out.rd 1 _ _ rfl) (H8.out.rd 0 _ _ rfl)).mono ?_; rintro e x9 ⟨rfl, rfl⟩; rw [E2.out]; have H9 := H8; clear H8)
        | (go_at_call 12; refine (tk_drawN H7.out 0 rfl 40 (by decide) (by decide) 40 rfl).mono ?_; rintro e x8 ⟨g4, rfl, h⟩; have H8 : Hid (Tk w [(u, M, 65576), (t, M, 65576)] [] _ x8) := Lib.hid h; clear h H7)
        | (go_at_call 12; refine (tk_drawN H6.out 1 rfl 40 (by decide) (by decide) 40 rfl).mono ?_; rintro e x7 ⟨g3, rfl, h⟩; have H7 : Hid (Tk w [(u, M, 65536), (t, M, 65576)] [] _ x7) := Lib.hid h; clear h H6)
        | (go_at_call 14; refine (eqBytes_calls _ _ _ _ _ (H5.out.rd 1 _ _ rfl) (H5.out.rd 0 _ _ rfl)).mono ?_; rintro e x9 ⟨rfl, rfl⟩; rw [E1.out]; have H6 := H5; clear H5))
      have H12 := (H11.out.dropT.dropT).keep [(.slice (some ⟨g, 0, none⟩) i i, L)] (fun x hx => by simp at hx; simp [hx])
      have H13 : Hid (Tk w [(x10.heap.size, [], 0)] [] [(.slice (some ⟨g, 0, none⟩) i i, L)] (x10.alloc (.cells #[.slice none 0 0, .slice none 0 0, .int .i64 0, .chan none, .int .i64 0, .bool false] 44))) := Lib.hid (tk_zero H12)
      clear H12 H11
      go_upto_region 11 with fail
      generalize World.alloc x10 (.cells #[.slice none 0 0, .slice none 0 0, .int .i64 0, .chan none, .int .i64 0, .bool false] 44) = x11 at *
      generalize x10.heap.size = zp at *
      go_upto_region 12 with (first
        | (go_at_call 13; refine (tk_at H20.out 1 rfl).mono ?_; rintro e x9 ⟨rfl, rfl⟩; have H21 := H20; clear H20)
        | (go_at_call 14; refine (eqBytes_calls _ _ _ _ _ (H19.out.rd 1 _ _ rfl) (H19.out.rd 0 _ _ rfl)).mono ?_; rintro e x9 ⟨rfl, rfl⟩; rw [E3.out]; have H20 := H19; clear H19)
        | (go_at_call 12; refine (tk_drawN H18.out 0 rfl 70 (by decide) (by decide) 70 rfl).mono ?_; rintro e x13 ⟨g7, rfl, h⟩; have H19 : Hid (Tk w [(r, [], 70), (zp, [], 70)] [] _ x13) := Lib.hid h; clear h H18)
        | (go_at_call 10; refine (tk_new H17.out RD.nil).mono ?_; rintro e x12 ⟨r, rfl, h⟩; have H18 : Hid (Tk w [(r, [], 0), (zp, [], 70)] [] _ x12) := Lib.hid h; clear h H17)
        | (go_at_call 12; refine (tk_drawN H16.out 0 rfl 70 (by decide) (by decide) 70 rfl).mono ?_; rintro e x11 ⟨g6, rfl, h⟩; have H17 : Hid (Tk w [(zp, [], 70)] [] _ x11) := Lib.hid h; clear h H16)
        | (go_at_call 20; refine (copy_nil _).mono ?_; rintro e x9 ⟨rfl, rfl⟩; have H16 := H15; clear H15)
        | (go_at_call 13; refine (at_nil _).mono ?_; rintro e x9 ⟨rfl, rfl⟩; have H15 := H14; clear H14)
        | (go_at_call 12; refine (draw_nil 5 _).mono ?_; rintro e x9 ⟨rfl, rfl⟩; have H14 := H13; clear H13))
      have HB0 := Lib.hid ((H21.out.dropT.dropT).keep [(.slice (some ⟨g, 0, none⟩) i i, L)] (fun x hx => by simp at hx; simp [hx]))
      clear H21
      obtain ⟨wo, rfl⟩ : ∃ wo : World, wo = wr := ⟨_, rfl⟩
      go_wp2_with fail
      go_loopg [11] 70 (fun gk iv wr => ∃ n : Nat, n + gk = 70 ∧ iv = .int .i64 n ∧ Tk w [] [] [(.slice (some ⟨g, 0, none⟩) i i, L)] wr)
      case atStart => exact ⟨0, rfl, rfl, HB0.out⟩
      case round =>
        obtain ⟨n, hn, rfl, hT⟩ := hrel
        have HT := Lib.hid hT
        clear hT HB0
        by_cases hlt : n < 70
        · have HFA := Lib.hid (fits_args n hlt)
          obtain ⟨un, hun, hpn2⟩ := part_to (P := Tryd.prog) elem_u8 (a := some ⟨g, 0, none⟩) (n := i) (c := i) .i64 n (by have := HNL.out; omega) (Nat.le_refl _)
          have HP := Lib.hid (HT.out.part 0 rfl hpn2)
          clear hpn2
          go_wp2_with (go_at_call 5; refine (tdraws_calls _ (HP.out.alloc _).tab un _ ((HP.out.alloc _).rd 0 _ _ rfl) (.slice (some ⟨wr.heap.size, 0, none⟩) 7 7) (drawsArgs n) (rv_args wr n) HFA.out).mono ?_; rintro e w6 ⟨rfl, hb⟩; have HE := Lib.hid (((HT.out.alloc (.cells #[.int .i64 (n : Int), .int .i64 1, .int .i64 0, .int .i64 (-1), .int .i64 31, .int .i64 33, .int .i64 (n : Int)] 3)).call hb)); clear hb)
          go_roundg (gk - 1)
          case measure => omega
          case rel => exact ⟨n + 1, by omega, by go_num, HE.out⟩
        · obtain rfl : n = 70 := by omega
          clear hlt hn
          go_wp2_with (go_at_call 9; refine (worksT_calls _ HT.out.tab).mono ?_; rintro e w6 ⟨rfl, hb⟩; have HE := Lib.hid (HT.out.call hb); clear hb)
          go_ret
          exact ⟨rfl, HE.out.bel⟩
end Go.Proofs.YtmkpajhfgdffpaaDoor.Sh
