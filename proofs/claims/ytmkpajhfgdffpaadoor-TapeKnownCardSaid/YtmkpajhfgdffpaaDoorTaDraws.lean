/- The walk of TapeDraws. -/
import Derived.Test.YtmkpajhfgdffpaaDoorTaTk2
namespace Go.Proofs.YtmkpajhfgdffpaaDoor.Sh
set_option linter.unusedVariables false
set_option linter.unusedSimpArgs false
open Go Go.RowKit

/-- The bytes that came in, copied: a block that is written. -/
def InAt (w0 : World) (ts : List (Nat × Bs × Nat)) (l : List (Nat × Obj)) (vs : List (Value × Bs)) (v : Value) (n : Nat) (w : World) : Prop :=
  (n = 0 ∧ (∃ a c, v = .slice a n c) ∧ Tk w0 ts l vs w) ∨ ∃ g cap cur, v = .slice (some ⟨g, 0, none⟩) n cap ∧ U8s cur n ∧ Tk w0 ts ((g, .cells cur 5 (0, 0)) :: l) vs w
theorem InAt.of_own {w0 w w' : World} {ts : List (Nat × Bs × Nat)} {l : List (Nat × Obj)} {vs : List (Value × Bs)} {v : Value} {m : Bs} (h : Tk w0 ts l vs w) (hb : Below w.heap.size w w') (ho : Own w.heap.size w' v m) : InAt w0 ts l vs v m.length w' := by
  by_cases hm : m = []
  · subst hm
    obtain ⟨a, c, e⟩ := own_form ho
    exact .inl ⟨rfl, ⟨a, c, e⟩, h.call hb⟩
  · have := AllAt.of_own h hb hm ho
    cases this with
    | none h => exact absurd rfl hm
    | @some _ g n cap cur _ hn hc hmx hs ht h => exact .inr ⟨g, cap, cur, by rw [hn], .of_take (by omega) ht, h⟩
theorem InAt.tk {w0 w : World} {ts : List (Nat × Bs × Nat)} {l : List (Nat × Obj)} {vs : List (Value × Bs)} {v : Value} {n : Nat} (h : InAt w0 ts l vs v n w) : Tk w0 ts l vs w := by
  rcases h with ⟨_, _, h⟩ | ⟨g, cap, cur, _, _, h⟩
  · exact h
  · exact h.dropHead
theorem InAt.form {w0 w : World} {ts : List (Nat × Bs × Nat)} {l : List (Nat × Obj)} {vs : List (Value × Bs)} {v : Value} {n : Nat} (h : InAt w0 ts l vs v n w) : ∃ a c, v = .slice a n c := by
  rcases h with ⟨_, h, _⟩ | ⟨g, cap, cur, h, _, _⟩
  · exact h
  · exact ⟨_, _, h⟩
theorem Tk.swapL {w0 w : World} {ts : List (Nat × Bs × Nat)} {x y : Nat × Obj} {l : List (Nat × Obj)} {vs : List (Value × Bs)} (h : Tk w0 ts (x :: y :: l) vs w) : Tk w0 ts (y :: x :: l) vs w := by
  obtain ⟨tps, h1, h2, h3⟩ := h
  exact ⟨tps, h1, h2, h3.perm ((List.Perm.swap y x l).append_left _)⟩

set_option maxRecDepth 4000 in
set_option maxHeartbeats 2000000 in
theorem tdraws_calls (w : World) (ht : Tab w) (v : Value) (m0 : Bs) (hv : RD w.heap.size w v m0) (pv : Value) (ps : List Int) (hp : RV w.heap.size w pv (ps.map (Value.int .i64))) (fp : ∀ n ∈ ps, Fits n) :
    Calls Tryd.prog 5 #[v, pv] w fun e w' => e = .returned (.bool true) ∧ Below w.heap.size w w' := by
  obtain ⟨pa, pc, rfl, hpc, hpm, hpn, hpr⟩ := hp
  rw [List.length_map] at hpc ⊢
  obtain ⟨a, c, rfl, hca, hma⟩ := hv.form
  obtain ⟨k, hka, hk2a, hmina0⟩ := min_to m0.length 300
  have hmina : (if (300 : Int) < (m0.length : Int) then (300 : Int) else (m0.length : Int)) = (k : Int) := hmina0
  obtain ⟨u, hua, hura⟩ := rd_to (a := a) (n := m0.length) (c := c) .i64 k hka hca
  have hm := hura _ _ _ hv
  have hlm : (m0.take k).length = k := by rw [List.length_take]; omega
  generalize m0.take k = m at hm hlm
  obtain ⟨ua, uc, rfl, hu2a, _⟩ := hm.form
  rw [hlm] at hua hu2a
  subst hlm
  have HM := Lib.hid hm
  clear hmina0 hura hv hm
  have HTK := Lib.hid (show m.take 65536 = m from List.take_of_length_le (by omega))
  have HML := Lib.hid (show m.length ≤ 65536 by omega)
  have HLb := Lib.hid (show m.length ≤ 140737488355328 by omega)
  have HT0 := Lib.hid ((Tk.start ht).row0 HM.out)
  go_enter Tryd.func5, Tryd.ntmps5
  go_upto_region 3 with (go_at_call 16; refine (copyBytes_calls (.slice ua m.length uc) m w (HT0.out.rd 0 _ _ rfl) HLb.out).mono ?_; rintro e w1 ⟨v1, rfl, ho, hb⟩; have HI1 := Lib.hid (InAt.of_own HT0.out hb ho); have HO1 := Lib.hid ho; clear hb ho)
  clear hmina hua HT0
  obtain ⟨ia, ic, rfl⟩ := HI1.out.form
  have HI2 := HI1.out
  obtain ⟨l5, hl5, hT1⟩ : ∃ l5 : List (Nat × Obj), ((m.length = 0 ∧ l5 = []) ∨ ∃ g cap cur, (Value.slice ia m.length ic = .slice (some ⟨g, 0, none⟩) m.length cap) ∧ U8s cur m.length ∧ l5 = [(g, .cells cur 5 (0, 0))]) ∧ Tk w [] l5 [(.slice ua m.length uc, m)] w1 := by
    rcases HI2 with ⟨h0, _, h⟩ | ⟨g, cap, cur, h1, h2, h3⟩
    · exact ⟨[], .inl ⟨h0, rfl⟩, h⟩
    · exact ⟨_, .inr ⟨g, cap, cur, h1, h2, rfl⟩, h3⟩
  have HT1 := Lib.hid hT1
  have HL5 := Lib.hid hl5
  clear HI1 HI2 hl5 hT1
  go_upto_region 4 with (first
    | (go_at_call 17; refine (rnew_calls HT2.out _ m (HT2.out.rd 0 _ _ rfl) HML.out).mono ?_; rintro e w3 ⟨q, sv, rfl, h⟩; have HT3 := Lib.hid (h.keep [(sv, m)] (fun x hx => by simp at hx; simp [hx])); clear h)
    | (go_at_call 10; refine (tk_new HT1.out HO1.out.rd).mono ?_; rintro e w2 ⟨p, rfl, h⟩; rw [HTK.out] at h; have HT2 : Hid (Tk w [(p, m, 0)] l5 [(.slice ua m.length uc, m)] w2) := Lib.hid h; clear h))
  clear HT1 HT2 HO1
  have HA0 : Hid (∃ l6, ((m.length = 0 ∧ l6 = []) ∨ ∃ g cap cur, (Value.slice ia m.length ic = .slice (some ⟨g, 0, none⟩) m.length cap) ∧ U8s cur m.length ∧ l6 = [(g, .cells cur 5 (0, 0))]) ∧ Tk w [(p, m, 0)] ((q, (.cells (RC sv 0) 50 (0, 0))) :: l6) [(sv, m)] w3) := Lib.hid ⟨l5, HL5.out, HT3.out⟩
  clear HL5 HT3
  go_wp2_with fail
  go_loopg [8] m.length (fun g iv wr => ∃ i : Nat, i + g = m.length ∧ iv = .int .i64 i ∧ ∃ l6, ((m.length = 0 ∧ l6 = []) ∨ ∃ g cap cur, (Value.slice ia m.length ic = .slice (some ⟨g, 0, none⟩) m.length cap) ∧ U8s cur m.length ∧ l6 = [(g, .cells cur 5 (0, 0))]) ∧ Tk w [(p, m, 0)] ((q, (.cells (RC sv 0) 50 (0, 0))) :: l6) [(sv, m)] wr)
  case atStart => exact ⟨0, by omega, rfl, HA0.out⟩
  case round =>
    obtain ⟨i, hi, rfl, l6, hl6, hT⟩ := hrel
    have HT := Lib.hid hT
    clear hT HA0
    by_cases hlt : i < m.length
    · obtain ⟨g, cap, cur, e, hu8, rfl⟩ := hl6.resolve_left (fun h => by omega)
      simp only [Value.slice.injEq] at e
      obtain ⟨rfl, _, rfl⟩ := e
      have hblk := HT.out.atL 1 g rfl
      obtain ⟨x, hx⟩ := hu8.2 i hlt
      have hci : wr.cell? ⟨g, i, none⟩ = some (.int .u8 (x.toNat : Int)) := by rw [cell_of_row _ _ _ _ _ _ hblk]; exact hx
      have HBK := Lib.hid hblk
      have HSZ := Lib.hid (show i + (bv (x ^^^ 90)).cells.size ≤ cur.size by have := hu8.1; show i + 1 ≤ cur.size; omega)
      have HU8 := Lib.hid hu8
      clear hblk hx hu8 hl6
      go_wp2_with (refine wpList_store_upd rfl 5 (.tmp 40) (.tmp 39) rfl g i (bv (x ^^^ 90)) rfl (congrArg (Value.int .u8) (u8_xor x 90)) _ _ HBK.out info_u8 HSZ.out (one_bv _) rfl ?_; intro w4 hu4; replace hu4 := Lib.hid hu4)
      go_roundg (gk - 1)
      case measure => omega
      case rel => exact ⟨i + 1, by omega, by go_num, _, .inr ⟨g, ic, _, rfl, HU8.out.put i hlt _, rfl⟩, HT.out.putL 1 g rfl hu4.out⟩
    · obtain rfl : i = m.length := by omega
      have HA0 : Hid (Tk w [(p, m, 0)] [(q, (.cells (RC sv 0) 50 (0, 0)))] [(sv, m)] wr) := Lib.hid (HT.out.subL (by simp))
      clear HT hl6 hlt hi
      go_wp2_with fail
      obtain ⟨w5, rfl⟩ : ∃ w5 : World, w5 = wr := ⟨_, rfl⟩
      go_loopg [9] 30 (fun g iv wr => ∃ i n : Nat, i + g = 30 ∧ iv = .int .i64 i ∧ n ≤ 200 * i ∧ Tk w [(p, m, n)] [(q, (.cells (RC sv n) 50 (0, 0)))] [(sv, m)] wr)
      case atStart => exact ⟨0, 0, rfl, rfl, Nat.zero_le _, HA0.out⟩
      case round =>
        obtain ⟨i, n, hi, rfl, hn, hT⟩ := hrel
        have HT := Lib.hid hT
        clear hT HA0
        by_cases hgo : i < ps.length ∧ i < 30
        · obtain ⟨hj1, hj2⟩ := hgo
          obtain ⟨b, o, rfl, hb, hr⟩ := hpr (by intro e; rw [List.map_eq_nil_iff] at e; subst e; simp at hj1)
          have hcell : wr.cell? ⟨b, o + i, none⟩ = some (.int .i64 ps[i]) := by
            rw [World.cell?_of_block (HT.out.bel.block b hb)]
            exact hr i _ (by rw [List.getElem?_map, List.getElem?_eq_getElem hj1]; rfl)
          generalize ps[i] = x at hcell
          obtain ⟨y, hy⟩ : ∃ y, (if (200 : Int) < x then (200 : Int) else x) = y := ⟨_, rfl⟩
          have hy200 : y ≤ 200 := by split at hy <;> omega
          obtain ⟨N, hN⟩ : ∃ N : Nat, (if (0 : Int) < y then y else 0) = (N : Int) := ⟨(if (0 : Int) < y then y else 0).toNat, by split <;> omega⟩
          have hN200 : N ≤ 200 := by split at hN <;> omega
          have HMIN := Lib.hid (show (if (65536 : Int) < y then (65536 : Int) else y) = y by rw [if_neg (by omega)])
          have HMAX := Lib.hid hN
          have HN6 := Lib.hid (show N ≤ 65536 by omega)
          have HS1 := Lib.hid (show n + N ≤ 1000000000 by omega)
          have hj64 : (i : Int) < (ps.length : Int) := by omega
          have hj65 : (i : Int) < 30 := by omega
          have E1 := Lib.hid (eqb_true (rfl : draw m n N = draw m n N))
          have HNM := Lib.hid (show (draw m n N).length ≤ maxLen by rw [length_draw]; simp only [maxLen]; omega)
          have hsn : n + N ≤ 200 * (i + 1) := by omega
          have HSN := Lib.hid hsn
          clear hN hy200 hsn
          go_upto_region 15 with (first
            | (go_at_call 19; refine (rat_calls q (n + N) sv (H4.out.atL 1 q rfl)).mono ?_; rintro e w8 ⟨rfl, rfl⟩; have H5 := H4; clear H4)
            | (go_at_call 13; refine (tk_at H3.out 0 rfl).mono ?_; rintro e w8 ⟨rfl, rfl⟩; have H4 := H3; clear H3)
            | (go_at_call 14; refine (eqBytes_calls _ _ _ _ _ (H2.out.rdBlk (length_draw _ _ _).symm HNM.out) (H2.out.rd 0 _ _ rfl)).mono ?_; rintro e w8 ⟨rfl, rfl⟩; rw [E1.out]; have H3 := H2; clear H2)
            | (go_at_call 18; refine (rdraw_calls q n sv m HML.out (H1.out.swapL) 0 rfl y y N HMIN.out HMAX.out HN6.out HS1.out).mono ?_; rintro e w7 ⟨v7, rfl, h⟩; have H2 : Hid (Tk w [(p, m, n + N)] [(g', .cells ((draw m n N).map bv).toArray 5 (0, 0)), (q, (.cells (RC sv (n + N)) 50 (0, 0)))] [(v7, draw m n N), (sv, m)] w7) := Lib.hid h.swapL; clear h H1)
            | (go_at_call 12; refine (tk_drawW HT.out 0 rfl y y N HMIN.out HMAX.out HN6.out HS1.out).mono ?_; rintro e w6 ⟨g', rfl, h⟩; have H1 : Hid (Tk w [(p, m, n + N)] [(g', .cells ((draw m n N).map bv).toArray 5 (0, 0)), (q, (.cells (RC sv n) 50 (0, 0)))] [(sv, m)] w6) := Lib.hid h; clear h HT))
          obtain ⟨s, hs⟩ : ∃ s, n + N = s := ⟨_, rfl⟩
          rw [hs] at H5 HSN
          have HU0 := Lib.hid (show U8s ((draw m n N).map bv).toArray N by have := U8s.of_row (draw m n N); rw [length_draw] at this; exact this)
          have HD0 : Hid (∃ cur, U8s cur N ∧ Tk w [(p, m, s)] [(g', .cells cur 5 (0, 0)), (q, (.cells (RC sv s) 50 (0, 0)))] [(sv, m)] w7) := Lib.hid ⟨_, HU0.out, H5.out.keep _ (fun x hx => by simp at hx; simp [hx])⟩
          obtain ⟨go, rfl⟩ : ∃ go, go = gk := ⟨_, rfl⟩
          obtain ⟨wo, rfl⟩ : ∃ wo : World, wo = wr := ⟨_, rfl⟩
          clear hcell H5 HU0 hs hy
          go_wp2_with fail
          go_loopg [13] N (fun g iv wr => ∃ j : Nat, j + g = N ∧ iv = .int .i64 j ∧ ∃ cur, U8s cur N ∧ Tk w [(p, m, s)] [(g', .cells cur 5 (0, 0)), (q, (.cells (RC sv s) 50 (0, 0)))] [(sv, m)] wr)
          case atStart => exact ⟨0, by omega, rfl, HD0.out⟩
          case round =>
            obtain ⟨j, hj, rfl, cur, hu8, hT⟩ := hrel
            have HT := Lib.hid hT
            clear hT HD0
            by_cases hlt : j < N
            · have hblk := HT.out.atL 0 g' rfl
              obtain ⟨x, hx⟩ := hu8.2 j hlt
              have hci : wr.cell? ⟨g', j, none⟩ = some (.int .u8 (x.toNat : Int)) := by rw [cell_of_row _ _ _ _ _ _ hblk]; exact hx
              have HBK := Lib.hid hblk
              have HSZ := Lib.hid (show j + (bv (x ^^^ 51)).cells.size ≤ cur.size by have := hu8.1; show j + 1 ≤ cur.size; omega)
              have HU8 := Lib.hid hu8
              clear hblk hx hu8
              go_wp2_with (refine wpList_store_upd rfl 5 (.tmp 86) (.tmp 85) rfl g' j (bv (x ^^^ 51)) rfl (congrArg (Value.int .u8) (u8_xor x 51)) _ _ HBK.out info_u8 HSZ.out (one_bv _) rfl ?_; intro w4 hu4; replace hu4 := Lib.hid hu4)
              go_roundg (gk - 1)
              case measure => omega
              case rel => exact ⟨j + 1, by omega, by go_num, _, HU8.out.put j hlt _, HT.out.putL 0 g' rfl hu4.out⟩
            · obtain rfl : j = N := by omega
              have H0 : Hid (Tk w [(p, m, s)] [(q, (.cells (RC sv s) 50 (0, 0)))] [(sv, m)] wr) := Lib.hid HT.out.dropHead
              have hsn := HSN.out
              clear HT hu8 hlt hj
              by_cases h5 : i % 5 = 4
              · have h5I : (i : Int) % 5 = 4 := by omega
                have E70 := Lib.hid (eqb_true (rfl : draw m s 70 = draw m s 70))
                have HS70 := Lib.hid (show s + 70 ≤ 1000000000 by omega)
                go_wp2_with (first
                  | (go_at_call 19; refine (rat_calls q s sv (H6.out.atL 1 q rfl)).mono ?_; rintro e x9 ⟨rfl, rfl⟩; have H7 := H6; clear H6)
                  | (go_at_call 13; refine (tk_at H5.out 1 rfl).mono ?_; rintro e x9 ⟨rfl, rfl⟩; have H6 := H5; clear H5)
                  | (go_at_call 14; refine (eqBytes_calls _ _ _ _ _ (H4.out.rd 1 _ _ rfl) (H4.out.rd 0 _ _ rfl)).mono ?_; rintro e x9 ⟨rfl, rfl⟩; rw [E70.out]; have H5 := H4; clear H4)
                  | (go_at_call 18; refine (rdraw_calls q2 s sv2 m HML.out H3.out 1 rfl 70 70 70 (by decide) (by decide) (by decide) HS70.out).mono ?_; rintro e x4 ⟨v4, rfl, h⟩; have H4 : Hid (Tk w [(c, m, s + 70), (p, m, s)] [(q2, .cells (RC sv2 (s + 70)) 50 (0, 0)), (q, (.cells (RC sv s) 50 (0, 0)))] _ x4) := Lib.hid h; clear h H3)
                  | (go_at_call 12; refine (tk_drawN H2.out 0 rfl 70 (by decide) HS70.out 70 rfl).mono ?_; rintro e x3 ⟨g3, rfl, h⟩; have H3 : Hid (Tk w [(c, m, s + 70), (p, m, s)] [(q2, .cells (RC sv2 s) 50 (0, 0)), (q, (.cells (RC sv s) 50 (0, 0)))] [(.slice (some ⟨g3, 0, none⟩) 70 70, draw m s 70), (sv2, m), (sv, m)] x3) := Lib.hid h; clear h H2)
                  | (go_at_call 21; refine (rcopy_calls q s sv m HML.out H1.out 0 rfl).mono ?_; rintro e x2 ⟨q2, sv2, rfl, h⟩; have H2 : Hid (Tk w [(c, m, s), (p, m, s)] [(q2, .cells (RC sv2 s) 50 (0, 0)), (q, (.cells (RC sv s) 50 (0, 0)))] [(sv2, m), (sv, m)] x2) := Lib.hid h; clear h H1)
                  | (go_at_call 20; refine (tk_copy H0.out 0 rfl).mono ?_; rintro e x1 ⟨c, rfl, h⟩; have H1 : Hid (Tk w [(c, m, s), (p, m, s)] [(q, (.cells (RC sv s) 50 (0, 0)))] [(sv, m)] x1) := Lib.hid h; clear h H0))
                go_roundg (go - 1)
                case measure => omega
                case rel => exact ⟨i + 1, s, by omega, by go_num, by omega, ((H7.out.dropT.keep [(sv, m)] (fun x hx => by simp at hx; simp [hx])).subL (List.sublist_cons_self _ _))⟩
              · have h5I : ¬ (i : Int) % 5 = 4 := by omega
                go_wp2_with fail
                go_roundg (go - 1)
                case measure => omega
                case rel => exact ⟨i + 1, s, by omega, by go_num, by omega, H0.out⟩
        · by_cases hlt : i < ps.length
          · have hge : ¬ (i : Int) < 30 := by omega
            have hlt2 : (i : Int) < (ps.length : Int) := by omega
            go_wp2_with (go_at_call 9; refine (worksT_calls _ HT.out.tab).mono ?_; rintro e w6 ⟨rfl, hb⟩; have HE := Lib.hid (HT.out.call hb); clear hb)
            go_ret
            exact ⟨rfl, HE.out.bel⟩
          · have hge : ¬ (i : Int) < (ps.length : Int) := by omega
            go_wp2_with (go_at_call 9; refine (worksT_calls _ HT.out.tab).mono ?_; rintro e w6 ⟨rfl, hb⟩; have HE := Lib.hid (HT.out.call hb); clear hb)
            go_ret
            exact ⟨rfl, HE.out.bel⟩
end Go.Proofs.YtmkpajhfgdffpaaDoor.Sh
