/- The walk of TapeParts. -/
import Derived.Test.YtmkpajhfgdffpaaDoorTaAll
namespace Go.Proofs.YtmkpajhfgdffpaaDoor.Sh
set_option linter.unusedVariables false
set_option linter.unusedSimpArgs false
open Go Go.RowKit

theorem all_draw {w0 w : World} {p n0 : Nat} {seed : Bs} {l : List (Nat × Obj)} {vs : List (Value × Bs)} {av : Value} {acc : Bs} (h : AllAt w0 [(p, seed, n0)] l vs av acc w) (N : Nat) (hN : N ≤ 65536) (hsmall : n0 + N ≤ 1000000000) (z : Int) (hz : z = (N : Int)) :
    Calls Tryd.prog 12 #[.pointer (some ⟨p, 0, none⟩), .int .i64 z] w fun e w' => ∃ g, e = .returned (.slice (some ⟨g, 0, none⟩) N N) ∧ AllAt w0 [(p, seed, n0 + N)] l ((.slice (some ⟨g, 0, none⟩) N N, draw seed n0 N) :: vs) av acc w' := by
  cases h with
  | none h => exact (tk_drawN h 0 rfl N hN hsmall z hz).mono fun e w' ⟨g, he, hh⟩ => ⟨g, he, .none hh⟩
  | some hn hc hm hs ht h => exact (tk_drawN h 0 rfl N hN hsmall z hz).mono fun e w' ⟨g, he, hh⟩ => ⟨g, he, .some hn hc hm hs ht hh⟩
theorem all_at {w0 w : World} {p n0 : Nat} {seed : Bs} {l : List (Nat × Obj)} {vs : List (Value × Bs)} {av : Value} {acc : Bs} (h : AllAt w0 [(p, seed, n0)] l vs av acc w) :
    Calls Tryd.prog 13 #[.pointer (some ⟨p, 0, none⟩)] w fun e w' => e = .returned (.int .i64 (n0 : Int)) ∧ w = w' := by
  obtain ⟨_, h'⟩ := h.tabx
  exact tk_at h' 0 rfl

set_option maxRecDepth 4000 in
set_option maxHeartbeats 2000000 in
theorem tparts_calls (w : World) (ht : Tab w) (v : Value) (m0 : Bs) (hv : RD w.heap.size w v m0) (pv : Value) (ps : List Int) (hp : RV w.heap.size w pv (ps.map (Value.int .i64))) (fp : ∀ n ∈ ps, Fits n) :
    Calls Tryd.prog 3 #[v, pv] w fun e w' => e = .returned (.bool true) ∧ Below w.heap.size w w' := by
  obtain ⟨pa, pc, rfl, hpc, hpm, hpn, hpr⟩ := hp
  rw [List.length_map] at hpc ⊢
  obtain ⟨a, c, rfl, hca, hma⟩ := hv.form
  obtain ⟨k, hka, hk2a, hmina0⟩ := min_to m0.length 200
  have hmina : (if (200 : Int) < (m0.length : Int) then (200 : Int) else (m0.length : Int)) = (k : Int) := hmina0
  obtain ⟨u, hua, hura⟩ := rd_to (a := a) (n := m0.length) (c := c) .i64 k hka hca
  have hm := hura _ _ _ hv
  have hlm : (m0.take k).length = k := by rw [List.length_take]; omega
  generalize m0.take k = m at hm hlm
  obtain ⟨ua, uc, rfl, hu2a, _⟩ := hm.form
  rw [hlm] at hua hu2a
  subst hlm
  have HM := Lib.hid hm
  clear hmina0 hura hv hm
  have HTK := Lib.hid (show m.take 65536 = m from List.take_of_length_le (by omega))
  have HT0 := Lib.hid ((Tk.start ht).row0 HM.out)
  go_enter Tryd.func3, Tryd.ntmps3
  go_upto_region 5 with (first
    | (go_at_call 10; refine (tk_new HT1.out (HT1.out.rd 0 _ _ rfl)).mono ?_; rintro e w2 ⟨p, rfl, h⟩; rw [HTK.out] at h; have HT2 : Hid (Tk w [(p, m, 0)] [] [(.slice ua m.length uc, m)] w2) := Lib.hid h; clear h)
    | (go_at_call 9; refine (worksT_calls w ht).mono ?_; rintro e w1 ⟨rfl, hb⟩; have HT1 := Lib.hid (HT0.out.call hb); clear hb))
  clear hmina hua
  have HA0 := Lib.hid (AllAt.none HT2.out)
  clear HT0 HT1 HT2
  go_wp2_with fail
  go_loopg [6, 7] 40 (fun g av iv wr => ∃ i s : Nat, i + g = 40 ∧ iv = .int .i64 i ∧ s ≤ 150 * i ∧ AllAt w [(p, m, s)] [] [(.slice ua m.length uc, m)] av (draw m 0 s) wr)
  case atStart => exact ⟨0, 0, rfl, rfl, Nat.zero_le _, HA0.out⟩
  case round =>
    obtain ⟨i, s, hi, rfl, hs, hA⟩ := hrel
    have HA := Lib.hid hA
    obtain ⟨aa, ac, rfl⟩ := hA.form
    rw [length_draw] at HA ⊢
    clear hA HA0
    by_cases hgo : i < ps.length ∧ i < 40
    · obtain ⟨hj1, hj2⟩ := hgo
      obtain ⟨b, o, rfl, hb, hr⟩ := hpr (by intro e; rw [List.map_eq_nil_iff] at e; subst e; simp at hj1)
      have hcell : wr.cell? ⟨b, o + i, none⟩ = some (.int .i64 ps[i]) := by
        rw [World.cell?_of_block (HA.out.bel.block b hb)]
        exact hr i _ (by rw [List.getElem?_map, List.getElem?_eq_getElem hj1]; rfl)
      have hfit := fp ps[i] (List.getElem_mem hj1)
      generalize ps[i] = x at hcell hfit
      have hn0 := Int.emod_nonneg x (b := (151 : Int)) (by omega)
      have hn1 := Int.emod_lt_of_pos x (b := (151 : Int)) (by omega)
      obtain ⟨n, hn⟩ : ∃ n : Nat, x % (151 : Int) = n := ⟨(x % (151 : Int)).toNat, by omega⟩
      rw [hn] at hn0 hn1
      have hnK : n < 151 := by omega
      have HN := Lib.hid hn
      clear hn

      have HN6 := Lib.hid (show n ≤ 65536 by omega)
      have HS1 := Lib.hid (show s + n ≤ 1000000000 by omega)
      have HL := Lib.hid (show (draw m 0 s).length + (draw m s n).length ≤ 1000000 by rw [length_draw, length_draw]; omega)
      have hcat : draw m 0 s ++ draw m s n = draw m 0 (s + n) := by rw [draw_add, Nat.zero_add]
      have HCAT := Lib.hid hcat
      have hj64 : (i : Int) < (ps.length : Int) := by omega
      have hj65 : (i : Int) < 40 := by omega
      have hsn0 : (0 : Int) ≤ (s : Int) + (n : Int) := by omega
      clear hcat
      go_wp2_with (first
        | (go_at_call 13; refine (all_at HC.out).mono ?_; rintro e w6 ⟨rfl, rfl⟩)
        | (at_builtin; refine wpList_all_append rfl (.tmp 42) (.tmp 43) rfl HB.out rfl rfl (HB.out.rd 0 _ _ rfl) HL.out ?_; intro v5 w5 h5; rw [HCAT.out] at h5; have HC := Lib.hid h5; obtain ⟨a5, c5, rfl⟩ := h5.form; rw [length_draw] at HC ⊢; clear h5)
        | (go_at_call 12; refine (all_draw HA.out n HN6.out HS1.out _ rfl).mono ?_; rintro e w4 ⟨g4, rfl, h⟩; have HB := Lib.hid h; clear h)
        | (go_at_call 11; refine (bring_calls x (151 : Int) (by omega) (by omega) hfit.1 hfit.2 _).mono ?_; rintro e w13 ⟨rfl, rfl⟩; rw [HN.out]))
      go_roundg (gk - 1)
      case measure => omega
      case rel => exact ⟨i + 1, s + n, by omega, by go_num, by omega, HC.out.keep _ (fun x hx => List.mem_cons_of_mem _ hx)⟩
    · have hs6 : s ≤ 6000 := by omega
      have HS6 := Lib.hid (show s ≤ 65536 by omega)
      have HS9 := Lib.hid (show 0 + s ≤ 1000000000 by omega)
      have HR := Lib.hid HA.out.row
      obtain ⟨k2, hk21, hk22, hmin20⟩ := min_to m.length s
      have hmin2 : (if s < m.length then (s : Int) else (m.length : Int)) = (k2 : Int) := by rw [← hmin20]; split <;> split <;> omega
      have hac : s ≤ ac := by have := HR.out.rd 0 _ _ rfl; obtain ⟨a', c', e, h1, _⟩ := this.form; rw [length_draw] at e h1; simp only [Value.slice.injEq] at e; omega
      obtain ⟨u1, hu1, hp1⟩ := part_to (P := Tryd.prog) elem_u8 (a := aa) (n := s) (c := ac) .i64 k2 hk22 hac
      obtain ⟨u2, hu2, hp2⟩ := part_to (P := Tryd.prog) elem_u8 (a := ua) (n := m.length) (c := uc) .i64 k2 hk21 hu2a
      have h8 := (HR.out.part 0 rfl hp1).part 2 rfl hp2
      rw [draw_take m 0 s k2 hk22] at h8
      have e2 : m.take k2 = draw m 0 k2 := by rw [← draw_take m 0 m.length k2 hk21, draw_seed]
      rw [e2] at h8
      replace HR := Lib.hid (h8.keep [(.slice aa s ac, draw m 0 s), (.slice ua m.length uc, m), (u1, draw m 0 k2), (u2, draw m 0 k2)] (by intro x hx; simp only [List.mem_cons, List.not_mem_nil, or_false] at hx ⊢; rcases hx with h | h | h | h <;> simp [h]))
      have E1 := Lib.hid (eqb_true (rfl : draw m 0 s = draw m 0 s))
      have E2 := Lib.hid (eqb_true (rfl : draw m 0 k2 = draw m 0 k2))
      clear hmin20 hp1 hp2 h8 e2 HA
      by_cases hlt : i < ps.length
      · have hge : ¬ (i : Int) < 40 := by omega
        have hlt2 : (i : Int) < (ps.length : Int) := by omega
        go_upto_region 17 with fail
        refine wp_region_lex (Every) [2, 5, 6, 14] [] [] (by kernel_rfl) (by kernel_rfl) (fun _ => trivial) ?_
        simp only [List.zipIdx_cons, List.zipIdx_nil, Nat.zero_add, Nat.reduceAdd]
        refine lex_blind 2 (by kernel_rfl) ?_
        simp only [List.take_succ_cons, List.take_zero, List.drop_succ_cons, List.drop_zero, List.map_cons, List.map_nil, Act.put, List.setIfInBounds_toArray, List.set_cons_succ, List.set_cons_zero]
        repeat (go_big_quiet_step (fail))
        refine wpQuiet_nil ?_
        refine lex_act rfl rfl (fun K hK => ?_)
        go_simp
        refine (tk_new HR.out.drew (HR.out.drew.rd 1 _ _ rfl)).mono ?_
        rintro e w8 ⟨r, rfl, h⟩
        rw [HTK.out] at h
        have H8 : Hid (Tk w [(r, m, 0), (p, m, s)] [] _ w8) := Lib.hid h
        clear h
        refine hK _ _ (ActLeft.keep rfl fun h => h) ?_
        clear hK K
        refine lex_blind 2 (by kernel_rfl) ?_
        simp only [List.take_succ_cons, List.take_zero, List.drop_succ_cons, List.drop_zero, List.map_cons, List.map_nil, Act.put, List.setIfInBounds_toArray, List.set_cons_succ, List.set_cons_zero]
        repeat (go_big_quiet_step (fail))
        refine wpQuiet_nil ?_
        refine lex_act rfl rfl (fun K hK => ?_)
        go_simp
        refine (tk_drawN H8.out 0 rfl s HS6.out HS9.out _ rfl).mono ?_
        rintro e w9 ⟨g9, rfl, h⟩
        have H9 := Lib.hid h
        clear h
        refine hK _ _ (ActLeft.keep rfl fun h => h) ?_
        clear hK K
        refine lex_act rfl rfl (fun K hK => ?_)
        go_simp
        refine (eqBytes_calls _ _ _ _ w9 (H9.out.rd 1 _ _ rfl) (H9.out.rd 0 _ _ rfl)).mono ?_
        rintro e w10 ⟨rfl, rfl⟩
        rw [E1.out]
        refine hK _ _ (ActLeft.keep rfl fun h => h) ?_
        clear hK K
        refine lex_blind 7 (by kernel_rfl) ?_
        simp only [List.take_succ_cons, List.take_zero, List.drop_succ_cons, List.drop_zero, List.map_cons, List.map_nil, Act.put, List.setIfInBounds_toArray, List.set_cons_succ, List.set_cons_zero]
        repeat (go_big_quiet_step (fail))
        refine wpQuiet_nil ?_
        refine lex_act rfl rfl (fun K hK => ?_)
        go_simp
        refine (eqBytes_calls _ _ _ _ w9 (H9.out.rd 3 _ _ rfl) (H9.out.rd 4 _ _ rfl)).mono ?_
        rintro e w10 ⟨rfl, rfl⟩
        rw [E2.out]
        refine hK _ _ (ActLeft.keep rfl fun h => h) ?_
        clear hK K
        refine lex_blind 2 (by kernel_rfl) ?_
        simp only [List.take_succ_cons, List.take_zero, List.drop_succ_cons, List.drop_zero, List.map_cons, List.map_nil, Act.put, List.setIfInBounds_toArray, List.set_cons_succ, List.set_cons_zero]
        repeat (go_big_quiet_step (fail))
        refine wpQuiet_nil ?_
        refine lex_nil ?_
        go_wp2_with fail
        go_ret
        exact ⟨rfl, H9.out.bel⟩
      · have hge : ¬ (i : Int) < (ps.length : Int) := by omega
        go_upto_region 17 with fail
        refine wp_region_lex (Every) [2, 5, 6, 14] [] [] (by kernel_rfl) (by kernel_rfl) (fun _ => trivial) ?_
        simp only [List.zipIdx_cons, List.zipIdx_nil, Nat.zero_add, Nat.reduceAdd]
        refine lex_blind 2 (by kernel_rfl) ?_
        simp only [List.take_succ_cons, List.take_zero, List.drop_succ_cons, List.drop_zero, List.map_cons, List.map_nil, Act.put, List.setIfInBounds_toArray, List.set_cons_succ, List.set_cons_zero]
        repeat (go_big_quiet_step (fail))
        refine wpQuiet_nil ?_
        refine lex_act rfl rfl (fun K hK => ?_)
        go_simp
        refine (tk_new HR.out.drew (HR.out.drew.rd 1 _ _ rfl)).mono ?_
        rintro e w8 ⟨r, rfl, h⟩
        rw [HTK.out] at h
        have H8 : Hid (Tk w [(r, m, 0), (p, m, s)] [] _ w8) := Lib.hid h
        clear h
        refine hK _ _ (ActLeft.keep rfl fun h => h) ?_
        clear hK K
        refine lex_blind 2 (by kernel_rfl) ?_
        simp only [List.take_succ_cons, List.take_zero, List.drop_succ_cons, List.drop_zero, List.map_cons, List.map_nil, Act.put, List.setIfInBounds_toArray, List.set_cons_succ, List.set_cons_zero]
        repeat (go_big_quiet_step (fail))
        refine wpQuiet_nil ?_
        refine lex_act rfl rfl (fun K hK => ?_)
        go_simp
        refine (tk_drawN H8.out 0 rfl s HS6.out HS9.out _ rfl).mono ?_
        rintro e w9 ⟨g9, rfl, h⟩
        have H9 := Lib.hid h
        clear h
        refine hK _ _ (ActLeft.keep rfl fun h => h) ?_
        clear hK K
        refine lex_act rfl rfl (fun K hK => ?_)
        go_simp
        refine (eqBytes_calls _ _ _ _ w9 (H9.out.rd 1 _ _ rfl) (H9.out.rd 0 _ _ rfl)).mono ?_
        rintro e w10 ⟨rfl, rfl⟩
        rw [E1.out]
        refine hK _ _ (ActLeft.keep rfl fun h => h) ?_
        clear hK K
        refine lex_blind 7 (by kernel_rfl) ?_
        simp only [List.take_succ_cons, List.take_zero, List.drop_succ_cons, List.drop_zero, List.map_cons, List.map_nil, Act.put, List.setIfInBounds_toArray, List.set_cons_succ, List.set_cons_zero]
        repeat (go_big_quiet_step (fail))
        refine wpQuiet_nil ?_
        refine lex_act rfl rfl (fun K hK => ?_)
        go_simp
        refine (eqBytes_calls _ _ _ _ w9 (H9.out.rd 3 _ _ rfl) (H9.out.rd 4 _ _ rfl)).mono ?_
        rintro e w10 ⟨rfl, rfl⟩
        rw [E2.out]
        refine hK _ _ (ActLeft.keep rfl fun h => h) ?_
        clear hK K
        refine lex_blind 2 (by kernel_rfl) ?_
        simp only [List.take_succ_cons, List.take_zero, List.drop_succ_cons, List.drop_zero, List.map_cons, List.map_nil, Act.put, List.setIfInBounds_toArray, List.set_cons_succ, List.set_cons_zero]
        repeat (go_big_quiet_step (fail))
        refine wpQuiet_nil ?_
        refine lex_nil ?_
        go_wp2_with fail
        go_ret
        exact ⟨rfl, H9.out.bel⟩
end Go.Proofs.YtmkpajhfgdffpaaDoor.Sh
