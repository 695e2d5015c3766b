/- The walk of TapeSkips. -/
import Derived.Test.YtmkpajhfgdffpaaDoorTaWorks
namespace Go.Proofs.YtmkpajhfgdffpaaDoor.Sh
set_option linter.unusedVariables false
set_option linter.unusedSimpArgs false
open Go Go.RowKit

set_option maxRecDepth 4000 in
set_option maxHeartbeats 1000000 in
theorem skips_calls (w : World) (ht : Tab w) (v : Value) (m0 : Bs) (hv : RD w.heap.size w v m0) (z : Int) (fz : Fits z) :
    Calls Tryd.prog 7 #[v, .int .i64 z] w fun e w' => e = .returned (.bool true) ∧ Below w.heap.size w w' := by
  obtain ⟨a, c, rfl, hca, hma⟩ := hv.form
  obtain ⟨k, hka, hk2a, hmina0⟩ := min_to m0.length 60
  have hmina : (if (60 : Int) < (m0.length : Int) then (60 : Int) else (m0.length : Int)) = (k : Int) := hmina0
  obtain ⟨u, hua, hura⟩ := rd_to (a := a) (n := m0.length) (c := c) .i64 k hka hca
  have hm := hura _ _ _ hv
  have hlm : (m0.take k).length = k := by rw [List.length_take]; omega
  generalize m0.take k = m at hm hlm
  obtain ⟨ua, uc, rfl, hu2a, _⟩ := hm.form
  rw [hlm] at hua hu2a
  subst hlm
  have HM := Lib.hid hm
  clear hmina0 hura hv hm
  have hn0 := Int.emod_nonneg z (b := (201 : Int)) (by omega)
  have hn1 := Int.emod_lt_of_pos z (b := (201 : Int)) (by omega)
  obtain ⟨n, hn⟩ : ∃ n : Nat, z % (201 : Int) = n := ⟨(z % (201 : Int)).toNat, by omega⟩
  rw [hn] at hn0 hn1
  have hnK : n < 201 := by omega
  have HN := Lib.hid hn
  clear hn
  have HS0 := Lib.hid (show 0 + n ≤ 1000000000 by omega)
  have HN6 := Lib.hid (show n ≤ 65536 by omega)
  have HS1 := Lib.hid (show n + 100 ≤ 1000000000 by omega)
  have HS2 := Lib.hid (show n + 100 + 9 ≤ 1000000000 by omega)
  have HTK := Lib.hid (show m.take 65536 = m from List.take_of_length_le (by omega))
  have HT0 := Lib.hid (Tk.start ht)
  have E1 := Lib.hid (eqb_true (rfl : draw m n 100 = draw m n 100))
  have E2 := Lib.hid (eqb_true (rfl : draw m (n + 100) 9 = draw m (n + 100) 9))
  go_enter Tryd.func7, Tryd.ntmps7
  go_upto_region 5 with (first
    | (go_at_call 12; refine (tk_drawN HT2.out 1 rfl n HN6.out HS0.out _ rfl).mono ?_; rintro e w3 ⟨g, rfl, h⟩; rw [Nat.zero_add] at h; have HT3 : Hid (Tk w [(q, m, 0), (p, m, n)] [] _ w3) := Lib.hid h; clear h)
    | (go_at_call 10; refine (tk_new HT1.out (HT1.out.li.rd HM.out)).mono ?_; rintro e w2 ⟨q, rfl, h⟩; rw [HTK.out] at h; have HT2 : Hid (Tk w [(q, m, 0), (p, m, 0)] [] [] w2) := Lib.hid h; clear h)
    | (go_at_call 10; refine (tk_new HT0.out HM.out).mono ?_; rintro e w1 ⟨p, rfl, h⟩; rw [HTK.out] at h; have HT1 : Hid (Tk w [(p, m, 0)] [] [] w1) := Lib.hid h; clear h)
    | (go_at_call 11; refine (bring_calls z (201 : Int) (by omega) (by omega) fz.1 fz.2 _).mono ?_; rintro e w13 ⟨rfl, rfl⟩; rw [HN.out]))
  have HL0 := Lib.hid (HT3.out.keep [] (fun x hx => by cases hx))
  clear HT0 HT1 HT2 HT3
  go_wp2_with fail
  go_loopg [7] n (fun g iv wr => ∃ i : Nat, i + g = n ∧ iv = .int .i64 i ∧ Tk w [(q, m, i), (p, m, n)] [] [] wr)
  case atStart => exact ⟨0, by omega, rfl, HL0.out⟩
  case round =>
    obtain ⟨i, hi, rfl, hT⟩ := hrel
    have HT := Lib.hid hT
    clear hT HL0
    by_cases hlt : i < n
    · have HS3 := Lib.hid (show i + 1 ≤ 1000000000 by omega)
      go_wp2_with (go_at_call 12; refine (tk_drawN HT.out 0 rfl 1 (by decide) HS3.out 1 rfl).mono ?_; rintro e w4 ⟨g4, rfl, h⟩; have HT4 : Hid (Tk w [(q, m, i + 1), (p, m, n)] [] _ w4) := Lib.hid h; clear h)
      go_roundg (gk - 1)
      case measure => omega
      case rel => exact ⟨i + 1, by omega, by go_num, HT4.out.keep [] (fun x hx => by cases hx)⟩
    · obtain rfl : i = n := by omega
      have H0 := HT
      clear HT hlt hi
      generalize hii : i = n at *
      clear hii
      go_wp2_with (first
        | (go_at_call 9; refine (worksT_calls _ H10.out.tab).mono ?_; rintro e w11 ⟨rfl, hb⟩; have H11 := Lib.hid (H10.out.call hb); clear hb H10)
        | (go_at_call 14; refine (eqBytes_calls _ _ _ _ _ (H9.out.rd 1 _ _ rfl) (H9.out.rd 0 _ _ rfl)).mono ?_; rintro e w10 ⟨rfl, rfl⟩; rw [E2.out]; have H10 := H9; clear H9)
        | (go_at_call 12; refine (tk_drawN H8.out 0 rfl 9 (by decide) HS2.out 9 rfl).mono ?_; rintro e w9 ⟨g4, rfl, h⟩; have H9 : Hid (Tk w [(c2, m, n + 100 + 9), (c1, m, n + 100 + 9), (q, m, n + 100), (p, m, n + 100)] [] _ w9) := Lib.hid h; clear h; clear H8)
        | (go_at_call 20; refine (tk_copy H7.out 1 rfl).mono ?_; rintro e w8 ⟨c2, rfl, h⟩; have H8 : Hid (Tk w [(c2, m, n + 100), (c1, m, n + 100 + 9), (q, m, n + 100), (p, m, n + 100)] [] _ w8) := Lib.hid h; clear h; clear H7)
        | (go_at_call 12; refine (tk_drawN H6.out 0 rfl 9 (by decide) HS2.out 9 rfl).mono ?_; rintro e w7 ⟨g3, rfl, h⟩; have H7 : Hid (Tk w [(c1, m, n + 100 + 9), (q, m, n + 100), (p, m, n + 100)] [] _ w7) := Lib.hid h; clear h; clear H6)
        | (go_at_call 20; refine (tk_copy H5.out 1 rfl).mono ?_; rintro e w6 ⟨c1, rfl, h⟩; have H6 : Hid (Tk w [(c1, m, n + 100), (q, m, n + 100), (p, m, n + 100)] [] _ w6) := Lib.hid h; clear h; clear H5)
        | (go_at_call 14; refine (eqBytes_calls _ _ _ _ _ (H4.out.rd 1 _ _ rfl) (H4.out.rd 0 _ _ rfl)).mono ?_; rintro e w9 ⟨rfl, rfl⟩; rw [E1.out]; have H5 := H4; clear H4)
        | (go_at_call 12; refine (tk_drawN H3.out 0 rfl 100 (by decide) HS1.out 100 rfl).mono ?_; rintro e w4 ⟨g2, rfl, h⟩; have H4 : Hid (Tk w [(q, m, n + 100), (p, m, n + 100)] [] _ w4) := Lib.hid h; clear h; clear H3)
        | (go_at_call 12; refine (tk_drawN H2.out 1 rfl 100 (by decide) HS1.out 100 rfl).mono ?_; rintro e w3 ⟨g1, rfl, h⟩; have H3 : Hid (Tk w [(q, m, n), (p, m, n + 100)] [] _ w3) := Lib.hid h; clear h; clear H2)
        | (go_at_call 13; refine (tk_at H1.out 0 rfl).mono ?_; rintro e w9 ⟨rfl, rfl⟩; have H2 := H1; clear H1)
        | (go_at_call 13; refine (tk_at H0.out 1 rfl).mono ?_; rintro e w9 ⟨rfl, rfl⟩; have H1 := H0; clear H0))
      go_ret
      exact ⟨rfl, H11.out.bel⟩
end Go.Proofs.YtmkpajhfgdffpaaDoor.Sh
