/- The walk of ShaParts. -/
import Derived.Test.YtkfoalfnjeachaaDoorShLH
namespace Go.Proofs.YtkfoalfnjeachaaDoor.Sh
open Go Go.RowKit

set_option maxRecDepth 4000 in
set_option maxHeartbeats 400000 in
theorem parts_calls (w : World) (ht : Tab w) (v : Value) (m0 : Bs) (hv : RD w.heap.size w v m0) (pv : Value) (ps : List Int) (hp : RV w.heap.size w pv (ps.map (Value.int .i64))) (fp : ∀ n ∈ ps, Fits n) :
    Calls Tryd.prog 5 #[v, pv] w fun e w' => e = .returned (.bool true) ∧ Below w.heap.size w w' := by
  obtain ⟨a, c, rfl, hc, hcm⟩ := hv.form
  obtain ⟨pa, pc, rfl, hpc, hpm, hpn, hpr⟩ := hp
  rw [List.length_map] at hpc ⊢
  obtain ⟨k, hk, hk2, hmin0⟩ := min_to m0.length 2000
  have hmin : (if (2000 : Int) < (m0.length : Int) then (2000 : Int) else (m0.length : Int)) = (k : Int) := hmin0
  clear hmin0
  obtain ⟨u, hu, hur⟩ := rd_to (a := a) (n := m0.length) (c := c) .i64 k hk hc
  have hm := hur _ _ _ hv
  clear hur hv
  have hml : (m0.take k).length = k := by rw [List.length_take]; omega
  generalize m0.take k = m at hm hml
  obtain ⟨ua, uc, rfl, huc, _⟩ := hm.form
  rw [hml] at hu huc
  subst hml
  replace hm := Lib.hid hm
  have li := Lib.hid (LI.start ht)
  go_enter Tryd.func5, Tryd.ntmps5
  go_wp2_with (go_at_call 11; refine (works_L w _ li.out).mono ?_; rintro e w1 ⟨rfl, li1⟩; replace li1 := Lib.hid li1)
  go_wp2_with (go_at_call 14; refine (new_LH w w1 li1.out).mono ?_; rintro e w2 ⟨rfl, lh2⟩; replace lh2 := Lib.hid lh2)
  clear hu hmin
  go_loopg [5, 6, 7] 200 (fun g h left i wr => ∃ (j d : Nat), j + g = 200 ∧ d ≤ m.length ∧ h = .pointer (some ⟨w1.heap.size, 0, none⟩) ∧ i = .int .i64 j ∧ RD w.heap.size w left (m.drop d) ∧ LH w w1.heap.size (m.take d) wr)
  case atStart => exact ⟨0, 0, rfl, Nat.zero_le _, rfl, rfl, by simpa using hm.out, by simpa using lh2.out⟩
  case round =>
    obtain ⟨j, d, hj, hd, rfl, rfl, hl, lh⟩ := hrel
    by_cases hgo : j < ps.length ∧ j < 200
    · obtain ⟨hj1, hj2⟩ := hgo
      obtain ⟨b, o, rfl, hb, hr⟩ := hpr (by intro e; rw [List.map_eq_nil_iff] at e; subst e; simp at hj1)
      have hcell : wr.cell? ⟨b, o + j, none⟩ = some (.int .i64 ps[j]) := by
        rw [World.cell?_of_block (lh.li.bel.block b hb)]
        exact hr j _ (by rw [List.getElem?_map, List.getElem?_eq_getElem hj1]; rfl)
      have hfit := fp ps[j] (List.getElem_mem hj1)
      generalize ps[j] = x at hcell hfit
      obtain ⟨hf1, hf2⟩ := hfit
      have hdl : (m.drop d).length = m.length - d := List.length_drop
      obtain ⟨la, lc, rfl, hlc, _⟩ := hl.form
      rw [hdl] at hl hlc ⊢
      obtain ⟨L, hL⟩ : ∃ L, m.length - d = L := ⟨_, rfl⟩
      rw [hL] at hl hlc hdl ⊢
      have hx0 := Int.emod_nonneg x (b := (L : Int) + 1) (by omega)
      have hx1 := Int.emod_lt_of_pos x (b := (L : Int) + 1) (by omega)
      obtain ⟨n, hn⟩ : ∃ n : Nat, x % ((L : Int) + 1) = n := ⟨(x % ((L : Int) + 1)).toNat, by omega⟩
      rw [hn] at hx0 hx1
      have hnL : n ≤ L := by omega
      have hLb : L ≤ 2000 := by omega
      have HN := Lib.hid hn
      clear hn hx0 hx1
      obtain ⟨u1, hu1, hur1⟩ := rd_to (a := la) (n := L) (c := lc) .i64 n hnL hlc
      obtain ⟨u2, hu2, hur2⟩ := rd_from (a := la) (n := L) (c := lc) .i64 n hnL
      have h1 := Lib.hid (hur1 _ _ _ hl)
      have h2 := hur2 _ _ _ hl
      have hcat : m.take d ++ (m.drop d).take n = m.take (d + n) := by rw [List.take_add]
      rw [List.drop_drop] at h2
      have hd2 : d + n ≤ m.length := by omega
      obtain ⟨u2a, u2c, rfl, hu2c, _⟩ := h2.form
      have hl2 : (m.drop (d + n)).length = m.length - (d + n) := List.length_drop
      have hLn : L - n = m.length - (d + n) := by omega
      rw [hl2] at h2 hu2 hu2c
      have hl3 : (m.take (d + n)).length = d + n := by rw [List.length_take]; omega
      have hlen1 : (m.take d).length + ((m.drop d).take n).length ≤ 1099511627776 := by
        have a1 := List.length_take_le d m
        have a2 := List.length_take_le n (m.drop d)
        omega
      clear hl2
      generalize hE : d + n = E at *
      obtain ⟨r, hr⟩ : ∃ r, m.length - E = r := ⟨_, rfl⟩
      rw [hr] at h2 hu2 hu2c
      have hEr : m.length = E + r := by omega
      have H2 := Lib.hid h2
      obtain ⟨u3, hu3, hur3⟩ := rd_to (a := ua) (n := E + r) (c := uc) .i64 E (by omega) (by omega)
      have h3 := Lib.hid (hur3 _ _ _ (by rw [← hEr]; exact hm.out))
      have LHr := Lib.hid lh
      have HCAT := Lib.hid hcat
      have hj64 : (j : Int) < (ps.length : Int) := by omega
      have hj65 : (j : Int) < 200 := by omega
      have hneq : ∀ (q : Bs) w, (binOp .neq 23 (.agg (A32 (sha q))) (.agg (A32 (sha q)))).run Tryd.prog w = .ok (.bool false) w := fun q w => run_neq_same (sha q) (length_sha q) w
      have hsub : wrap64 ((m.length : Int) - (r : Int)) = (E : Int) := by rw [show (m.length : Int) - (r : Int) = (E : Int) by omega]; exact IntWalk.wrap64_in _ (by omega)
      have HS := Lib.hid hsub
      have HL3 := Lib.hid hl3
      have HLEN := Lib.hid hlen1
      have HNEQ := Lib.hid (hneq (m.take E))
      clear hl lh h2 hcat hur1 hur2 hur3 hdl hl3 hlen1 hneq hLn hL hsub hr
      go_wp2_with (go_at_call 9; go_loud (refine (bring_calls x ((L : Int) + 1) (by omega) (by omega) hf1 hf2 _).mono ?_; rintro e w8 ⟨rfl, rfl⟩; rw [HN.out]))
      go_wp2_with (go_at_call 15; refine (write_LH w w1.heap.size (m.take d) ((m.drop d).take n) u1 wr ht LHr.out h1.out HLEN.out).mono ?_; rintro e w3 ⟨rfl, lh3⟩; rw [HCAT.out] at lh3; replace lh3 := Lib.hid lh3)
      by_cases hj20 : (j : Int) < 20
      · go_wp2_with (go_at_call 17; go_loud (refine (len_LH w w1.heap.size (m.take E) _ lh3.out).mono ?_; rintro e w4 ⟨rfl, rfl⟩; rw [HL3.out]))
        go_wp2_with (go_at_call 16; go_loud (refine (sum_LH w w1.heap.size (m.take E) _ lh3.out (by rw [HL3.out]; omega)).mono ?_; rintro e w4 ⟨rfl, lh4⟩; replace lh4 := Lib.hid lh4))
        go_wp2_with (go_at_call 17; go_loud (refine (len_LH w w1.heap.size (m.take E) _ lh4.out).mono ?_; rintro e w5 ⟨rfl, rfl⟩; rw [HL3.out]))
        go_wp2_with (go_at_call 10; go_loud (refine (shaSum_LH w w1.heap.size (m.take E) (m.take E) u3 _ lh4.out h3.out (by rw [HL3.out]; omega)).mono ?_; rintro e w5 ⟨rfl, lh5⟩; have hne := HNEQ.out; replace lh5 := Lib.hid lh5))
        have hEi : (E : Int) + (r : Int) = (m.length : Int) := by omega
        rw [hEi, ← hEr]
        go_roundg (gk - 1)
        case measure => omega
        case rel => exact ⟨j + 1, E, by omega, hd2, rfl, by go_num, H2.out, lh5.out⟩
      · have hj21 : (20 : Int) ≤ j := by omega
        clear hj20
        go_wp2_with (go_at_call 17; go_loud (refine (len_LH w w1.heap.size (m.take E) _ lh3.out).mono ?_; rintro e w4 ⟨rfl, rfl⟩; rw [HL3.out]))
        have hEi : (E : Int) + (r : Int) = (m.length : Int) := by omega
        rw [hEi, ← hEr]
        go_roundg (gk - 1)
        case measure => omega
        case rel => exact ⟨j + 1, E, by omega, hd2, rfl, by go_num, H2.out, lh3.out⟩
    · have HL := Lib.hid hl
      have LHr := Lib.hid lh
      have hcat : m.take d ++ m.drop d = m := List.take_append_drop d m
      have HCAT := Lib.hid hcat
      have hlen1 : (m.take d).length + (m.drop d).length ≤ 1099511627776 := by
        have a1 := List.length_take_le d m
        have hdl : (m.drop d).length = m.length - d := List.length_drop
        omega
      have HLEN := Lib.hid hlen1
      have heq : ∀ w, (binOp .eql 23 (.agg (A32 (sha m))) (.agg (A32 (sha m)))).run Tryd.prog w = .ok (.bool true) w := fun w => run_eql_same (sha m) (length_sha m) w
      have HEQ := Lib.hid heq
      clear hl lh hcat hlen1 heq
      by_cases hj1 : (j : Int) < (ps.length : Int)
      · have hj2 : (200 : Int) ≤ j := by omega
        go_wp2_with (go_at_call 15; refine (write_LH w w1.heap.size (m.take d) (m.drop d) _ wr ht LHr.out HL.out HLEN.out).mono ?_; rintro e w3 ⟨rfl, lh3⟩; rw [HCAT.out] at lh3; replace lh3 := Lib.hid lh3)
        go_wp2_with (go_at_call 16; refine (sum_LH w w1.heap.size m _ lh3.out (by omega)).mono ?_; rintro e w4 ⟨rfl, lh4⟩; replace lh4 := Lib.hid lh4)
        go_wp2_with (go_at_call 10; refine (shaSum_LH w w1.heap.size m m (.slice ua m.length uc) _ lh4.out hm.out (by omega)).mono ?_; rintro e w5 ⟨rfl, lh5⟩; have hne := HEQ.out; replace lh5 := Lib.hid lh5)
        go_wp2_with (go_at_call 17; refine (len_LH w w1.heap.size m _ lh5.out).mono ?_; rintro e w6 ⟨rfl, rfl⟩)
        go_ret
        exact ⟨rfl, lh5.out.li.bel⟩
      · replace hj1 : (ps.length : Int) ≤ j := by omega
        go_wp2_with (go_at_call 15; refine (write_LH w w1.heap.size (m.take d) (m.drop d) _ wr ht LHr.out HL.out HLEN.out).mono ?_; rintro e w3 ⟨rfl, lh3⟩; rw [HCAT.out] at lh3; replace lh3 := Lib.hid lh3)
        go_wp2_with (go_at_call 16; refine (sum_LH w w1.heap.size m _ lh3.out (by omega)).mono ?_; rintro e w4 ⟨rfl, lh4⟩; replace lh4 := Lib.hid lh4)
        go_wp2_with (go_at_call 10; refine (shaSum_LH w w1.heap.size m m (.slice ua m.length uc) _ lh4.out hm.out (by omega)).mono ?_; rintro e w5 ⟨rfl, lh5⟩; have hne := HEQ.out; replace lh5 := Lib.hid lh5)
        go_wp2_with (go_at_call 17; refine (len_LH w w1.heap.size m _ lh5.out).mono ?_; rintro e w6 ⟨rfl, rfl⟩)
        go_ret
        exact ⟨rfl, lh5.out.li.bel⟩
end Go.Proofs.YtkfoalfnjeachaaDoor.Sh
