/- The walk of ShaQuiet. -/
import Derived.Test.YtkfoalfnjeachaaDoorShTwo
namespace Go.Proofs.YtkfoalfnjeachaaDoor.Sh
open Go Go.RowKit

theorem rd_nil (B : Nat) (w : World) : RD B w (.slice none 0 0) [] := ⟨none, 0, rfl, Nat.le_refl _, Nat.zero_le _, fun _ => rfl, fun h => absurd rfl h⟩
theorem rd_empty (B : Nat) (w : World) (a : Option Addr) : RD B w (.slice a 0 0) [] := ⟨a, 0, rfl, Nat.le_refl _, Nat.zero_le _, fun _ => rfl, fun h => absurd rfl h⟩
theorem LH.alloc {w0 w : World} {p : Nat} {c : Bs} (h : LH w0 p c w) (o : Obj) : LH w0 p c (w.alloc o) := h.call ((Below.refl _ _).alloc (Nat.le_refl _) o)
/-- Nothing is written. -/
theorem write_LH0 (w0 : World) (p : Nat) (c : Bs) (sv : Value) (w : World) (ht : Tab w0) (h : LH w0 p c w) (hx : RD w.heap.size w sv []) (hlen : c.length ≤ 1099511627776) :
    Calls Tryd.prog 15 #[.pointer (some ⟨p, 0, none⟩), sv] w fun e w' => e = .returned (.pointer (some ⟨p, 0, none⟩)) ∧ LH w0 p c w' :=
  (write_calls p c [] sv w h.li.tab h.hash hx (by have := h.own; have := ht.lt; omega) hlen).mono fun _ _ ⟨h1, h2, h3⟩ => ⟨h1, by rw [List.append_nil] at h2; exact h.write h2 h3 ht⟩

set_option maxRecDepth 4000 in
set_option maxHeartbeats 400000 in
theorem quiet_calls (w : World) (ht : Tab w) (v : Value) (m0 : Bs) (hv : RD w.heap.size w v m0) (pv : Value) (ps : List Int) (hp : RV w.heap.size w pv (ps.map (Value.int .i64))) (fp : ∀ n ∈ ps, Fits n) :
    Calls Tryd.prog 7 #[v, pv] w fun e w' => e = .returned (.bool true) ∧ Below w.heap.size w w' := by
  obtain ⟨a, c, rfl, hc, hcm⟩ := hv.form
  obtain ⟨pa, pc, rfl, hpc, hpm, hpn, hpr⟩ := hp
  rw [List.length_map] at hpc ⊢
  obtain ⟨k, hk, hk2, hmin0⟩ := min_to m0.length 600
  have hmin : (if (600 : Int) < (m0.length : Int) then (600 : Int) else (m0.length : Int)) = (k : Int) := hmin0
  clear hmin0
  obtain ⟨u, hu, hur⟩ := rd_to (a := a) (n := m0.length) (c := c) .i64 k hk hc
  have hm := hur _ _ _ hv
  clear hur hv
  have hml : (m0.take k).length = k := by rw [List.length_take]; omega
  generalize m0.take k = m at hm hml
  obtain ⟨ua, uc, rfl, huc, _⟩ := hm.form
  rw [hml] at hu huc
  subst hml
  replace hm := Lib.hid hm
  have li := Lib.hid (LI.start ht)
  have hlm : m.length ≤ 549755813888 := by omega
  have HLM := Lib.hid hlm
  clear hlm
  go_enter Tryd.func7, Tryd.ntmps7
  go_wp2_with (go_at_call 14; refine (new_LHx w w li.out).mono ?_; rintro e w2 ⟨p, rfl, lh2⟩; replace lh2 := Lib.hid lh2)
  clear hu hmin
  go_loopg [6, 7] 60 (fun g t i wr => ∃ (j d : Nat), j + g = 60 ∧ d ≤ m.length ∧ t = .int .i64 d ∧ i = .int .i64 j ∧ LH w p (m.take d) wr)
  case atStart => exact ⟨0, 0, rfl, Nat.zero_le _, rfl, rfl, by simpa using lh2.out⟩
  case round =>
    obtain ⟨j, d, hj, hd, rfl, rfl, lh⟩ := hrel
    obtain ⟨r, hr⟩ : ∃ r, m.length - d = r := ⟨_, rfl⟩
    have hEr : m.length = d + r := by omega
    have hlend : (m.take d).length = d := by rw [List.length_take]; omega
    have hld : (m.take d).length ≤ 549755813888 := by omega
    have hld2 : (m.take d).length ≤ 1099511627776 := by omega
    have hldm : (m.take d).length + m.length ≤ 1099511627776 := by omega
    have HLEND := Lib.hid hlend
    have HLD := Lib.hid hld
    have HLD2 := Lib.hid hld2
    have HLDM := Lib.hid hldm
    have hmE : RD w.heap.size w (.slice ua (d + r) uc) m := by rw [← hEr]; exact hm.out
    have HME := Lib.hid hmE
    have LHr := Lib.hid lh
    clear hmE
    clear hr hlend hld hld2 hldm lh
    by_cases hgo : j < ps.length ∧ j < 60
    · obtain ⟨hj1, hj2⟩ := hgo
      obtain ⟨b, o, rfl, hb, hr⟩ := hpr (by intro e; rw [List.map_eq_nil_iff] at e; subst e; simp at hj1)
      have hcell : wr.cell? ⟨b, o + j, none⟩ = some (.int .i64 ps[j]) := by
        rw [World.cell?_of_block (LHr.out.li.bel.block b hb)]
        exact hr j _ (by rw [List.getElem?_map, List.getElem?_eq_getElem hj1]; rfl)
      have hfit := fp ps[j] (List.getElem_mem hj1)
      generalize ps[j] = x at hcell hfit
      obtain ⟨hf1, hf2⟩ := hfit
      have hx0 := Int.emod_nonneg x (b := (40 : Int)) (by omega)
      have hx1 := Int.emod_lt_of_pos x (b := (40 : Int)) (by omega)
      obtain ⟨n, hn⟩ : ∃ n : Nat, x % (40 : Int) = n := ⟨(x % (40 : Int)).toNat, by omega⟩
      rw [hn] at hx0 hx1
      have hnL : n < 40 := by omega
      have HN := Lib.hid hn
      clear hn hx0 hx1
      have hj64 : (j : Int) < (ps.length : Int) := by omega
      have hj65 : (j : Int) < 60 := by omega
      have hEi : (d : Int) + (r : Int) = (m.length : Int) := by omega
      have HEI := Lib.hid hEi
      clear hEi
      go_upto_region 11 with (go_at_call 9; go_loud (refine (bring_calls x (40 : Int) (by omega) (by omega) hf1 hf2 _).mono ?_; rintro e w8 ⟨rfl, rfl⟩; rw [HN.out]))
      by_cases h8 : (n : Int) < 8
      · go_wp2_with (first
          | (go_at_call 18; refine (copy_LH2 w p (m.take d) _ LHr.out).mono ?_; rintro e w3 ⟨q, rfl, lh3⟩; replace lh3 := Lib.hid lh3)
          | (go_at_call 15; refine (write_LH2' w p q (m.take d) (m.take d) m _ _ ht lh3.out HME.out HLDM.out).mono ?_; rintro e w4 ⟨rfl, lh4⟩; replace lh4 := Lib.hid lh4))
        rw [HEI.out, ← hEr]
        go_roundg (gk - 1)
        case measure => omega
        case rel => exact ⟨j + 1, d, by omega, hd, rfl, by go_num, lh4.out.one⟩
      · by_cases h16 : (n : Int) < 16
        · have lh := LHr.out
          replace lh := Lib.hid lh
          go_wp2_with (first
            | (go_at_call 15; refine (write_LH0 w p (m.take d) _ _ ht ?_ (by first | exact rd_nil _ _ | exact rd_empty _ _ _) HLD2.out).mono ?_; (· first | exact lh.out | exact lh.out.alloc _); rintro e w3 ⟨rfl, lh⟩; replace lh := Lib.hid lh)
            | (go_at_call 17; refine (len_LH w p (m.take d) _ lh.out).mono ?_; rintro e w4 ⟨rfl, rfl⟩; rw [HLEND.out]))
          rw [HEI.out, ← hEr]
          go_roundg (gk - 1)
          case measure => omega
          case rel => exact ⟨j + 1, d, by omega, hd, rfl, by go_num, lh.out⟩
        · by_cases h24 : (n : Int) < 24
          · obtain ⟨u1, hu1, hur1⟩ := rd_to (a := ua) (n := d + r) (c := uc) .i64 d (by omega) (by omega)
            have h1 := Lib.hid (hur1 _ _ _ (by rw [← hEr]; exact hm.out))
            have hneq : ∀ w, (binOp .neq 23 (.agg (A32 (sha (m.take d)))) (.agg (A32 (sha (m.take d))))).run Tryd.prog w = .ok (.bool false) w := fun w => run_neq_same (sha (m.take d)) (length_sha (m.take d)) w
            clear hur1
            go_upto_region 17 with fail
            refine wp_region_lex Every [1, 5] [] [] (by kernel_rfl) (by kernel_rfl) (fun _ => trivial) ?_
            simp only [List.zipIdx_cons, List.zipIdx_nil, Nat.zero_add, Nat.reduceAdd]
            refine lex_blind 1 (by kernel_rfl) ?_
            simp only [List.take_succ_cons, List.take_zero, List.drop_succ_cons, List.drop_zero, List.map_cons, List.map_nil, Act.put, List.setIfInBounds_toArray, List.set_cons_succ, List.set_cons_zero]
            repeat (go_big_quiet_step (fail))
            refine wpQuiet_nil ?_
            refine lex_act rfl rfl (fun K hK => ?_)
            go_simp
            refine (sum_LH w p (m.take d) _ (by repeat (first | exact LHr.out | apply LH.drew)) HLD.out).mono ?_
            rintro e w3 ⟨rfl, lh3⟩
            refine hK _ _ (ActLeft.keep rfl fun h => h) ?_
            clear hK K
            refine lex_blind 3 (by kernel_rfl) ?_
            simp only [List.take_succ_cons, List.take_zero, List.drop_succ_cons, List.drop_zero, List.map_cons, List.map_nil, Act.put, List.setIfInBounds_toArray, List.set_cons_succ, List.set_cons_zero]
            repeat (go_big_quiet_step (fail))
            refine wpQuiet_nil ?_
            refine lex_act rfl rfl (fun K hK => ?_)
            go_simp
            refine (shaSum_LH w p (m.take d) (m.take d) u1 _ lh3 h1.out HLD.out).mono ?_
            rintro e w4 ⟨rfl, lh4⟩
            refine hK _ _ (ActLeft.keep rfl fun h => h) ?_
            clear hK K
            refine lex_blind 1 (by kernel_rfl) ?_
            simp only [List.take_succ_cons, List.take_zero, List.drop_succ_cons, List.drop_zero, List.map_cons, List.map_nil, Act.put, List.setIfInBounds_toArray, List.set_cons_succ, List.set_cons_zero]
            repeat (go_big_quiet_step (fail))
            refine wpQuiet_nil ?_
            refine lex_nil ?_
            go_wp2_with fail
            rw [HEI.out, ← hEr]
            go_roundg (gk - 1)
            case measure => omega
            case rel => exact ⟨j + 1, d, by omega, hd, rfl, by go_num, lh4⟩
          · obtain ⟨kk, hkk, hkn, hmin0⟩ : ∃ kk : Nat, kk ≤ r ∧ kk ≤ n ∧ (if (d : Int) + (r : Int) - (d : Int) < (n : Int) then (d : Int) + (r : Int) - (d : Int) else (n : Int)) = (kk : Int) := by
              rw [show (d : Int) + (r : Int) - (d : Int) = (r : Int) by omega]
              by_cases h : (r : Int) < (n : Int)
              · exact ⟨r, Nat.le_refl _, by omega, by rw [if_pos h]⟩
              · exact ⟨n, by omega, Nat.le_refl _, by rw [if_neg h]⟩
            have hdk : d + kk ≤ m.length := by omega
            have HDK := Lib.hid hdk
            clear hdk
            obtain ⟨u1, hu1', hur1⟩ := cut_both (P := Tryd.prog) elem_u8 (a := ua) (n := d + r) (c := uc) .i64 .i64 d (d + kk) (by omega) (by omega) (by omega)
            have hu1 : ∀ w, (Instr.slice 25 (.slice ua (d + r) uc) (some (.int .i64 (d : Int))) (some (.int .i64 ((d : Int) + (kk : Int)))) none).run Tryd.prog w = .ok u1 w := fun w => by
              have := hu1' w
              rwa [Int.natCast_add] at this
            have h1 : RD w.heap.size w u1 ((m.drop d).take kk) := by
              have := hur1 w.heap.size w (m.map bv) (by rw [← hEr]; exact hm.out)
              rw [Nat.add_sub_cancel_left, ← List.map_drop, ← List.map_take] at this
              exact this
            have H1 := Lib.hid h1
            have hcat : m.take d ++ (m.drop d).take kk = m.take (d + kk) := by rw [List.take_add]
            have HCAT := Lib.hid hcat
            have hlen1 : (m.take d).length + ((m.drop d).take kk).length ≤ 1099511627776 := by
              have a1 := List.length_take_le d m
              have a2 := List.length_take_le kk (m.drop d)
              omega
            have HLEN := Lib.hid hlen1
            clear hcat hlen1 h1 hur1 hu1'
            go_wp2_with (go_at_call 15; go_loud (refine (write_LH w p (m.take d) ((m.drop d).take kk) u1 _ ht LHr.out H1.out HLEN.out).mono ?_; rintro e w3 ⟨rfl, lh3⟩; rw [HCAT.out] at lh3; replace lh3 := Lib.hid lh3))
            rw [HEI.out, ← hEr]
            go_roundg (gk - 1)
            case measure => omega
            case rel => exact ⟨j + 1, d + kk, by omega, HDK.out, by go_num, by go_num, lh3.out⟩
    · obtain ⟨u4, hu4, hur4⟩ := rd_from (a := ua) (n := d + r) (c := uc) .i64 d (by omega)
      have h4 := Lib.hid (hur4 _ _ _ (by rw [← hEr]; exact hm.out))
      have hcat : m.take d ++ m.drop d = m := List.take_append_drop d m
      have HCAT := Lib.hid hcat
      have hlen1 : (m.take d).length + (m.drop d).length ≤ 1099511627776 := by
        have a1 := List.length_take_le d m
        have hdl : (m.drop d).length = m.length - d := List.length_drop
        omega
      have HLEN := Lib.hid hlen1
      have heq : ∀ w, (binOp .eql 23 (.agg (A32 (sha m))) (.agg (A32 (sha m)))).run Tryd.prog w = .ok (.bool true) w := fun w => run_eql_same (sha m) (length_sha m) w
      clear hur4 hcat hlen1
      have hend : (j : Int) < (ps.length : Int) ∧ (60 : Int) ≤ j ∨ (ps.length : Int) ≤ j := by omega
      clear hgo
      obtain ⟨hj1, hj2⟩ | hj1 := hend
      all_goals (
        go_wp2_with (first
          | (go_at_call 15; refine (write_LH w p (m.take d) (m.drop d) u4 _ ht LHr.out h4.out HLEN.out).mono ?_; rintro e w3 ⟨rfl, lh3⟩; rw [HCAT.out] at lh3; replace lh3 := Lib.hid lh3)
          | (go_at_call 16; refine (sum_LH w p m _ lh3.out HLM.out).mono ?_; rintro e w4 ⟨rfl, lh4⟩; replace lh4 := Lib.hid lh4)
          | (go_at_call 10; refine (shaSum_LH w p m m _ _ lh4.out HME.out HLM.out).mono ?_; rintro e w5 ⟨rfl, lh5⟩; replace lh5 := Lib.hid lh5)
          | (go_at_call 11; refine (works_LH w p m _ lh5.out).mono ?_; rintro e w6 ⟨rfl, lh6⟩; replace lh6 := Lib.hid lh6))
        go_ret
        exact ⟨rfl, lh6.out.li.bel⟩)
end Go.Proofs.YtkfoalfnjeachaaDoor.Sh
