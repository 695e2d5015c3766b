/- num.Writer: Raw, Num, Bytes. -/
import Derived.Test.YtlgaikknodoilaaDoorNuWrite
namespace Go.Proofs.YtlgaikknodoilaaDoor.Sh
set_option linter.unusedVariables false
set_option linter.unusedSimpArgs false
open Go Go.RowKit

/-- A number in so many bytes, the highest first. -/
def be (wd n : Nat) : Bs := (List.range wd).map fun i => UInt8.ofNat (n >>> (8 * (wd - 1 - i)))
theorem length_be (wd n : Nat) : (be wd n).length = wd := by simp [be]
theorem be_take (wd n j : Nat) (h : j < wd) : (be wd n).take (j + 1) = (be wd n).take j ++ [UInt8.ofNat (n >>> (8 * (wd - 1 - j)))] := by
  rw [List.take_succ_eq_append_getElem (by rw [length_be]; exact h)]
  simp [be]
theorem be_val (n s : Nat) : ((n : Int) / 2 ^ s % 256) = ((UInt8.ofNat (n >>> s)).toNat : Int) := by
  rw [show ((n : Int) / 2 ^ s % 256) = ((n / 2 ^ s % 256 : Nat) : Int) from by simp]
  congr 1
  rw [Nat.shiftRight_eq_div_pow]
  simp [UInt8.toNat_ofNat]
theorem raw_calls (w0 : World) (p : Nat) (c x : Bs) (xv : Value) (w : World) (ht : Tab w0) (h : WrAt w0 p c w) (hx : RD w.heap.size w xv x) (hlen : c.length + x.length ≤ 1000000) :
    Calls Tryd.prog 32 #[.pointer (some ⟨p, 0, none⟩), xv] w fun e w' => e = .returned (.pointer (some ⟨p, 0, none⟩)) ∧ WrAt w0 p (c ++ x) w' := by
  have H := Lib.hid h
  have HX := Lib.hid hx
  have HL := Lib.hid hlen
  clear h hx hlen
  go_enter Tryd.func32, Tryd.ntmps32
  go_wp2_with (go_at_call 42; refine (put_calls w0 p c x xv w ht H.out HX.out HL.out).mono ?_; rintro e w1 ⟨rfl, h1⟩; replace h1 := Lib.hid h1)
  go_ret
  exact ⟨rfl, h1.out⟩
theorem bytes_calls (w0 : World) (p : Nat) (c : Bs) (w : World) (h : WrAt w0 p c w) (hlen : c.length ≤ 1000000) :
    Calls Tryd.prog 34 #[.pointer (some ⟨p, 0, none⟩)] w fun e w' => ∃ v', e = .returned (.tuple #[v', .int .i64 0]) ∧ Own w.heap.size w' v' c ∧ Below w.heap.size w w' := by
  obtain ⟨v, h1, h2⟩ := h.row
  have hrd := Lib.hid h2.rd
  have c0 : w.cell? ⟨p, 0, none⟩ = some v := by rw [cell_of_row w p 0 _ _ _ h1]; rfl
  have c1 : w.cell? ⟨p, 1, none⟩ = some (.int .i64 0) := by rw [cell_of_row w p 1 _ _ _ h1]; rfl
  have hl : c.length ≤ 140737488355328 := by omega
  have HL := Lib.hid hl
  clear h h1 h2 hl
  go_enter Tryd.func34, Tryd.ntmps34
  go_wp2_with (go_at_call 28; refine (clone_calls v c w hrd.out HL.out).mono ?_; rintro e w1 ⟨v', rfl, ho, hb⟩; replace ho := Lib.hid ho; replace hb := Lib.hid hb)
  go_ret2
  exact ⟨v', rfl, ho.out, hb.out⟩
theorem wide_calls (wd : Nat) (hwd : wd = 1 ∨ wd = 2 ∨ wd = 4 ∨ wd = 8) (w : World) :
    Calls Tryd.prog 43 #[.int .i64 (wd : Int)] w fun e w' => e = .returned (.bool true) ∧ w = w' := by
  rcases hwd with rfl | rfl | rfl | rfl
  all_goals (
    go_enter Tryd.func43, Tryd.ntmps43
    go_wp2
    go_ret
    exact ⟨rfl, rfl⟩)

set_option maxHeartbeats 1000000 in
theorem num_calls (w0 : World) (p : Nat) (c : Bs) (wd n : Nat) (hwd : wd = 1 ∨ wd = 2 ∨ wd = 4 ∨ wd = 8) (hn : n < 2 ^ (8 * wd)) (hn53 : n ≤ 9007199254740991) (w : World) (ht : Tab w0) (h : WrAt w0 p c w) (hlen : c.length + wd ≤ 1000000) :
    Calls Tryd.prog 33 #[.pointer (some ⟨p, 0, none⟩), .int .i64 (wd : Int), .int .i64 (n : Int)] w fun e w' => e = .returned (.pointer (some ⟨p, 0, none⟩)) ∧ WrAt w0 p (c ++ be wd n) w' := by
  have H := Lib.hid h
  have hw := Lib.hid (wide_calls wd hwd)
  have hwd8 : 1 ≤ wd ∧ wd ≤ 8 := by omega
  obtain ⟨hw1, hw8⟩ := hwd8
  have hdiv : n / 2 ^ (8 * wd) = 0 := Nat.div_eq_of_lt hn
  have hl : c.length + (be wd n).length ≤ 1000000 := by rw [length_be]; exact hlen
  have HL := Lib.hid hl
  have hdivI : (((n : Int) / 2 ^ (8 * wd)) != 0) = false := by
    rw [bne_eq_false_iff_eq]
    have h0 : ((n / 2 ^ (8 * wd) : Nat) : Int) = 0 := by rw [hdiv]; rfl
    simpa using h0
  have hn0 : (0 : Int) ≤ (n : Int) := by omega
  have hn1 : (n : Int) ≤ 9007199254740991 := by omega
  have hP0 := Lib.hid (show PadAt w.heap.size w (.slice none 0 0) ((be wd n).take 0) w from ⟨ownsRow_free, Below.refl _ _, Nat.le_refl _⟩)
  clear h hl hdiv hn hwd
  go_enter Tryd.func33, Tryd.ntmps33
  go_wp2_with (go_at_call 43; refine (hw.out w).mono ?_; rintro e w1 ⟨rfl, rfl⟩)
  clear hdivI
  go_loopg [7, 28] wd (fun g pv iv wr => ∃ j : Nat, j + g = wd ∧ iv = .int .i64 j ∧ PadAt w.heap.size w pv ((be wd n).take j) wr)
  case atStart => exact ⟨0, by omega, rfl, hP0.out⟩
  case round =>
    obtain ⟨j, hj, rfl, hP⟩ := hrel
    have HP := Lib.hid hP
    clear hP hP0
    by_cases hlt : j < wd
    · go_wp2_with (at_builtin; refine wpList_append_mine rfl (.tmp 31) (.tmp 40) 22 rfl elem_u8 rfl rfl (HP.out.own.alloc _) (HP.out.base_le) (B := wr.heap.size + 1) (ys := [UInt8.ofNat (n >>> (8 * (wd - 1 - j)))].map bv) ?_ (one_bytes _) (small_len (by simp; omega)) (small_bytes (by simp; omega)) ?_; rotate_right; intro v' w' hg ho; replace ho := Lib.hid ho)
      · have HN := Lib.hid (HP.out.push hg ho.out)
        clear hg ho HP
        go_wp2_with fail
        go_roundg (gk - 1)
        case measure => omega
        case rel => exact ⟨j + 1, by omega, by go_num, by rw [be_take wd n j hlt]; exact HN.out⟩
      · refine RV.eq_cells (be_val n (8 * (wd - 1 - j))) ?_
        exact rv_byte wr _
    · obtain rfl : j = wd := by omega
      have hfull : (be j n).take j = be j n := List.take_of_length_le (Nat.le_of_eq (length_be j n))
      have HP2 : Hid (PadAt w.heap.size w u7 (be j n) wr) := by
        have := HP.out
        rwa [hfull] at this
      have HW := Lib.hid (H.out.call HP.out.below)
      have HR := Lib.hid (show RD wr.heap.size wr u7 (be j n) from RV.of_owns HP2.out.own)
      clear HP hfull hlt hj
      go_wp2_with (go_at_call 42; refine (put_calls w0 p c (be j n) _ wr ht HW.out HR.out HL.out).mono ?_; rintro e w2 ⟨rfl, h2⟩; replace h2 := Lib.hid h2)
      go_ret
      exact ⟨rfl, h2.out⟩
end Go.Proofs.YtlgaikknodoilaaDoor.Sh
