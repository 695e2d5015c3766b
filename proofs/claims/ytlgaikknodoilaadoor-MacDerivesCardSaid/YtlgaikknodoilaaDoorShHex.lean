/- The contract of hex. -/
import Derived.Test.YtlgaikknodoilaaDoorShBring
namespace Go.Proofs.YtlgaikknodoilaaDoor.Sh
set_option linter.unusedVariables false
set_option linter.unusedSimpArgs false
open Go Go.RowKit

def digits : ByteArray := ⟨#[48, 49, 50, 51, 52, 53, 54, 55, 56, 57, 97, 98, 99, 100, 101, 102]⟩
def hx (l : Bs) : Nat → ByteArray
  | 0 => ⟨#[]⟩
  | k + 1 => hx l k ++ digits.extract ((l.getD k 0).toNat / 16) ((l.getD k 0).toNat / 16 + 1) ++ digits.extract ((l.getD k 0).toNat % 16) ((l.getD k 0).toNat % 16 + 1)

theorem size_digit (t : Nat) (h : t < 16) : (digits.extract t (t + 1)).size = 1 := by
  rw [ByteArray.size_extract]
  have : digits.size = 16 := rfl
  omega
theorem size_hx (l : Bs) (k : Nat) : (hx l k).size = 2 * k := by
  induction k with
  | zero => rfl
  | succ k ih =>
    have h := (l.getD k 0).toNat_lt
    rw [hx, ByteArray.size_append, ByteArray.size_append, ih, size_digit _ (by omega), size_digit _ (by omega)]
    omega
theorem A32_get (l : Bs) (k : Nat) (h : k < l.length) : (A32 l)[k]? = some (bv (l.getD k 0)) := by
  simp [A32, h]

set_option maxHeartbeats 1000000 in
theorem hex_calls (l : Bs) (hl : l.length = 32) (w : World) :
    Calls Tryd.prog 24 #[.agg (A32 l)] w fun e w' => e = .returned (.string (hx l 32)) ∧ Below w.heap.size w w' := by
  have hb := Lib.hid (heap_new w (.cells (A32 l) 24))
  go_enter Tryd.func24, Tryd.ntmps24
  go_wp2_with fail
  go_loopg [3, 4] 32 (fun g s i wr => ∃ k : Nat, k + g = 32 ∧ i = .int .i64 k ∧ s = .string (hx l k) ∧ wr.heap[w.heap.size]? = some (.cells (A32 l) 24 (0, 0)) ∧ Below w.heap.size w wr)
  case atStart => exact ⟨0, rfl, rfl, rfl, hb.out, (Below.refl _ _).alloc (Nat.le_refl _) _⟩
  case round =>
    obtain ⟨k, hk, rfl, rfl, hr, hbel⟩ := hrel
    have HR := Lib.hid hr
    have HB := Lib.hid hbel
    by_cases hlt : k < 32
    · have hc : wr.cell? ⟨w.heap.size, k, none⟩ = some (.int .u8 ((l.getD k 0).toNat : Int)) := by rw [cell_of_row wr _ k _ _ _ hr, A32_get l k (by omega)]; rfl
      have hS : hx l (k + 1) = hx l k ++ digits.extract ((l.getD k 0).toNat / 16) ((l.getD k 0).toNat / 16 + 1) ++ digits.extract ((l.getD k 0).toNat % 16) ((l.getD k 0).toNat % 16 + 1) := rfl
      have HS := Lib.hid hS
      have hx1 : (l.getD k 0).toNat < 256 := (l.getD k 0).toNat_lt
      generalize l.getD k 0 = x at hc HS hx1
      have hsz := size_hx l k
      generalize hx l k = s at *
      clear hr hbel hS hb
      have hd : ∀ (t : Nat), t < 16 → ∀ w, (Instr.slice 9 (.string ⟨#[48, 49, 50, 51, 52, 53, 54, 55, 56, 57, 97, 98, 99, 100, 101, 102]⟩) (some (.int .u8 (t : Int))) (some (.int .u8 ((t : Int) + 1))) none).run Tryd.prog w = .ok (.string (digits.extract t (t + 1))) w := by
        intro t ht w
        rw [run_slice_string_if w 9 _ .u8 .u8 _ _ Tryd.underlying9, if_pos ⟨by omega, by show (t : Int) + 1 ≤ 16; omega⟩, if_pos ⟨by omega, by omega⟩]
        rfl
      have hd1 : ∀ w, (Instr.slice 9 (.string ⟨#[48, 49, 50, 51, 52, 53, 54, 55, 56, 57, 97, 98, 99, 100, 101, 102]⟩) (some (.int .u8 ((x.toNat : Int) / 16))) (some (.int .u8 ((x.toNat : Int) / 16 + 1))) none).run Tryd.prog w = .ok (.string (digits.extract (x.toNat / 16) (x.toNat / 16 + 1))) w := fun w => by
        have h := hd (x.toNat / 16) (by omega) w
        rw [Int.natCast_ediv] at h
        exact h
      have hd2 : ∀ w, (Instr.slice 9 (.string ⟨#[48, 49, 50, 51, 52, 53, 54, 55, 56, 57, 97, 98, 99, 100, 101, 102]⟩) (some (.int .u8 ((x.toNat : Int) % 16))) (some (.int .u8 ((x.toNat : Int) % 16 + 1))) none).run Tryd.prog w = .ok (.string (digits.extract (x.toNat % 16) (x.toNat % 16 + 1))) w := fun w => by
        have h := hd (x.toNat % 16) (by omega) w
        rw [Int.natCast_emod] at h
        exact h
      have hw1 : IntKind.u8.wrap ((x.toNat : Int) / 16 + 1) = (x.toNat : Int) / 16 + 1 := IntWalk.u8_in _ (by omega)
      have hw2 : IntKind.u8.wrap ((x.toNat : Int) % 16 + 1) = (x.toNat : Int) % 16 + 1 := IntWalk.u8_in _ (by omega)
      have hb15 : bits .and .u8 (x.toNat : Int) 15 = (x.toNat : Int) % 16 := u8_and15 (x.toNat : Int) (by omega) (by omega)
      have hz1 := size_digit (x.toNat / 16) (by omega)
      have hz2 := size_digit (x.toNat % 16) (by omega)
      clear hd
      generalize digits.extract (x.toNat / 16) (x.toNat / 16 + 1) = g1 at *
      generalize digits.extract (x.toNat % 16) (x.toNat % 16 + 1) = g2 at *
      have ha1 : ∀ w, (Op.stringOp .add s g1).run Tryd.prog w = .ok (.string (s ++ g1)) w := fun w => run_string_add_sum w s g1 (by omega)
      have ha2 : ∀ w, (Op.stringOp .add (s ++ g1) g2).run Tryd.prog w = .ok (.string (s ++ g1 ++ g2)) w := fun w => run_string_add_sum w (s ++ g1) g2 (by rw [ByteArray.size_append]; omega)
      clear hz1 hz2 hsz
      go_wp2_with fail
      go_quiet (fail)
      go_wp2_with fail
      go_roundg (gk - 1)
      case measure => omega
      case rel => exact ⟨k + 1, by omega, by go_num, by rw [HS.out], HR.out, below_drewN' HB.out⟩
    · obtain rfl : k = 32 := by omega
      clear hr hbel
      go_wp2_with fail
      go_ret
      exact ⟨rfl, HB.out⟩
end Go.Proofs.YtlgaikknodoilaaDoor.Sh
