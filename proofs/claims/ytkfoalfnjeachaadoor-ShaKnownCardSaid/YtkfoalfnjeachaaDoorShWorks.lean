/- The contract of works: the chapter's three digests. -/
import Derived.Test.YtkfoalfnjeachaaDoorShHex
import Derived.Test.YtkfoalfnjeachaaDoorShStr
namespace Go.Proofs.YtkfoalfnjeachaaDoor.Sh
open Go Go.RowKit

def dig0 : Bs := [101, 51, 98, 48, 99, 52, 52, 50, 57, 56, 102, 99, 49, 99, 49, 52, 57, 97, 102, 98, 102, 52, 99, 56, 57, 57, 54, 102, 98, 57, 50, 52, 50, 55, 97, 101, 52, 49, 101, 52, 54, 52, 57, 98, 57, 51, 52, 99, 97, 52, 57, 53, 57, 57, 49, 98, 55, 56, 53, 50, 98, 56, 53, 53]
def dig1 : Bs := [98, 97, 55, 56, 49, 54, 98, 102, 56, 102, 48, 49, 99, 102, 101, 97, 52, 49, 52, 49, 52, 48, 100, 101, 53, 100, 97, 101, 50, 50, 50, 51, 98, 48, 48, 51, 54, 49, 97, 51, 57, 54, 49, 55, 55, 97, 57, 99, 98, 52, 49, 48, 102, 102, 54, 49, 102, 50, 48, 48, 49, 53, 97, 100]
def dig2 : Bs := [50, 52, 56, 100, 54, 97, 54, 49, 100, 50, 48, 54, 51, 56, 98, 56, 101, 53, 99, 48, 50, 54, 57, 51, 48, 99, 51, 101, 54, 48, 51, 57, 97, 51, 51, 99, 101, 52, 53, 57, 54, 52, 102, 102, 50, 49, 54, 55, 102, 54, 101, 99, 101, 100, 100, 52, 49, 57, 100, 98, 48, 54, 99, 49]
def abc : Bs := [97, 98, 99]
def long : ByteArray := ⟨#[97, 98, 99, 100, 98, 99, 100, 101, 99, 100, 101, 102, 100, 101, 102, 103, 101, 102, 103, 104, 102, 103, 104, 105, 103, 104, 105, 106, 104, 105, 106, 107, 105, 106, 107, 108, 106, 107, 108, 109, 107, 108, 109, 110, 108, 109, 110, 111, 109, 110, 111, 112, 110, 111, 112, 113]⟩
set_option maxRecDepth 1000000 in
theorem dig0_eq : hx (sha []) 32 = ⟨dig0.toArray⟩ := by decide +kernel
set_option maxRecDepth 1000000 in
theorem dig1_eq : hx (sha abc) 32 = ⟨dig1.toArray⟩ := by decide +kernel
set_option maxRecDepth 1000000 in
theorem dig2_eq : hx (sha long.data.toList) 32 = ⟨dig2.toArray⟩ := by decide +kernel

/-- A string that is another one, under a name of its own. -/
theorem eq_name (a : ByteArray) (l : Bs) (h : a = ⟨l.toArray⟩) : ∃ s, a = s ∧ (s.toList == l) = true := ⟨a, rfl, by rw [h, ByteArray.toList_eq]; exact beq_self_eq_true _⟩

set_option maxHeartbeats 4000000 in
theorem works_calls (w : World) (ht : Tab w) :
    Calls Tryd.prog 11 #[] w fun e w' => e = .returned (.bool true) ∧ Below w.heap.size w w' := by
  obtain ⟨s0, hs0, q0⟩ := eq_name _ _ dig0_eq
  obtain ⟨s1, hs1, q1⟩ := eq_name _ _ dig1_eq
  obtain ⟨s2, hs2, q2⟩ := eq_name _ _ dig2_eq
  have S0 := Lib.hid hs0
  have S1 := Lib.hid hs1
  have S2 := Lib.hid hs2
  clear hs0 hs1 hs2
  unfold dig0 at q0
  unfold dig1 at q1
  unfold dig2 at q2
  have kc := fun (w : World) (C : Array Value) (n c : Nat) => Lib.run_convert_bytes_const (P := Tryd.prog) w 25 5 C n c Tryd.underlying25 Tryd.underlying5
  go_enter Tryd.func11, Tryd.ntmps11
  go_wp2_with (go_at_call 10; refine (shaSum_calls (.slice none 0 0) [] w ht RD.nil (by simp)).mono ?_; rintro e w1 ⟨rfl, hb1⟩)
  have t1 := Lib.hid (ht.below hb1 ht.lt)
  replace hb1 := Lib.hid hb1
  go_wp2_with (go_at_call 19; refine (hex_calls (sha []) (length_sha _) w1).mono ?_; rintro e w2 ⟨rfl, hb2⟩; rw [S0.out])
  have t2 := Lib.hid (t1.out.below hb2 t1.out.lt)
  replace hb2 := Lib.hid (hb1.out.trans (hb2.mono hb1.out.size))
  clear hb1 t1
  have r2 : RD ((w2.alloc (.cells #[.int .u8 97, .int .u8 98, .int .u8 99] 5 (3, 4))).heap.size) (w2.alloc (.cells #[.int .u8 97, .int .u8 98, .int .u8 99] 5 (3, 4))) (.slice (some ⟨w2.heap.size, 0, none⟩) 3 3) abc := (rd_marked w2 abc (by decide) (3, 4)).mono (by simp)
  have R2 := Lib.hid r2
  clear r2
  go_wp2_with (go_at_call 10; refine (shaSum_calls _ abc _ (t2.out.alloc _) R2.out (by decide)).mono ?_; rintro e w3 ⟨rfl, hb3⟩)
  simp only [World.size_alloc] at hb3
  have t3 := Lib.hid ((t2.out.alloc (.cells #[.int .u8 97, .int .u8 98, .int .u8 99] 5 (3, 4))).below hb3 (by have := t2.out.lt; omega))
  replace hb3 := Lib.hid (hb2.out.trans (((Below.refl _ _).alloc (Nat.le_refl _) _).trans (hb3.mono (by omega)) |>.mono hb2.out.size))
  clear hb2 R2 kc
  go_wp2_with (go_at_call 19; refine (hex_calls (sha abc) (length_sha _) w3).mono ?_; rintro e w4 ⟨rfl, hb4⟩; rw [S1.out])
  have t4 := Lib.hid (t3.out.below hb4 t3.out.lt)
  replace hb4 := Lib.hid (hb3.out.trans (hb4.mono hb3.out.size))
  clear hb3 t3
  obtain ⟨v5, w5, hr5, hv5, hb5⟩ := run_str_bytes (P := Tryd.prog) Tryd.underlying9 Tryd.underlying25 Tryd.underlying5 long (by decide) w4
  have t5 := Lib.hid (t4.out.below hb5 t4.out.lt)
  replace hb5 := Lib.hid (hb4.out.trans (hb5.mono hb4.out.size))
  replace hv5 := Lib.hid hv5
  clear hb4 t4
  unfold long at hr5
  go_wp2_with (go_at_call 10; refine (shaSum_calls _ _ _ t5.out hv5.out (by decide)).mono ?_; rintro e w6 ⟨rfl, hb6⟩)
  have t6 := Lib.hid (t5.out.below hb6 t5.out.lt)
  replace hb6 := Lib.hid (hb5.out.trans (hb6.mono hb5.out.size))
  clear hb5 t5 hr5
  go_wp2_with (go_at_call 19; refine (hex_calls _ (length_sha _) w6).mono ?_; rintro e w7 ⟨rfl, hb7⟩; rw [S2.out])
  replace hb7 := Lib.hid (hb6.out.trans (hb7.mono hb6.out.size))
  go_wp2_with fail
  go_ret
  exact ⟨rfl, hb7.out⟩
end Go.Proofs.YtkfoalfnjeachaaDoor.Sh
