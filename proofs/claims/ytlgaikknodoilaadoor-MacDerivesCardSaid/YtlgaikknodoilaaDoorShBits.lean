/-
  How Go's arithmetic on 32-bit words and on bytes, as the walk leaves it, reads in the plain words.
-/
import Derived.Test.YtlgaikknodoilaaDoorShSpec
import Derived.WalkKit
namespace Go.Proofs.YtlgaikknodoilaaDoor.Sh
set_option linter.unusedVariables false
set_option linter.unusedSimpArgs false
open Go

def wv (x : W) : Value := .int .u32 (x.toNat : Int)
def bv (x : UInt8) : Value := .int .u8 (x.toNat : Int)

theorem u32_wrap_nat (n : Nat) : IntKind.u32.wrap (n : Int) = ((BitVec.ofNat 32 n).toNat : Int) := by
  rw [IntKind.wrap_u32, BitVec.toNat_ofNat]; exact (Int.natCast_emod n 4294967296).symm
theorem u32_add (x y : W) : IntKind.u32.wrap ((x.toNat : Int) + (y.toNat : Int)) = ((x + y).toNat : Int) := by
  rw [← Int.natCast_add, u32_wrap_nat]; simp
theorem u32_bits (x y : W) : bits .and .u32 (x.toNat : Int) (y.toNat : Int) = ((x &&& y).toNat : Int) ∧ bits .or .u32 (x.toNat : Int) (y.toNat : Int) = ((x ||| y).toNat : Int)
    ∧ bits .xor .u32 (x.toNat : Int) (y.toNat : Int) = ((x ^^^ y).toNat : Int) := by
  have h : ∀ z : W, BitVec.ofInt IntKind.u32.bits (z.toNat : Int) = z := by
    intro z
    rw [BitVec.ofInt_natCast]; exact BitVec.eq_of_toNat_eq (by rw [BitVec.toNat_ofNat]; exact Nat.mod_eq_of_lt z.isLt)
  have k : ∀ z : W, IntKind.u32.wrap (z.toNat : Int) = (z.toNat : Int) := by
    intro z; rw [IntKind.wrap_u32]; have := z.isLt; omega
  refine ⟨?_, ?_, ?_⟩ <;> (unfold bits; simp only [h]; exact k _)
theorem u32_and (x y : W) : bits .and .u32 (x.toNat : Int) (y.toNat : Int) = ((x &&& y).toNat : Int) := (u32_bits x y).1
theorem u32_or (x y : W) : bits .or .u32 (x.toNat : Int) (y.toNat : Int) = ((x ||| y).toNat : Int) := (u32_bits x y).2.1
theorem u32_xor (x y : W) : bits .xor .u32 (x.toNat : Int) (y.toNat : Int) = ((x ^^^ y).toNat : Int) := (u32_bits x y).2.2
theorem u32_not (x : W) : bits .xor .u32 4294967295 (x.toNat : Int) = ((~~~x).toNat : Int) := by
  have := u32_xor (4294967295#32) x
  rw [show ((4294967295#32 : W).toNat : Int) = 4294967295 from rfl] at this
  rw [this, show (4294967295#32 : W) = BitVec.allOnes 32 from rfl, BitVec.allOnes_xor]
theorem u32_shr (x : W) (n : Nat) (h : n ≤ 32) : (x.toNat : Int) / 2 ^ min (n : Int).toNat 32 = ((x >>> n).toNat : Int) := by
  rw [Int.toNat_natCast, Nat.min_eq_left h, BitVec.toNat_ushiftRight, Nat.shiftRight_eq_div_pow]; simp
theorem u32_shl (x : W) (n : Nat) (h : n ≤ 32) : IntKind.u32.wrap ((x.toNat : Int) * 2 ^ min (n : Int).toNat 32) = ((x <<< n).toNat : Int) := by
  rw [Int.toNat_natCast, Nat.min_eq_left h, show ((x.toNat : Int) * 2 ^ n) = ((x.toNat * 2 ^ n : Nat) : Int) from by simp, u32_wrap_nat]
  congr 1
  rw [BitVec.toNat_ofNat, BitVec.toNat_shiftLeft, Nat.shiftLeft_eq]
theorem u32_rotr (x : W) (n : Nat) (h : n ≤ 32) :
    bits .or .u32 ((x.toNat : Int) / 2 ^ min (n : Int).toNat 32) (IntKind.u32.wrap ((x.toNat : Int) * 2 ^ min (32 - (n : Int)).toNat 32)) = ((rotr x n).toNat : Int) := by
  rw [show (32 - (n : Int)) = ((32 - n : Nat) : Int) from by omega, u32_shr x n h, u32_shl x (32 - n) (by omega), u32_or]; rfl
theorem u32_rotr' (x : W) (n : Nat) (h : n ≤ 32) :
    bits .or .u32 ((x.toNat : Int) / 2 ^ n) ((x.toNat : Int) * 2 ^ (32 - n) % 4294967296) = ((rotr x n).toNat : Int) := by
  have := u32_rotr x n h
  rw [IntKind.wrap_u32, show (32 - (n : Int)).toNat = 32 - n from by omega, Int.toNat_natCast, Nat.min_eq_left h, Nat.min_eq_left (by omega)] at this
  exact this
theorem u32_shl' (x : W) (n : Nat) (h : n ≤ 32) (c : Int) (hc : c = 2 ^ n) : (x.toNat : Int) * c % 4294967296 = ((x <<< n).toNat : Int) := by
  have := u32_shl x n h
  rw [IntKind.wrap_u32, Int.toNat_natCast, Nat.min_eq_left h] at this
  rw [hc]; exact this
theorem u32_of_byte' (b : UInt8) : (b.toNat : Int) % 4294967296 = ((zx b).toNat : Int) := by rw [← IntKind.wrap_u32]; exact u32_wrap_nat _
theorem word_val (b0 b1 b2 b3 : UInt8) :
    bits .or .u32 (bits .or .u32 (bits .or .u32 ((b0.toNat : Int) % 4294967296 * 16777216 % 4294967296) ((b1.toNat : Int) % 4294967296 * 65536 % 4294967296)) ((b2.toNat : Int) % 4294967296 * 256 % 4294967296)) ((b3.toNat : Int) % 4294967296)
      = (((zx b0 <<< 24) ||| (zx b1 <<< 16) ||| (zx b2 <<< 8) ||| zx b3).toNat : Int) := by
  rw [u32_of_byte', u32_of_byte', u32_of_byte', u32_of_byte', u32_shl' _ 24 (by decide) 16777216 (by decide), u32_shl' _ 16 (by decide) 65536 (by decide), u32_shl' _ 8 (by decide) 256 (by decide), u32_or, u32_or, u32_or]
theorem u32_add' (x y : W) : ((x.toNat : Int) + (y.toNat : Int)) % 4294967296 = ((x + y).toNat : Int) := by rw [← IntKind.wrap_u32]; exact u32_add x y
theorem u32_shr' (x : W) (n : Nat) (h : n ≤ 32) (c : Int) (hc : c = 2 ^ n) : (x.toNat : Int) / c = ((x >>> n).toNat : Int) := by
  have := u32_shr x n h
  rw [Int.toNat_natCast, Nat.min_eq_left h] at this
  rw [hc]; exact this
theorem sched_val (e2 e7 e15 e16 : W) :
    (((bits .xor .u32 (bits .xor .u32 ((rotr e2 17).toNat : Int) ((rotr e2 19).toNat : Int)) ((e2.toNat : Int) / 1024) + (e7.toNat : Int)) % 4294967296
      + bits .xor .u32 (bits .xor .u32 ((rotr e15 7).toNat : Int) ((rotr e15 18).toNat : Int)) ((e15.toNat : Int) / 8)) % 4294967296 + (e16.toNat : Int)) % 4294967296
      = ((ss1 e2 + e7 + ss0 e15 + e16).toNat : Int) := by
  rw [u32_shr' e2 10 (by decide) 1024 (by decide), u32_shr' e15 3 (by decide) 8 (by decide), u32_xor, u32_xor, u32_xor, u32_xor, u32_add', u32_add', u32_add']
  rfl
theorem mod_three (a b c d : Int) : ((a + b + c) % 4294967296 + d) % 4294967296 = (((a + b) % 4294967296 + c) % 4294967296 + d) % 4294967296 := by omega
theorem sched_val' (e2 e7 e15 e16 : W) :
    ((bits .xor .u32 (bits .xor .u32 ((rotr e2 17).toNat : Int) ((rotr e2 19).toNat : Int)) ((e2.toNat : Int) / 1024) + (e7.toNat : Int)
      + bits .xor .u32 (bits .xor .u32 ((rotr e15 7).toNat : Int) ((rotr e15 18).toNat : Int)) ((e15.toNat : Int) / 8)) % 4294967296 + (e16.toNat : Int)) % 4294967296
      = ((ss1 e2 + e7 + ss0 e15 + e16).toNat : Int) := by
  rw [mod_three]; exact sched_val e2 e7 e15 e16
theorem u32_of_byte (b : UInt8) : IntKind.u32.wrap (b.toNat : Int) = ((zx b).toNat : Int) := u32_wrap_nat _

theorem t_val (h s c k w : W) : ((h.toNat : Int) + (s.toNat : Int) + (c.toNat : Int) + (k.toNat : Int) + (w.toNat : Int)) % 4294967296 = ((h + s + c + k + w).toNat : Int) := by
  rw [← u32_add', ← u32_add', ← u32_add', ← u32_add']; omega
theorem rnd_a_val (s : V8) (k w : W) :
    (((s.h.toNat : Int) + bits .xor .u32 (bits .xor .u32 ((rotr s.e 6).toNat : Int) ((rotr s.e 11).toNat : Int)) ((rotr s.e 25).toNat : Int)
        + bits .xor .u32 (s.g.toNat : Int) (bits .and .u32 (s.e.toNat : Int) (bits .xor .u32 (s.f.toNat : Int) (s.g.toNat : Int))) + (k.toNat : Int) + (w.toNat : Int)) % 4294967296
      + (bits .xor .u32 (bits .xor .u32 ((rotr s.a 2).toNat : Int) ((rotr s.a 13).toNat : Int)) ((rotr s.a 22).toNat : Int)
        + bits .or .u32 (bits .and .u32 (s.a.toNat : Int) (s.b.toNat : Int)) (bits .and .u32 (s.c.toNat : Int) (bits .or .u32 (s.a.toNat : Int) (s.b.toNat : Int)))) % 4294967296) % 4294967296
      = ((rnd s k w).a.toNat : Int) := by
  simp only [u32_xor, u32_and, u32_or]
  rw [t_val, u32_add', u32_add']
  rfl
theorem rnd_e_val (s : V8) (k w : W) :
    ((s.d.toNat : Int) + ((s.h.toNat : Int) + bits .xor .u32 (bits .xor .u32 ((rotr s.e 6).toNat : Int) ((rotr s.e 11).toNat : Int)) ((rotr s.e 25).toNat : Int)
        + bits .xor .u32 (s.g.toNat : Int) (bits .and .u32 (s.e.toNat : Int) (bits .xor .u32 (s.f.toNat : Int) (s.g.toNat : Int))) + (k.toNat : Int) + (w.toNat : Int)) % 4294967296) % 4294967296
      = ((rnd s k w).e.toNat : Int) := by
  simp only [u32_xor, u32_and]
  rw [t_val, u32_add']
  rfl
end Go.Proofs.YtlgaikknodoilaaDoor.Sh
