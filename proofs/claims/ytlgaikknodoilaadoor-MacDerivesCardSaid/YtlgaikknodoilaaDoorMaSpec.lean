/- HMAC, plainly. -/
import Derived.Test.YtlgaikknodoilaaDoorShSpec
namespace Go.Proofs.YtlgaikknodoilaaDoor.Sh
set_option linter.unusedVariables false
set_option linter.unusedSimpArgs false

/-- A key in 64 bytes. -/
def key64 (k : Bs) : Bs :=
  let k' := if 64 < k.length then sha k else k
  k' ++ List.replicate (64 - k'.length) 0
def xk (x : UInt8) (k : Bs) : Bs := (key64 k).map (· ^^^ x)
def hmac (k b : Bs) : Bs := sha (xk 0x5c k ++ sha (xk 0x36 k ++ b))

theorem length_key64 (k : Bs) : (key64 k).length = 64 := by
  unfold key64
  simp only [List.length_append, List.length_replicate]
  split
  · rw [length_sha]
  · omega
theorem length_xk (x : UInt8) (k : Bs) : (xk x k).length = 64 := by rw [xk, List.length_map, length_key64]
theorem length_hmac (k b : Bs) : (hmac k b).length = 32 := length_sha _
theorem key64_short (k : Bs) (h : k.length ≤ 64) : key64 k = k ++ List.replicate (64 - k.length) 0 := by
  unfold key64
  rw [if_neg (by omega)]
theorem key64_long (k : Bs) (h : 64 < k.length) : key64 k = sha k ++ List.replicate 32 0 := by
  unfold key64
  rw [if_pos h]
  simp only [length_sha]
theorem key64_more (k : Bs) (n : Nat) (h : k.length + n ≤ 64) : key64 (k ++ List.replicate n 0) = key64 k := by
  rw [key64_short k (by omega), key64_short _ (by rw [List.length_append, List.length_replicate]; exact h), List.append_assoc, List.length_append, List.length_replicate, List.replicate_append_replicate]
  congr 2
  omega
theorem key64_sha (k : Bs) (h : 64 < k.length) : key64 (sha k) = key64 k := by
  rw [key64_long k h, key64_short (sha k) (by rw [length_sha]; omega), length_sha]
theorem hmac_key (k k' b : Bs) (h : key64 k = key64 k') : hmac k b = hmac k' b := by unfold hmac xk; rw [h]
theorem hmac_more (k b : Bs) (n : Nat) (h : k.length + n ≤ 64) : hmac (k ++ List.replicate n 0) b = hmac k b := hmac_key _ _ _ (key64_more k n h)
theorem hmac_sha (k b : Bs) (h : 64 < k.length) : hmac (sha k) b = hmac k b := hmac_key _ _ _ (key64_sha k h)

/-- What Same sums up. -/
def diff (a b : Bs) : Nat → UInt8
  | 0 => 0
  | k + 1 => diff a b k ||| (a.getD k 0 ^^^ b.getD k 0)
theorem or_zero8 (x y : UInt8) : x ||| y = 0 ↔ x = 0 ∧ y = 0 := by
  constructor
  · intro h
    have h' : x.toBitVec ||| y.toBitVec = 0#8 := by rw [← UInt8.toBitVec_or, h]; rfl
    have e : ∀ i, x.toBitVec.getLsbD i = false ∧ y.toBitVec.getLsbD i = false := fun i => by
      have := congrArg (fun v => BitVec.getLsbD v i) h'
      simp only [BitVec.getLsbD_or, BitVec.getLsbD_zero, Bool.or_eq_false_iff] at this
      exact this
    exact ⟨UInt8.toBitVec_inj.1 (BitVec.eq_of_getLsbD_eq fun i _ => by rw [(e i).1]; simp), UInt8.toBitVec_inj.1 (BitVec.eq_of_getLsbD_eq fun i _ => by rw [(e i).2]; simp)⟩
  · rintro ⟨rfl, rfl⟩; rfl
theorem xor_zero8 (x y : UInt8) : x ^^^ y = 0 ↔ x = y := by
  constructor
  · intro h
    apply UInt8.toBitVec_inj.1
    apply BitVec.eq_of_getLsbD_eq
    intro i _
    have h' : x.toBitVec ^^^ y.toBitVec = 0#8 := by rw [← UInt8.toBitVec_xor, h]; rfl
    have := congrArg (fun v => BitVec.getLsbD v i) h'
    simp only [BitVec.getLsbD_xor, BitVec.getLsbD_zero] at this
    cases hx : x.toBitVec.getLsbD i <;> cases hy : y.toBitVec.getLsbD i <;> simp_all
  · rintro rfl
    apply UInt8.toBitVec_inj.1
    rw [UInt8.toBitVec_xor, BitVec.xor_self]; rfl
theorem diff_zero (a b : Bs) : ∀ n, diff a b n = 0 ↔ ∀ i, i < n → a.getD i 0 = b.getD i 0 := by
  intro n
  induction n with
  | zero => exact ⟨fun _ i h => absurd h (by omega), fun _ => rfl⟩
  | succ n ih =>
    rw [diff, or_zero8, ih, xor_zero8]
    constructor
    · rintro ⟨h1, h2⟩ i hi
      rcases Nat.lt_or_ge i n with h | h
      · exact h1 i h
      · obtain rfl : i = n := by omega
        exact h2
    · intro h
      exact ⟨fun i hi => h i (by omega), h n (by omega)⟩
theorem diff_eq (a b : Bs) (ha : a.length = 32) (hb : b.length = 32) : diff a b 32 = 0 ↔ a = b := by
  rw [diff_zero]
  constructor
  · intro h
    apply List.ext_getElem (by omega)
    intro i h1 h2
    have := h i (by omega)
    simpa [List.getD_eq_getElem?_getD, List.getElem?_eq_getElem h1, List.getElem?_eq_getElem h2] using this
  · rintro rfl i _; rfl
end Go.Proofs.YtlgaikknodoilaaDoor.Sh
