/- A million bytes 97, block by block, for the kernel. -/
import Derived.Test.YtkfoalfnjeachaaDoorShFast
import Derived.Test.YtkfoalfnjeachaaDoorShHex
namespace Go.Proofs.YtkfoalfnjeachaaDoor.Sh
open Go

theorem many_add (b : Bs) (v : V8) (m n : Nat) : many b v (m + n) = many b (many b v m) n := by
  induction m generalizing v with
  | zero => rw [Nat.zero_add]; rfl
  | succ m ih => rw [Nat.succ_add, many, ih]; rfl
theorem many_succ (b : Bs) (v : V8) (n : Nat) : many b v (n + 1) = comp (many b v n) b := by
  rw [many_add]; rfl
theorem absorb_alike (x : UInt8) (n : Nat) : ∀ k, 64 * k ≤ n → absorb (List.replicate n x) k = many (List.replicate 64 x) first k := by
  intro k
  induction k with
  | zero => intro _; rfl
  | succ k ih =>
    intro h
    rw [absorb, ih (by omega), many_succ, List.drop_replicate, List.take_replicate, Nat.min_eq_left (by omega)]
theorem pack_inj1 {x y x' y' : Nat} (hy : y < 4294967296) (hy' : y' < 4294967296) (h : Nat.add (Nat.mul x 4294967296) y = Nat.add (Nat.mul x' 4294967296) y') : x = x' ∧ y = y' := by
  have h' : x * 4294967296 + y = x' * 4294967296 + y' := h
  omega
theorem pk_inj {v w : V8} (h : pk v = pk w) : v = w := by
  unfold pk pack at h
  obtain ⟨h, h7⟩ := pack_inj1 v.h.isLt w.h.isLt h
  obtain ⟨h, h6⟩ := pack_inj1 v.g.isLt w.g.isLt h
  obtain ⟨h, h5⟩ := pack_inj1 v.f.isLt w.f.isLt h
  obtain ⟨h, h4⟩ := pack_inj1 v.e.isLt w.e.isLt h
  obtain ⟨h, h3⟩ := pack_inj1 v.d.isLt w.d.isLt h
  obtain ⟨h, h2⟩ := pack_inj1 v.c.isLt w.c.isLt h
  obtain ⟨h0, h1⟩ := pack_inj1 v.b.isLt w.b.isLt h
  cases v
  cases w
  simp only [V8.mk.injEq]
  exact ⟨BitVec.eq_of_toNat_eq h0, BitVec.eq_of_toNat_eq h1, BitVec.eq_of_toNat_eq h2, BitVec.eq_of_toNat_eq h3, BitVec.eq_of_toNat_eq h4, BitVec.eq_of_toNat_eq h5, BitVec.eq_of_toNat_eq h6, BitVec.eq_of_toNat_eq h7⟩
def b64 : Bs := [97, 97, 97, 97, 97, 97, 97, 97, 97, 97, 97, 97, 97, 97, 97, 97, 97, 97, 97, 97, 97, 97, 97, 97, 97, 97, 97, 97, 97, 97, 97, 97, 97, 97, 97, 97, 97, 97, 97, 97, 97, 97, 97, 97, 97, 97, 97, 97, 97, 97, 97, 97, 97, 97, 97, 97, 97, 97, 97, 97, 97, 97, 97, 97]
theorem b64_eq : List.replicate 64 (97 : UInt8) = b64 := rfl
def kwA : List Nat := [2750124281, 3533219314, 4683095344, 5554781446, 2595759036, 3142742866, 4087407621, 4504535094, 5258152953, 1944370274, 2240997151, 3060653860, 3558850261, 3795850079, 4248659976, 4881994453, 7962470397, 8149304770, 1109373709, 1449834259, 1332383432, 1811277571, 5697566716, 4336890837, 4651386783, 7023905028, 4167673427, 6075095564, 3506461443, 6222891004, 3100717738, 957412701, 3211936012, 2525724465, 5192624004, 2750766458, 3733122911, 5785415788, 5302099131, 4510137934, 4494867471, 3051847127, 6841751890, 5493434369, 5416391400, 6288792078, 4206943767, 1385611443, 2838015846, 4615462549, 2870002303, 4911289699, 3868675357, 5105900214, 4192983651, 4114851946, 2567787456, 3518289627, 3043469264, 3431775655, 2875437985, 3700493388, 7133747437, 3572068108]
theorem kwA_eq (S : Nat) : ncomp kwA S = nblock b64 S := by kernel_rfl
theorem step_many {n k n' S T : Nat} (hn : n + k = n') (h : pk (many b64 first n) = S) (hr : niter kwA k S = T) : pk (many b64 first n') = T := by
  rw [← hn, many_add, ← niter_eq b64 kwA kwA_eq, h, hr]
theorem pk_first : pk (many b64 first 0) = 47962653771679561900652889051773562940742041696833059450490514104358170316057 := by kernel_rfl
end Go.Proofs.YtkfoalfnjeachaaDoor.Sh
