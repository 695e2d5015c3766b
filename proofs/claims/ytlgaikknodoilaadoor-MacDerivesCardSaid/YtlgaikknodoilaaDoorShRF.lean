/- Cuts of a row that lies in given blocks; append in place; make with room. -/
import Derived.Test.YtlgaikknodoilaaDoorShHb
import Derived.Test.YtlgaikknodoilaaDoorShApp
import Derived.Test.YtlgaikknodoilaaDoorShLH
namespace Go.Proofs.YtlgaikknodoilaaDoor.Sh
set_option linter.unusedVariables false
set_option linter.unusedSimpArgs false
open Go Go.RowKit

theorem RF.form {F : Nat → Prop} {w : World} {v : Value} {xs : List Value} (h : RF F w v xs) : ∃ a c, v = .slice a xs.length c ∧ xs.length ≤ c ∧ c ≤ maxLen := by
  obtain ⟨a, c, h1, h2, h3, _⟩ := h
  exact ⟨a, c, h1, h2, h3⟩
theorem RF.cut {F : Nat → Prop} {w : World} {a : Option Addr} {n c : Nat} {xs : List Value} (h : RF F w (.slice a n c) xs) (l hi m : Nat) (h1 : l ≤ hi) (h2 : hi ≤ n) (h3 : hi ≤ m) (h4 : m ≤ c) :
    RF F w (sliced a l hi m 1) ((xs.drop l).take (hi - l)) := by
  obtain ⟨a0, c0, e0, hn0, hc0, hnone, hcells⟩ := h
  obtain ⟨rfl, rfl, rfl⟩ : a = a0 ∧ n = xs.length ∧ c = c0 := by simpa using e0
  have hl : ((xs.drop l).take (hi - l)).length = hi - l := by simp; omega
  refine ⟨_, m - l, by rw [hl]; rfl, by omega, by omega, ?_, fun hne => ?_⟩
  · intro hz
    split at hz
    · omega
    · cases a with
      | none => have := hnone rfl; omega
      | some a => simp at hz
  · have hpos : 0 < hi - l := by
      rcases Nat.eq_zero_or_pos (hi - l) with h0 | h0
      · rw [h0] at hne; simp at hne
      · exact h0
    have hx : xs ≠ [] := by intro e; subst e; simp at h2; omega
    obtain ⟨b, o, rfl, hB, hr⟩ := hcells hx
    refine ⟨b, o + l, ?_, hB, fun j u hu => ?_⟩
    · rw [if_neg (by omega)]
      simp [Addr.add_lit]
    · rw [List.getElem?_take, List.getElem?_drop] at hu
      split at hu
      · rw [Nat.add_assoc]; exact hr (l + j) u hu
      · cases hu
/-- What a slice's parts are, as rows of bytes. -/
def Part (u : Value) (v : Value) (f : Bs → Bs) : Prop := ∀ (F : Nat → Prop) (w : World) (m : Bs), RF F w v (m.map bv) → RF F w u ((f m).map bv)
theorem Part.rd {u v : Value} {f : Bs → Bs} (h : Part u v f) {B : Nat} {w : World} {m : Bs} (hm : RD B w v m) : RD B w u (f m) := h (fun b => b < B) w m hm
section
variable {P : Program} {T E : TypeId} {bytes : Nat}
theorem part_from (hE : Elem P T E bytes) {a : Option Addr} {n c : Nat} (k : IntKind) (l : Nat) (h : l ≤ n) (hc : n ≤ c) :
    ∃ u, (∀ w, (Instr.slice T (.slice a n c) (some (.int k (l : Int))) none none).run P w = .ok u w) ∧ Part u (.slice a n c) (fun m => m.drop l) := by
  obtain ⟨ht, i, z, hi, _, hs, _, _⟩ := hE
  have ht' : P.underlying T = some (.slice (P.elem T)) := by rw [ht]; simp [Program.elem, ht]
  have he : P.elem T = E := by simpa [ht] using ht'.symm
  refine ⟨sliced a l n c 1, fun w => ?_, fun F w xs hv => ?_⟩
  · rw [run_slice_l (P := P) w T a n c ht' k (l : Int) (by omega) (by omega)]
    simp [he, sizeOf, typeInfo, hi, hs, Result.andThen]
  · have hn : xs.length = n := by obtain ⟨a0, c0, e0, _⟩ := hv; simp at e0; omega
    have := RF.cut hv l n c h (Nat.le_refl _) hc (Nat.le_refl _)
    rwa [List.take_of_length_le (by simp; omega), ← List.map_drop] at this
theorem part_to (hE : Elem P T E bytes) {a : Option Addr} {n c : Nat} (k : IntKind) (h : Nat) (hn : h ≤ n) (hc : n ≤ c) :
    ∃ u, (∀ w, (Instr.slice T (.slice a n c) none (some (.int k (h : Int))) none).run P w = .ok u w) ∧ Part u (.slice a n c) (fun m => m.take h) := by
  obtain ⟨ht, i, z, hi, _, hs, _, _⟩ := hE
  have ht' : P.underlying T = some (.slice (P.elem T)) := by rw [ht]; simp [Program.elem, ht]
  have he : P.elem T = E := by simpa [ht] using ht'.symm
  refine ⟨sliced a 0 h c 1, fun w => ?_, fun F w xs hv => ?_⟩
  · rw [run_slice_h (P := P) w T a n c ht' k (h : Int) (by omega) (by omega)]
    simp [he, sizeOf, typeInfo, hi, hs, Result.andThen]
  · have := RF.cut hv 0 h c (Nat.zero_le _) hn (by omega) (Nat.le_refl _)
    rw [List.drop_zero, Nat.sub_zero, ← List.map_take] at this
    exact this
theorem part_both (hE : Elem P T E bytes) {a : Option Addr} {n c : Nat} (k k' : IntKind) (l h : Nat) (hl : l ≤ h) (hn : h ≤ n) (hc : n ≤ c) :
    ∃ u, (∀ w, (Instr.slice T (.slice a n c) (some (.int k (l : Int))) (some (.int k' (h : Int))) none).run P w = .ok u w) ∧ Part u (.slice a n c) (fun m => (m.drop l).take (h - l)) := by
  obtain ⟨ht, i, z, hi, _, hs, _, _⟩ := hE
  have ht' : P.underlying T = some (.slice (P.elem T)) := by rw [ht]; simp [Program.elem, ht]
  have he : P.elem T = E := by simpa [ht] using ht'.symm
  refine ⟨sliced a l h c 1, fun w => ?_, fun F w xs hv => ?_⟩
  · rw [run_slice_lh (P := P) w T a n c ht' k k' (l : Int) (h : Int) (by omega) (by omega) (by omega)]
    simp [he, sizeOf, typeInfo, hi, hs, Result.andThen]
  · have := RF.cut hv l h c hl hn (by omega) (Nat.le_refl _)
    rwa [← List.map_drop, ← List.map_take] at this

/-- append where there is room: the block is written, no other. -/
theorem run_append_exact (hE : Elem P T E bytes) (ty : TypeId) {w : World} (g n c : Nat) (old : Array Value) (t : TypeId) (hb : w.heap[g]? = some (.cells old t (0, 0))) {B : Nat} {xv : Value} {ys : List Value} (hy : RV B w xv ys) (hne : ys ≠ [])
    (h1 : ∀ u ∈ ys, u.oneCell' = true) (hroom : n + ys.length ≤ c) (hsz : n + ys.length ≤ old.size) :
    ∃ w', (Builtin.append_ #[T, T] ty #[.slice (some ⟨g, 0, none⟩) n c, xv]).run P w = .ok (.slice (some ⟨g, 0, none⟩) (n + ys.length) c) w' ∧ Upd g (.cells (put old n ys.toArray) t (0, 0)) w w' := by
  obtain ⟨ht, i, z, hi, hz, hs, hby, hzc⟩ := hE
  obtain ⟨a1, c1, rfl, hn1, hc1, hnone1, hcells1⟩ := hy
  obtain ⟨b1, o1, rfl, hB1, hr1⟩ := hcells1 hne
  have hnews : ∀ j u, ys[j]? = some u → w.cell? ((⟨b1, o1, none⟩ : Addr).add j) = some u := fun j u hu => by rw [Addr.add_mid]; exact hr1 j u hu
  refine ⟨_, ?_, upd_setRow g t old (put old n ys.toArray) hb⟩
  have hfc := run_firstCells_some (P := P) w i.size ys.length ⟨b1, o1, none⟩ ys.length c1 ys (by rw [hs]; omega) hnews
  have hst := run_storeCells_at P g n t ys 0 old w hb (by simpa using hsz) (fun x hx => h1 x hx)
  simp only [Nat.add_zero] at hst
  rw [hs] at hfc
  simp [Builtin.append_, run_underlying ht, sizeOf, typeInfo, hi, Builtin.lenOf, hroom, hfc, Addr.add_lit, hs, hst, put]
end
theorem put_room (a x r : List Value) (hr : x.length ≤ r.length) : put (a ++ r).toArray a.length x.toArray = (a ++ x ++ r.drop x.length).toArray := by
  unfold put
  simp only [List.size_toArray]
  congr 1
  rw [List.take_left', List.drop_append]
  · congr 1
    rw [List.drop_of_length_le (by omega), List.nil_append]
    congr 1; omega
  · rfl
/-- make([]byte, 0, n). -/
theorem run_make0 (n : Nat) (hn : n ≤ 140737488355328) (w : World) : (Instr.makeSlice 22 (.int .i64 0) (.int .i64 (n : Int))).run Tryd.prog w = .ok (.slice (some ⟨w.heap.size, 0, none⟩) 0 n) (w.alloc (.cells (Z n) 5)) := by
  obtain ⟨i, hi, hz0, hz1, hz2⟩ := info_parts (P := Tryd.prog) (e := 5) (z := .int .u8 0) (size := 1) (bytes := 1) (by kernel_rfl)
  have h := run_make (P := Tryd.prog) w 22 5 i _ Tryd.underlying22 hi hz0 .i64 .i64 (0 : Int) (n : Int) (by omega) (by omega) (by rw [hz2]; omega) (by omega)
  rw [h]
  simp only [Int.toNat_natCast, hz1, Nat.mul_one]
  have : madeCells (Value.cells (.int .u8 0)) n = Z n := by
    apply Array.ext'
    rw [show Value.cells (.int .u8 0) = #[.int .u8 0] from rfl, toList_madeCells_one]
    unfold Z
    rw [List.map_replicate]
    rfl
  rw [this]; rfl
/-- A row of bytes, its first ones written, the others noughts. -/
def OB (m : Bs) (n : Nat) : Array Value := (m.map bv ++ List.replicate (n - m.length) (bv 0)).toArray
theorem OB_nil (n : Nat) : OB [] n = Z n := by unfold OB Z; simp
theorem OB_full (m : Bs) : OB m m.length = (m.map bv).toArray := by unfold OB; simp
theorem size_OB (m : Bs) (n : Nat) (h : m.length ≤ n) : (OB m n).size = n := by unfold OB; simp; omega
theorem OB_push (m x : Bs) (n : Nat) (h : m.length + x.length ≤ n) : put (OB m n) m.length (x.map bv).toArray = OB (m ++ x) n := by
  unfold OB
  rw [show m.length = (m.map bv).length by rw [List.length_map], put_room _ _ _ (by simp; omega)]
  simp only [List.map_append, List.length_map, List.length_append, List.drop_replicate]
  congr 3; omega
end Go.Proofs.YtlgaikknodoilaaDoor.Sh
