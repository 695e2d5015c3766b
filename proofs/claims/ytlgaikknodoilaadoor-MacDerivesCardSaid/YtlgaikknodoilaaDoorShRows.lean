/-
  A slice that reads as a list of one-cell values; append onto a slice that is full, onto a slice that the call owns; over any program.
-/
import Derived.Test.YtlgaikknodoilaaDoorShLaws
import Derived.Laws.OwnMore
import Derived.ArgAppend
import Derived.Deep.Draws
namespace Go.Proofs.YtlgaikknodoilaaDoor.Sh
set_option linter.unusedVariables false
set_option linter.unusedSimpArgs false
open Go Go.RowKit

/-- A slice value, its cells below block B, that reads as xs. -/
def RV (B : Nat) (w : World) (v : Value) (xs : List Value) : Prop :=
  ∃ (a : Option Addr) (c : Nat), v = .slice a xs.length c ∧ xs.length ≤ c ∧ c ≤ maxLen ∧ (a = none → c = 0) ∧
    (xs ≠ [] → ∃ b o, a = some ⟨b, o, none⟩ ∧ b < B ∧ w.rangeAt b o xs)

theorem RV.mono {B B' : Nat} {w : World} {v : Value} {xs : List Value} (h : RV B w v xs) (hB : B ≤ B') : RV B' w v xs := by
  obtain ⟨a, c, h1, h2, h3, h4, h5⟩ := h
  exact ⟨a, c, h1, h2, h3, h4, fun hm => let ⟨b, o, e, hb, hc⟩ := h5 hm; ⟨b, o, e, Nat.lt_of_lt_of_le hb hB, hc⟩⟩
theorem RV.same {B : Nat} {w w' : World} {v : Value} {xs : List Value} (h : RV B w v xs) (hb : ∀ b o u, b < B → w.cell? ⟨b, o, none⟩ = some u → u ∈ xs → w'.heap[b]? = w.heap[b]?) : RV B w' v xs := by
  obtain ⟨a, c, h1, h2, h3, h4, h5⟩ := h
  refine ⟨a, c, h1, h2, h3, h4, fun hm => ?_⟩
  obtain ⟨b, o, e, hB, hc⟩ := h5 hm
  refine ⟨b, o, e, hB, fun j u hu => ?_⟩
  have h0 := hc j u hu
  rw [World.cell?_of_block (w := w) (hb b (o + j) u hB h0 (List.mem_of_getElem? hu))]
  exact h0
theorem RV.below {B : Nat} {w w' : World} {v : Value} {xs : List Value} (h : RV B w v xs) (hb : Below B w w') : RV B w' v xs :=
  h.same fun b _ _ hB _ _ => hb.block b hB
theorem RV.len {B : Nat} {w : World} {v : Value} {xs : List Value} (h : RV B w v xs) : xs.length ≤ maxLen := by
  obtain ⟨a, c, h1, h2, h3, _⟩ := h; omega
theorem RV.nil {B : Nat} {w : World} : RV B w (.slice none 0 0) [] := ⟨none, 0, rfl, Nat.le_refl _, Nat.zero_le _, fun _ => rfl, fun h => absurd rfl h⟩
theorem RV.empty {B : Nat} {w : World} {a : Addr} {c : Nat} (hc : c ≤ maxLen) : RV B w (.slice (some a) 0 c) [] := ⟨some a, c, rfl, Nat.zero_le _, hc, by simp, fun h => absurd rfl h⟩

theorem RV.full {B : Nat} {w : World} {a : Option Addr} {n c : Nat} {xs : List Value} (h : RV B w (.slice a n c) xs) : RV B w (.slice a n n) xs := by
  obtain ⟨a0, c0, e0, hn0, hc0, hnone, hcells⟩ := h
  obtain ⟨rfl, rfl, rfl⟩ : a = a0 ∧ n = xs.length ∧ c = c0 := by simpa using e0
  exact ⟨a, xs.length, rfl, Nat.le_refl _, by omega, fun e => by have := hnone e; omega, hcells⟩
theorem RV.drew {B : Nat} {w : World} {v : Value} {xs : List Value} (h : RV B w v xs) : RV B w.drew v xs := h.same fun _ _ _ _ _ _ => rfl
theorem RV.drewN {B : Nat} {w : World} {v : Value} {xs : List Value} (h : RV B w v xs) (n : Nat) : RV B (w.drewN n) v xs := h.same fun _ _ _ _ _ _ => rfl

/-- What is owned reads. -/
theorem RV.of_owns {w : World} {base : Nat} {e : TypeId} {v : Value} {n : Nat} {xs : List Value} (h : w.ownsRow base e 1 v n xs) : RV w.heap.size w v xs := by
  obtain ⟨hl, h⟩ := h
  rcases h with ⟨rfl, rfl⟩ | ⟨g, cap, cur, rfl, hg, hh, hn, hc, hs, ht⟩
  · have : xs = [] := List.length_eq_zero_iff.1 (by simpa using hl)
    subst this; exact RV.nil
  · have hn' : n = xs.length := by omega
    subst hn'
    refine ⟨_, cap, rfl, hn, hc, by simp, fun _ => ⟨g, 0, rfl, lt_of_heap hh, fun j u hu => ?_⟩⟩
    have hj := (List.getElem?_eq_some_iff.1 hu).1
    rw [cell_of_row w g (0 + j) cur e _ hh]
    rw [← ht, List.getElem?_take, if_pos (by omega)] at hu
    simpa using hu

/-- The element's row of the table. -/
def Elem (P : Program) (T E : TypeId) (bytes : Nat) : Prop :=
  P.underlying T = some (.slice E) ∧ ∃ i z, P.info? E = some i ∧ i.zero = some z ∧ i.size = 1 ∧ i.bytes = bytes ∧ z.cells.size = 1

section
variable {P : Program} {w : World}

theorem ownsRow_free {base : Nat} {e : TypeId} : w.ownsRow base e 1 (.slice none 0 0) 0 [] := ⟨rfl, .inl ⟨rfl, rfl⟩⟩

/-- append onto a slice whose capacity is its length. -/
theorem run_append_full {T E : TypeId} {bytes : Nat} (hE : Elem P T E bytes) (ty : TypeId) {B : Nat} {a : Option Addr} {n : Nat} {x : Value} {xs ys : List Value}
    (hv : RV B w (.slice a n n) xs) (hy : RV B w x ys) (h1 : ∀ u ∈ ys, u.oneCell' = true) (h63 : xs.length + ys.length ≤ maxLen) (hb : (xs.length + ys.length) * bytes ≤ 140737488355328) :
    ∃ v' w', (Builtin.append_ #[T, T] ty #[.slice a n n, x]).run P w = .ok v' w' ∧ w.grownBy w' none ∧
      ((ys = [] ∧ v' = .slice a n n ∧ w' = w) ∨ (w'.ownsRow w.heap.size E 1 v' (xs.length + ys.length) (xs ++ ys))) := by
  obtain ⟨ht, i, z, hi, hz, hs, hby, hzc⟩ := hE
  obtain ⟨a0, c0, e0, hn0, hc0, hnone, hcells⟩ := hv
  obtain ⟨rfl, rfl, rfl⟩ : a = a0 ∧ n = xs.length ∧ n = c0 := by simpa using e0
  obtain ⟨a1, c1, rfl, hn1, hc1, hnone1, hcells1⟩ := hy
  have self : w.grownBy w none := ⟨rfl, rfl, rfl, Nat.le_refl _, fun _ _ _ => rfl⟩
  by_cases hys : ys = []
  · subst hys
    refine ⟨_, w, ?_, self, .inl ⟨rfl, rfl, rfl⟩⟩
    cases a1 with
    | none => cases a <;> simp [Builtin.append_, run_underlying ht, sizeOf, typeInfo, hi, Builtin.lenOf, Builtin.firstCells, storeCells]
    | some a1 => cases a <;> simp [Builtin.append_, run_underlying ht, sizeOf, typeInfo, hi, Builtin.lenOf, Builtin.firstCells, storeCells, loadCells, loadCellsFrom]
  · obtain ⟨b1, o1, rfl, hB1, hr1⟩ := hcells1 hys
    have hpos : 0 < ys.length := by cases ys <;> simp_all
    have hnews : ∀ j u, ys[j]? = some u → w.cell? ((⟨b1, o1, none⟩ : Addr).add j) = some u := fun j u hu => by rw [Addr.add_mid]; exact hr1 j u hu
    cases a with
    | none =>
      have h0 := hnone rfl
      have : xs = [] := List.length_eq_zero_iff.1 h0
      subst this
      obtain ⟨v', w', hr, ho, hg, _⟩ := run_append_own (P := P) w w.heap.size T ty E i z 1 bytes ht hi hz hs hby hzc (by omega) (.slice none 0 0) 0 [] ownsRow_free ⟨b1, o1, none⟩ ys.length c1 ys (by omega) hnews h1 (by simpa using h63) (by simpa using hb) (Nat.le_refl _)
      exact ⟨v', w', hr, hg, .inr ho⟩
    | some a =>
      have holds : ∀ j u, xs[j]? = some u → w.cell? (a.add j) = some u := fun j u hu => by
        have hne : xs ≠ [] := by intro e; subst e; simp at hu
        obtain ⟨b, o, e, _, hr⟩ := hcells hne
        obtain rfl : a = ⟨b, o, none⟩ := by simpa using e
        rw [Addr.add_mid]; exact hr j u hu
      obtain ⟨v', w', hr, ho, hg⟩ := run_append_arg_grows (P := P) w T ty E i z 1 bytes ht hi hz hs hby hzc (by omega) a xs.length xs.length xs (by omega) holds ⟨b1, o1, none⟩ ys.length c1 ys (by omega) hnews (by omega) h63 hb
      exact ⟨v', w', hr, hg, .inr ho⟩

/-- append onto a slice that the call owns (or that is nil). -/
theorem run_append_mine {T E : TypeId} {bytes : Nat} (hE : Elem P T E bytes) (ty : TypeId) {base : Nat} {v : Value} {n : Nat} {x : Value} {xs ys : List Value}
    (hv : w.ownsRow base E 1 v n xs) (hbase : base ≤ w.heap.size) {B : Nat} (hy : RV B w x ys) (h1 : ∀ u ∈ ys, u.oneCell' = true) (h63 : n + ys.length ≤ maxLen) (hb : (n + ys.length) * bytes ≤ 140737488355328) :
    ∃ v' w', (Builtin.append_ #[T, T] ty #[v, x]).run P w = .ok v' w' ∧ w.grownBy w' v.ownBlock ∧ w'.ownsRow base E 1 v' (n + ys.length) (xs ++ ys) := by
  obtain ⟨ht, i, z, hi, hz, hs, hby, hzc⟩ := hE
  obtain ⟨a1, c1, rfl, hn1, hc1, hnone1, hcells1⟩ := hy
  cases a1 with
  | none =>
    have h0 := hnone1 rfl
    have : ys = [] := List.length_eq_zero_iff.1 (by omega)
    subst this
    subst h0
    exact ⟨v, w, run_append_owned_none (P := P) w base T ty E i 1 ht hi v n xs hv, ⟨rfl, rfl, rfl, Nat.le_refl _, fun _ _ _ => rfl⟩, by simpa using hv⟩
  | some a1 =>
    have hnews : ∀ j u, ys[j]? = some u → w.cell? (a1.add j) = some u := fun j u hu => by
      have hne : ys ≠ [] := by intro e; subst e; simp at hu
      obtain ⟨b, o, e, _, hr⟩ := hcells1 hne
      obtain rfl : a1 = ⟨b, o, none⟩ := by simpa using e
      rw [Addr.add_mid]; exact hr j u hu
    obtain ⟨v', w', hr, ho, hg, _⟩ := run_append_own (P := P) w base T ty E i z 1 bytes ht hi hz hs hby hzc (by omega) v n xs hv a1 ys.length c1 ys (by omega) hnews h1 h63 hb hbase
    exact ⟨v', w', hr, hg, ho⟩

theorem wp_append_of {op : Oper} {a : Act} {K : Act → World → Prop} {Q : Exit → Act → World → Prop} (s x : Operand) (T : TypeId)
    (ho : op.op = .call { callee := .builtin .append, args := #[s, x], argTypes := #[T, T] }) {v' : Value} {w' : World} {sv xv : Value} (hs : a.eval s = sv) (hx : a.eval x = xv)
    (hr : (Builtin.append_ #[T, T] op.type #[sv, xv]).run P w = .ok v' w') (h : K (a.put op.dst v') w') : op.wp P a w K Q := by
  unfold Oper.wp
  simp [execOp, ho, resolve, invoke, builtin, hs, hx, hr, Result.andThen]
  exact h

theorem wpList_append_full {ops : Array Oper} {rest : List Oper} {op : Oper} {a : Act} {Q : Exit → Act → World → Prop} (hgd : op.guard = none) (s x : Operand) (T : TypeId)
    (ho : op.op = .call { callee := .builtin .append, args := #[s, x], argTypes := #[T, T] }) {E : TypeId} {bytes : Nat} (hE : Elem P T E bytes) {sv xv : Value} (hs : a.eval s = sv) (hx : a.eval x = xv)
    {B : Nat} {ad : Option Addr} {n : Nat} {xs ys : List Value} (hsv : sv = .slice ad n n)
    (hv : RV B w sv xs) (hy : RV B w xv ys) (h1 : ∀ u ∈ ys, u.oneCell' = true) (h63 : xs.length + ys.length ≤ maxLen) (hb : (xs.length + ys.length) * bytes ≤ 140737488355328)
    (h : ∀ v' w', w.grownBy w' none → ((ys = [] ∧ v' = sv ∧ w' = w) ∨ (w'.ownsRow w.heap.size E 1 v' (xs.length + ys.length) (xs ++ ys))) → wpList P ops Q rest (a.put op.dst v') w') : wpList P ops Q (op :: rest) a w := by
  subst hsv
  obtain ⟨v', w', hr, hg, hd⟩ := run_append_full (P := P) hE op.type hv hy h1 h63 hb
  exact wpList_plain hgd fun _ hK => wp_append_of s x T ho hs hx hr (hK _ _ (h v' w' hg hd))

theorem wpList_append_mine {ops : Array Oper} {rest : List Oper} {op : Oper} {a : Act} {Q : Exit → Act → World → Prop} (hgd : op.guard = none) (s x : Operand) (T : TypeId)
    (ho : op.op = .call { callee := .builtin .append, args := #[s, x], argTypes := #[T, T] }) {E : TypeId} {bytes : Nat} (hE : Elem P T E bytes) {sv xv : Value} (hs : a.eval s = sv) (hx : a.eval x = xv)
    {base : Nat} {n : Nat} {xs ys : List Value} (hv : w.ownsRow base E 1 sv n xs) (hbase : base ≤ w.heap.size) {B : Nat} (hy : RV B w xv ys) (h1 : ∀ u ∈ ys, u.oneCell' = true) (h63 : n + ys.length ≤ maxLen)
    (hb : (n + ys.length) * bytes ≤ 140737488355328)
    (h : ∀ v' w', w.grownBy w' sv.ownBlock → w'.ownsRow base E 1 v' (n + ys.length) (xs ++ ys) → wpList P ops Q rest (a.put op.dst v') w') : wpList P ops Q (op :: rest) a w := by
  obtain ⟨v', w', hr, hg, hd⟩ := run_append_mine (P := P) hE op.type hv hbase hy h1 h63 hb
  exact wpList_plain hgd fun _ hK => wp_append_of s x T ho hs hx hr (hK _ _ (h v' w' hg hd))
end

theorem grown_below {w w' : World} {r : Option Nat} (h : w.grownBy w' r) {B : Nat} (hB : B ≤ w.heap.size) (hr : ∀ k, r = some k → B ≤ k) : Below B w w' := (Below.refl B w).grown h hB hr
theorem grown_none {w w' : World} (h : w.grownBy w' none) : Below w.heap.size w w' := grown_below h (Nat.le_refl _) (fun _ e => by cases e)

/-- A slice of a slice. -/
theorem RV.cut {B : Nat} {w : World} {a : Option Addr} {n c : Nat} {xs : List Value} (h : RV B w (.slice a n c) xs) (l hi m : Nat) (h1 : l ≤ hi) (h2 : hi ≤ n) (h3 : hi ≤ m) (h4 : m ≤ c) :
    RV B w (sliced a l hi m 1) ((xs.drop l).take (hi - l)) := by
  obtain ⟨a0, c0, e0, hn0, hc0, hnone, hcells⟩ := h
  obtain ⟨rfl, rfl, rfl⟩ : a = a0 ∧ n = xs.length ∧ c = c0 := by simpa using e0
  have hl : ((xs.drop l).take (hi - l)).length = hi - l := by simp; omega
  refine ⟨_, m - l, by rw [hl]; rfl, by omega, by omega, ?_, fun hne => ?_⟩
  · intro hz
    split at hz
    · omega
    · cases a with
      | none => have := hnone rfl; omega
      | some a => simp at hz
  · have hpos : 0 < hi - l := by
      rcases Nat.eq_zero_or_pos (hi - l) with h0 | h0
      · rw [h0] at hne; simp at hne
      · exact h0
    have hx : xs ≠ [] := by intro e; subst e; simp at h2; omega
    obtain ⟨b, o, rfl, hB, hr⟩ := hcells hx
    refine ⟨b, o + l, ?_, hB, fun j u hu => ?_⟩
    · rw [if_neg (by omega)]
      simp [Addr.add_lit]
    · rw [List.getElem?_take, List.getElem?_drop] at hu
      split at hu
      · rw [Nat.add_assoc]; exact hr (l + j) u hu
      · cases hu

/-- 'x[l:]', 'x[:h]', 'x[l:h]': the value under one name, and what it reads as. -/
theorem cut_from {P : Program} {T E : TypeId} {bytes : Nat} (hE : Elem P T E bytes) {a : Option Addr} {n c : Nat} (k : IntKind) (l : Nat) (h : l ≤ n) :
    ∃ u, (∀ w, (Instr.slice T (.slice a n c) (some (.int k (l : Int))) none none).run P w = .ok u w) ∧ ∀ B w xs, RV B w (.slice a n c) xs → RV B w u (xs.drop l) := by
  obtain ⟨ht, i, z, hi, _, hs, _, _⟩ := hE
  have ht' : P.underlying T = some (.slice (P.elem T)) := by rw [ht]; simp [Program.elem, ht]
  have he : P.elem T = E := by simpa [ht] using ht'.symm
  refine ⟨sliced a l n c 1, fun w => ?_, fun B w xs hv => ?_⟩
  · rw [run_slice_l (P := P) w T a n c ht' k (l : Int) (by omega) (by omega)]
    simp [he, sizeOf, typeInfo, hi, hs, Result.andThen]
  · have hn : xs.length = n := by obtain ⟨a0, c0, e0, _⟩ := hv; simp at e0; omega
    have hc : n ≤ c := by obtain ⟨a0, c0, e0, h1, _⟩ := hv; simp at e0; omega
    have := RV.cut hv l n c h (Nat.le_refl _) hc (Nat.le_refl _)
    rwa [List.take_of_length_le (by simp; omega)] at this
theorem cut_to {P : Program} {T E : TypeId} {bytes : Nat} (hE : Elem P T E bytes) {a : Option Addr} {n c : Nat} (k : IntKind) (h : Nat) (hn : h ≤ n) (hc : n ≤ c) :
    ∃ u, (∀ w, (Instr.slice T (.slice a n c) none (some (.int k (h : Int))) none).run P w = .ok u w) ∧ ∀ B w xs, RV B w (.slice a n c) xs → RV B w u (xs.take h) := by
  obtain ⟨ht, i, z, hi, _, hs, _, _⟩ := hE
  have ht' : P.underlying T = some (.slice (P.elem T)) := by rw [ht]; simp [Program.elem, ht]
  have he : P.elem T = E := by simpa [ht] using ht'.symm
  refine ⟨sliced a 0 h c 1, fun w => ?_, fun B w xs hv => ?_⟩
  · rw [run_slice_h (P := P) w T a n c ht' k (h : Int) (by omega) (by omega)]
    simp [he, sizeOf, typeInfo, hi, hs, Result.andThen]
  · simpa using RV.cut hv 0 h c (Nat.zero_le _) hn (by omega) (Nat.le_refl _)
theorem cut_both {P : Program} {T E : TypeId} {bytes : Nat} (hE : Elem P T E bytes) {a : Option Addr} {n c : Nat} (k k' : IntKind) (l h : Nat) (hl : l ≤ h) (hn : h ≤ n) (hc : n ≤ c) :
    ∃ u, (∀ w, (Instr.slice T (.slice a n c) (some (.int k (l : Int))) (some (.int k' (h : Int))) none).run P w = .ok u w) ∧ ∀ B w xs, RV B w (.slice a n c) xs → RV B w u ((xs.drop l).take (h - l)) := by
  obtain ⟨ht, i, z, hi, _, hs, _, _⟩ := hE
  have ht' : P.underlying T = some (.slice (P.elem T)) := by rw [ht]; simp [Program.elem, ht]
  have he : P.elem T = E := by simpa [ht] using ht'.symm
  refine ⟨sliced a l h c 1, fun w => ?_, fun B w xs hv => RV.cut hv l h c hl hn (by omega) (Nat.le_refl _)⟩
  rw [run_slice_lh (P := P) w T a n c ht' k k' (l : Int) (h : Int) (by omega) (by omega) (by omega)]
  simp [he, sizeOf, typeInfo, hi, hs, Result.andThen]
end Go.Proofs.YtlgaikknodoilaaDoor.Sh
