/-
  What the walks say of memory: a slice of bytes that reads as a list; a hash; the two tables; what a call may have changed.
-/
import Derived.Test.YtlgaikknodoilaaDoorShBits
import Derived.Test.YtlgaikknodoilaaDoorChecked
import Derived.Test.YtlgaikknodoilaaDoorShRows
namespace Go.Proofs.YtlgaikknodoilaaDoor.Sh
set_option linter.unusedVariables false
set_option linter.unusedSimpArgs false
open Go Go.RowKit

def A8 (v : V8) : Array Value := (v.list.map wv).toArray
theorem size_A8 (v : V8) : (A8 v).size = 8 := rfl
theorem one_A8 (v : V8) : (A8 v).all (·.oneCell') = true := by simp [A8, V8.list, wv, Value.oneCell']

/-- The two tables, where the program's variables lie. -/
structure Tab (w : World) : Prop where
  first : ∃ t fr, w.heap[0]? = some (.cells (A8 first) t fr)
  round : ∃ t fr, w.heap[1]? = some (.cells (ks.map wv).toArray t fr)

/-- 'Below', but for the block p. -/
structure Keeps (B p : Nat) (w w' : World) : Prop where
  os : w'.os = w.os
  tape : w'.tape = w.tape
  output : w'.output = w.output
  size : w.heap.size ≤ w'.heap.size
  block : ∀ k, k < B → k ≠ p → w'.heap[k]? = w.heap[k]?

theorem Keeps.refl (B p : Nat) (w : World) : Keeps B p w w := ⟨rfl, rfl, rfl, Nat.le_refl _, fun _ _ _ => rfl⟩
theorem Keeps.trans {B p : Nat} {a b c : World} (h : Keeps B p a b) (k : Keeps B p b c) : Keeps B p a c :=
  ⟨k.os.trans h.os, k.tape.trans h.tape, k.output.trans h.output, Nat.le_trans h.size k.size, fun i hi hp => (k.block i hi hp).trans (h.block i hi hp)⟩
theorem Keeps.mono {B B' p : Nat} {w w' : World} (h : Keeps B p w w') (hB : B' ≤ B) : Keeps B' p w w' := ⟨h.os, h.tape, h.output, h.size, fun k hk => h.block k (Nat.lt_of_lt_of_le hk hB)⟩
theorem Keeps.below {B p : Nat} {w w' : World} (h : Keeps B p w w') (hp : B ≤ p) : Below B w w' := ⟨h.os, h.tape, h.output, h.size, fun k hk => h.block k hk (by omega)⟩
theorem Keeps.of_below {B p : Nat} {w w' : World} (h : Below B w w') : Keeps B p w w' := ⟨h.os, h.tape, h.output, h.size, fun k hk _ => h.block k hk⟩

theorem Tab.below {B : Nat} {w w' : World} (h : Tab w) (hb : Below B w w') (hB : 2 ≤ B) : Tab w' :=
  ⟨let ⟨t, fr, e⟩ := h.first; ⟨t, fr, (hb.block _ (by omega)).trans e⟩, let ⟨t, fr, e⟩ := h.round; ⟨t, fr, (hb.block _ (by omega)).trans e⟩⟩
theorem Tab.keeps {B p : Nat} {w w' : World} (h : Tab w) (hb : Keeps B p w w') (hB : 2 ≤ B) (hp : 2 ≤ p) : Tab w' :=
  ⟨let ⟨t, fr, e⟩ := h.first; ⟨t, fr, (hb.block _ (by omega) (by omega)).trans e⟩, let ⟨t, fr, e⟩ := h.round; ⟨t, fr, (hb.block _ (by omega) (by omega)).trans e⟩⟩

/-- A slice of bytes, all of it below block B, that reads as m. -/
def RD (B : Nat) (w : World) (v : Value) (m : Bs) : Prop := RV B w v (m.map bv)

theorem RD.mono {B B' : Nat} {w : World} {v : Value} {m : Bs} (h : RD B w v m) (hB : B ≤ B') : RD B' w v m := RV.mono h hB
theorem RD.below {B : Nat} {w w' : World} {v : Value} {m : Bs} (h : RD B w v m) (hb : Below B w w') : RD B w' v m := RV.below h hb
theorem RD.nil {B : Nat} {w : World} : RD B w (.slice none 0 0) [] := RV.nil
theorem RD.form {B : Nat} {w : World} {v : Value} {m : Bs} (h : RD B w v m) : ∃ a c, v = .slice a m.length c ∧ m.length ≤ c ∧ c ≤ maxLen := by
  obtain ⟨a, c, h1, h2, h3, _⟩ := h
  exact ⟨a, c, by simpa using h1, by simpa using h2, h3⟩
theorem one_bytes (m : Bs) : ∀ u ∈ m.map bv, u.oneCell' = true := by
  intro u hu
  obtain ⟨x, _, rfl⟩ := List.mem_map.1 hu
  rfl
theorem RD.cell {B : Nat} {w : World} {b o n c : Nat} {m : Bs} (h : RD B w (.slice (some ⟨b, o, none⟩) n c) m) (j : Nat) (hj : j < m.length) : w.cell? ⟨b, o + j, none⟩ = some (bv (m.getD j 0)) := by
  obtain ⟨a, c, h1, h2, h3, h4, h5⟩ := h
  obtain ⟨b', o', e, _, hr⟩ := h5 (by intro e; rw [List.map_eq_nil_iff] at e; subst e; simp at hj)
  have e1 : a = some ⟨b, o, none⟩ := by simp at h1; exact h1.1.symm
  rw [e1] at e
  obtain ⟨rfl, rfl⟩ : b = b' ∧ o = o' := by simpa using e
  exact hr j _ (by simp [hj])
theorem RD.addr {B : Nat} {w : World} {v : Value} {m : Bs} (h : RD B w v m) (hm : m ≠ []) : ∃ b o c, v = .slice (some ⟨b, o, none⟩) m.length c ∧ m.length ≤ c ∧ c ≤ maxLen ∧ b < B := by
  obtain ⟨a, c, h1, h2, h3, h4, h5⟩ := h
  obtain ⟨b, o, rfl, hb, _⟩ := h5 (by simpa using hm)
  exact ⟨b, o, c, by simpa using h1, by simpa using h2, h3, hb⟩

theorem RD.drew {B : Nat} {w : World} {v : Value} {m : Bs} (h : RD B w v m) : RD B w.drew v m := RV.drew h
theorem RD.drewN {B : Nat} {w : World} {v : Value} {m : Bs} (h : RD B w v m) (n : Nat) : RD B (w.drewN n) v m := RV.drewN h n
theorem Tab.drew {w : World} (h : Tab w) : Tab w.drew := ⟨h.first, h.round⟩
theorem Tab.drewN {w : World} (h : Tab w) (n : Nat) : Tab (w.drewN n) := ⟨h.first, h.round⟩
theorem Tab.lt {w : World} (h : Tab w) : 2 ≤ w.heap.size := by
  obtain ⟨_, _, e0⟩ := h.first
  obtain ⟨_, _, e1⟩ := h.round
  have h0 := lt_of_heap e0
  have h1 := lt_of_heap e1
  omega
theorem below_drew {B : Nat} {w w' : World} (h : Below B w.drew w') : Below B w w' := ⟨h.os, h.tape, h.output, h.size, h.block⟩
theorem below_drewN {B n : Nat} {w w' : World} (h : Below B (w.drewN n) w') : Below B w w' := ⟨h.os, h.tape, h.output, h.size, h.block⟩
theorem below_drewN' {B n : Nat} {w w' : World} (h : Below B w w') : Below B w (w'.drewN n) := ⟨h.os, h.tape, h.output, h.size, h.block⟩

/-- A block of a hash holds no byte. -/
def HashBlock (p : Nat) (w : World) : Prop := ∃ (v : V8) (lv : Value) (n : Int), w.heap[p]? = some (.cells ((v.list.map wv) ++ [lv, .int .i64 n]).toArray 53 (0, 0)) ∧ ∃ a l c, lv = .slice a l c

theorem HashBlock.no_byte {p : Nat} {w : World} (h : HashBlock p w) (o : Nat) (x : UInt8) : w.cell? ⟨p, o, none⟩ ≠ some (bv x) := by
  obtain ⟨v, lv, n, hh, a, l, c, rfl⟩ := h
  rw [cell_of_row w p o _ _ _ hh]
  match o with
  | 0 | 1 | 2 | 3 | 4 | 5 | 6 | 7 | 8 | 9 => simp [V8.list, wv, bv]
  | o + 10 => simp [V8.list]

theorem RD.keeps {B p : Nat} {w w' : World} {v : Value} {m : Bs} (h : RD B w v m) (hb : Keeps B p w w') (hp : HashBlock p w) : RD B w' v m := by
  refine RV.same h fun b o u hB hc hu => hb.block b hB ?_
  intro e
  subst e
  obtain ⟨x, _, rfl⟩ := List.mem_map.1 hu
  exact hp.no_byte _ _ hc

/-- At block p lies a hash to which m was written. -/
structure HashAt (w : World) (p : Nat) (m : Bs) : Prop where
  here : ∃ (v : V8) (lv : Value), w.heap[p]? = some (.cells ((v.list.map wv) ++ [lv, .int .i64 (m.length : Int)]).toArray 53 (0, 0)) ∧
    RD w.heap.size w lv (left m) ∧ (64 ≤ m.length → v = state m)

theorem HashAt.block {w : World} {p : Nat} {m : Bs} (h : HashAt w p m) : HashBlock p w := by
  obtain ⟨v, lv, h1, h2, _⟩ := h.here
  obtain ⟨a, c, e, _⟩ := h2
  exact ⟨v, lv, _, h1, a, _, c, e⟩
theorem HashAt.lt {w : World} {p : Nat} {m : Bs} (h : HashAt w p m) : p < w.heap.size := by
  obtain ⟨v, lv, h1, _⟩ := h.here
  exact (Array.getElem?_eq_some_iff.1 h1).1
theorem HashAt.keeps {w w' : World} {p q : Nat} {m : Bs} (h : HashAt w p m) (hq : HashBlock q w) (hpq : p ≠ q) (hb : Keeps w.heap.size q w w') : HashAt w' p m := by
  have hlt := h.lt
  obtain ⟨v, lv, h1, h2, h3⟩ := h.here
  exact ⟨v, lv, (hb.block p hlt hpq).trans h1, (h2.keeps hb hq).mono hb.size, h3⟩
theorem HashAt.below {w w' : World} {p : Nat} {m : Bs} (h : HashAt w p m) (hb : Below w.heap.size w w') : HashAt w' p m := by
  have hlt := h.lt
  obtain ⟨v, lv, h1, h2, h3⟩ := h.here
  exact ⟨v, lv, (hb.block p hlt).trans h1, (h2.below hb).mono hb.size, h3⟩

end Go.Proofs.YtlgaikknodoilaaDoor.Sh
