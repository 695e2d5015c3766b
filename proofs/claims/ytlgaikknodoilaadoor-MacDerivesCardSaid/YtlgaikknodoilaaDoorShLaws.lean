/-
  Laws for the walk, over any program: a store into a block that is known whole; a load out of one. The world behind a store gets a name of its own, and 'Upd' says what is known of it.
-/
import Derived.WalkKit
import Derived.Deep.MidRow
import Derived.Below
namespace Go.Proofs.YtlgaikknodoilaaDoor.Sh
set_option linter.unusedVariables false
set_option linter.unusedSimpArgs false
open Go Go.RowKit

/-- Block g now holds o; all else is as it was. -/
structure Upd (g : Nat) (o : Obj) (w w' : World) : Prop where
  here : w'.heap[g]? = some o
  size : w'.heap.size = w.heap.size
  other : ∀ k, k ≠ g → w'.heap[k]? = w.heap[k]?
  os : w'.os = w.os
  tape : w'.tape = w.tape
  output : w'.output = w.output

theorem Upd.below {g : Nat} {o : Obj} {w w' : World} (h : Upd g o w w') {B : Nat} (hB : B ≤ g) : Below B w w' :=
  ⟨h.os, h.tape, h.output, by rw [h.size]; exact Nat.le_refl _, fun k hk => h.other k (by omega)⟩
theorem Upd.cell {g : Nat} {o : Obj} {w w' : World} (h : Upd g o w w') {a : Addr} (ha : a.block ≠ g) : w'.cell? a = w.cell? a := World.cell?_of_block (h.other _ ha)
theorem Upd.frozen {g : Nat} {o : Obj} {w w' : World} (h : Upd g o w w') {a : Addr} (ha : a.block ≠ g) : w'.frozen? a = w.frozen? a := World.frozen?_of_block (h.other _ ha)

/-- vs written into old from off on. -/
def put (old : Array Value) (off : Nat) (vs : Array Value) : Array Value := (old.toList.take off ++ vs.toList ++ old.toList.drop (off + vs.size)).toArray
theorem put_whole (old vs : Array Value) (h : old.size = vs.size) : put old 0 vs = vs := by
  unfold put
  rw [List.drop_of_length_le (by simp; omega)]
  simp

theorem heap_new (w : World) (o : Obj) : (w.alloc o).heap[w.heap.size]? = some o := heap_alloc_new w o
theorem heap_old {w : World} {b : Nat} {x : Obj} (h : w.heap[b]? = some x) (o : Obj) : (w.alloc o).heap[b]? = some x := by
  have hlt : b < w.heap.size := (Array.getElem?_eq_some_iff.1 h).1
  rw [Below.heap_alloc _ _ _ hlt]; exact h
theorem lt_of_heap {w : World} {b : Nat} {x : Obj} (h : w.heap[b]? = some x) : b < w.heap.size := (Array.getElem?_eq_some_iff.1 h).1
theorem heap_below {B : Nat} {w w' : World} {b : Nat} {x : Obj} (h : w.heap[b]? = some x) (hb : Below B w w') (hB : b < B) : w'.heap[b]? = some x := (hb.block b hB).trans h
theorem heap_upd {g : Nat} {o : Obj} {w w' : World} {b : Nat} {x : Obj} (h : w.heap[b]? = some x) (hu : Upd g o w w') (hg : b ≠ g) : w'.heap[b]? = some x := (hu.other b hg).trans h

section
variable {P : Program} {w : World}

theorem upd_setRow (g : Nat) (t : TypeId) (old cs : Array Value) (hb : w.heap[g]? = some (.cells old t (0, 0))) : Upd g (.cells cs t (0, 0)) w (w.setRow g cs) :=
  ⟨setRow_heap w g old cs t _ hb, setRow_size w g cs, fun k hk => setRow_other w g k cs hk, rfl, rfl, rfl⟩

theorem run_store_upd (g off : Nat) (ty t : TypeId) (old : Array Value) (v : Value) (hb : w.heap[g]? = some (.cells old t (0, 0))) (hi : (P.info? ty).map (·.size) = some v.cells.size)
    (hl : off + v.cells.size ≤ old.size) (h1 : v.cells.all (·.oneCell') = true) :
    ∃ w', (Instr.storeAt ty (.pointer (some ⟨g, off, none⟩)) v).run P w = .ok () w' ∧ Upd g (.cells (put old off v.cells) t (0, 0)) w w' := by
  have := run_storeCells_at P g off t v.cells.toList 0 old w hb (by simpa using hl) (fun x hx => (Array.all_eq_true_iff_forall_mem.1 h1) x (by simpa using hx))
  refine ⟨_, ?_, upd_setRow g t old (put old off v.cells) hb⟩
  cases hq : P.info? ty with
  | none => simp [hq] at hi
  | some i =>
    have hs : v.cells.size = i.size := by simp [hq] at hi; omega
    simp only [Nat.add_zero] at this
    simp [Instr.storeAt, Instr.sureAddr, storeVar, sizeOf, typeInfo, hq, hs, this, put]

theorem wp_store_upd {op : Oper} {a : Act} {K : Act → World → Prop} {Q : Exit → Act → World → Prop} (ty : TypeId) (x y : Operand) (ho : op.op = .store ty x y)
    (g off : Nat) (v : Value) (hx : a.eval x = .pointer (some ⟨g, off, none⟩)) (hy : a.eval y = v) (t : TypeId) (old : Array Value)
    (hb : w.heap[g]? = some (.cells old t (0, 0))) (hi : (P.info? ty).map (·.size) = some v.cells.size) (hl : off + v.cells.size ≤ old.size) (h1 : v.cells.all (·.oneCell') = true)
    (hd : op.dst = none) (h : ∀ w', Upd g (.cells (put old off v.cells) t (0, 0)) w w' → K a w') : op.wp P a w K Q := by
  obtain ⟨w', hr, hu⟩ := run_store_upd (P := P) g off ty t old v hb hi hl h1
  unfold Oper.wp execOp
  simp only [ho, hx, hy, hr, Sem.run_bind, Sem.run_pure, Result.andThen_ok]
  have := h w' hu
  rw [show a = a.put op.dst undef from by rw [hd]; rfl] at this
  exact this

theorem wpList_store_upd {ops : Array Oper} {rest : List Oper} {op : Oper} {a : Act} {Q : Exit → Act → World → Prop} (hgd : op.guard = none) (ty : TypeId) (x y : Operand) (ho : op.op = .store ty x y)
    (g off : Nat) (v : Value) (hx : a.eval x = .pointer (some ⟨g, off, none⟩)) (hy : a.eval y = v) (t : TypeId) (old : Array Value)
    (hb : w.heap[g]? = some (.cells old t (0, 0))) (hi : (P.info? ty).map (·.size) = some v.cells.size) (hl : off + v.cells.size ≤ old.size) (h1 : v.cells.all (·.oneCell') = true)
    (hd : op.dst = none) (h : ∀ w', Upd g (.cells (put old off v.cells) t (0, 0)) w w' → wpList P ops Q rest a w') : wpList P ops Q (op :: rest) a w := by
  obtain ⟨w', hr, hu⟩ := run_store_upd (P := P) g off ty t old v hb hi hl h1
  refine wpList_plain hgd fun K hK => ?_
  unfold Oper.wp execOp
  simp only [ho, hx, hy, hr, Sem.run_bind, Sem.run_pure, Result.andThen_ok]
  exact hK _ _ (by rw [hd]; exact h w' hu)

/-- A row or a struct out of the middle of a block that is known whole. -/
theorem wpList_load_blk {ops : Array Oper} {rest : List Oper} {op : Oper} {a : Act} {Q : Exit → Act → World → Prop} (hgd : op.guard = none) (ty : TypeId) (x : Operand) (ho : op.op = .load ty x)
    (b o : Nat) (hx : a.eval x = .pointer (some ⟨b, o, none⟩)) (t : TypeId) (C : Array Value) (fr : Nat × Nat) (hb : w.heap[b]? = some (.cells C t fr)) (cs : Array Value)
    (hcs : (C.toList.drop o).take cs.size = cs.toList) (d : TypeDesc) (hu : P.underlying ty = some d) (hd : d.isRow = true) (hi : (P.info? ty).map (·.size) = some cs.size)
    (h : wpList P ops Q rest (a.put op.dst (.agg cs)) w) : wpList P ops Q (op :: rest) a w := by
  refine wpList_load_mid hgd ty x ho b o hx cs.toList d ?_ hu hd (by simpa using hi) (by simpa using h)
  intro j v hj
  rw [cell_of_row w b (o + j) C t fr hb]
  rw [← hcs] at hj
  rw [List.getElem?_take, List.getElem?_drop] at hj
  split at hj
  · simpa using hj
  · cases hj

theorem run_index_row {t e : TypeId} {n : Nat} (ht : P.underlying t = some (.array n e)) {d : TypeDesc} (he : P.underlying e = some d) (hd : d.isRow = false) (hs : (P.info? e).map (·.size) = some 1)
    (cs : Array Value) (k : IntKind) (j : Nat) (hj : j < n) (v : Value) (hv : cs[j]? = some v) : (Instr.index t (.agg cs) (.int k (j : Int))).run P w = .ok v w := by
  obtain ⟨i, hi, hs⟩ := Option.map_eq_some_iff.1 hs
  have hagg : (isAgg e).run P w = .ok false w := by
    unfold isAgg
    rw [Sem.run_bind, run_underlying he w]
    cases d <;> first | rfl | cases hd
  have h1 : (0 : Int) ≤ (j : Int) ∧ (j : Int) < (n : Int) := by omega
  simp [Instr.index, asIntOf, run_underlying ht, h1, hj, part, hagg, sizeOf, typeInfo, hi, hs, hv]

theorem wpList_index_row {ops : Array Oper} {rest : List Oper} {op : Oper} {a : Act} {Q : Exit → Act → World → Prop} (hgd : op.guard = none) (t : TypeId) (x y : Operand) (ho : op.op = .index t x y)
    {e : TypeId} {n : Nat} (ht : P.underlying t = some (.array n e)) {d : TypeDesc} (he : P.underlying e = some d) (hd : d.isRow = false) (hs : (P.info? e).map (·.size) = some 1)
    (cs : Array Value) (hx : a.eval x = .agg cs) (k : IntKind) (j : Nat) (hy : a.eval y = .int k (j : Int)) (hj : j < n) (v : Value) (hv : cs[j]? = some v)
    (h : wpList P ops Q rest (a.put op.dst v) w) : wpList P ops Q (op :: rest) a w := by
  have hr := run_index_row (P := P) (w := w) ht he hd hs cs k j hj v hv
  refine wpList_plain hgd fun K hK => ?_
  unfold Oper.wp execOp
  simp only [ho, hx, hy, hr, Sem.run_bind, Sem.run_pure, Result.andThen_ok]
  exact hK _ _ h

theorem ret_row {fn : Func} {p : Tmp} {ty : TypeId} (h : fn.results = #[.cell p ty]) (tmps : Array Value) (g : Nat) (t : TypeId) (cs : Array Value) (fr : Nat × Nat) (d : TypeDesc)
    (hp : tmps.getD p undef = .pointer (some ⟨g, 0, none⟩)) (hg : w.heap[g]? = some (.cells cs t fr)) (hu : P.underlying ty = some d) (hd : d.isRow = true) (hi : (P.info? ty).map (·.size) = some cs.size) :
    (results fn tmps).run P w = .ok (.agg cs) w :=
  results_cell_row h tmps w g t cs fr d hp hg hu (by cases d <;> first | rfl | exact hd) hi
end
end Go.Proofs.YtlgaikknodoilaaDoor.Sh
