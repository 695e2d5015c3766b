/- What a walk holds: some blocks, known whole; some rows, that read as bytes. -/
import Derived.Test.YtlgaikknodoilaaDoorMaRDer
namespace Go.Proofs.YtlgaikknodoilaaDoor.Sh
set_option linter.unusedVariables false
set_option linter.unusedSimpArgs false
open Go Go.RowKit

structure Held (w0 : World) (l : List (Nat × Obj)) (vs : List (Value × Bs)) (w : World) : Prop where
  base : Tab w0
  li : LI w0 w
  all : ∀ x ∈ l, w0.heap.size ≤ x.1 ∧ w.heap[x.1]? = some x.2
  rows : ∀ x ∈ vs, RD w.heap.size w x.1 x.2
theorem Held.start {w0 w : World} (ht : Tab w0) (h : LI w0 w) : Held w0 [] [] w := ⟨ht, h, fun x hx => (by cases hx), fun x hx => (by cases hx)⟩
theorem Held.call {w0 w w' : World} {l : List (Nat × Obj)} {vs : List (Value × Bs)} (h : Held w0 l vs w) (hb : Below w.heap.size w w') : Held w0 l vs w' :=
  ⟨h.base, h.li.call hb, fun x hx => ⟨(h.all x hx).1, heap_below (h.all x hx).2 hb (lt_of_heap (h.all x hx).2)⟩, fun x hx => ((h.rows x hx).below hb).mono hb.size⟩
theorem Held.row {w0 w : World} {l : List (Nat × Obj)} {vs : List (Value × Bs)} {v : Value} {m : Bs} (h : Held w0 l vs w) (hv : RD w.heap.size w v m) : Held w0 l ((v, m) :: vs) w :=
  ⟨h.base, h.li, h.all, fun x hx => by rcases List.mem_cons.1 hx with rfl | hx; exact hv; exact h.rows x hx⟩
theorem Held.lt {w0 w : World} {l : List (Nat × Obj)} {vs : List (Value × Bs)} (h : Held w0 l vs w) : ∀ x ∈ l, x.1 < w.heap.size := fun x hx => lt_of_heap (h.all x hx).2
/-- Block q is newer than what is held. -/
structure Newer (l : List (Nat × Obj)) (vs : List (Value × Bs)) (q : Nat) (w : World) : Prop where
  blocks : ∀ x ∈ l, x.1 < q
  rows : ∀ x ∈ vs, RD q w x.1 x.2
theorem Newer.same {l : List (Nat × Obj)} {vs : List (Value × Bs)} {q : Nat} {w w' : World} (h : Newer l vs q w) (hb : Below q w w') : Newer l vs q w' := ⟨h.blocks, fun x hx => (h.rows x hx).below hb⟩
theorem Held.new {w0 w w' : World} {l : List (Nat × Obj)} {vs : List (Value × Bs)} {o o' : Obj} (h : Held w0 l vs w) (hu : Upd w.heap.size o (w.alloc o') w') : Held w0 ((w.heap.size, o) :: l) vs w' ∧ Newer l vs w.heap.size w' := by
  have hb : Below w.heap.size w w' := ((Below.refl _ _).alloc (Nat.le_refl _) _).trans (hu.below (Nat.le_refl _))
  have h2 := h.call hb
  refine ⟨⟨h.base, h2.li, fun x hx => ?_, h2.rows⟩, h.lt, fun x hx => (h.rows x hx).below hb⟩
  rcases List.mem_cons.1 hx with rfl | hx
  · exact ⟨h.li.bel.size, hu.here⟩
  · exact h2.all x hx
theorem Held.put {w0 w w' : World} {l : List (Nat × Obj)} {vs : List (Value × Bs)} {q : Nat} {o o2 : Obj} (h : Held w0 ((q, o) :: l) vs w) (hn : Newer l vs q w) (hu : Upd q o2 w w') : Held w0 ((q, o2) :: l) vs w' ∧ Newer l vs q w' := by
  have hq := (h.all _ (List.mem_cons_self)).1
  have hlt := lt_of_heap (h.all _ (List.mem_cons_self)).2
  have hb := hu.below (Nat.le_refl q)
  have hs := hb.size
  refine ⟨⟨h.base, ⟨h.li.tab.below (hu.below hq) h.base.lt, h.li.bel.trans (hu.below hq)⟩, fun x hx => ?_, fun x hx => ((hn.rows x hx).below hb).mono (Nat.le_of_lt (Nat.lt_of_lt_of_le hlt hs))⟩, hn.same hb⟩
  rcases List.mem_cons.1 hx with rfl | hx
  · exact ⟨hq, hu.here⟩
  · exact ⟨(h.all x (List.mem_cons_of_mem _ hx)).1, heap_upd (h.all x (List.mem_cons_of_mem _ hx)).2 hu (by have := hn.blocks x hx; omega)⟩
theorem Held.at {w0 w : World} {l : List (Nat × Obj)} {vs : List (Value × Bs)} (h : Held w0 l vs w) (j q : Nat) (o : Obj) (hj : l[j]? = some (q, o)) : w.heap[q]? = some o := (h.all _ (List.mem_of_getElem? hj)).2
theorem Held.rd {w0 w : World} {l : List (Nat × Obj)} {vs : List (Value × Bs)} (h : Held w0 l vs w) (j : Nat) (v : Value) (m : Bs) (hj : vs[j]? = some (v, m)) : RD w.heap.size w v m := h.rows _ (List.mem_of_getElem? hj)
theorem Held.drewN {w0 w : World} {l : List (Nat × Obj)} {vs : List (Value × Bs)} (h : Held w0 l vs w) (n : Nat) : Held w0 l vs (w.drewN n) := h.call (below_drewN' (n := n) (Below.refl _ _))
theorem Held.bel {w0 w : World} {l : List (Nat × Obj)} {vs : List (Value × Bs)} (h : Held w0 l vs w) : Below w0.heap.size w0 w := h.li.bel
theorem wpList_hold {P : Program} {ops : Array Oper} {rest : List Oper} {op : Oper} {a : Act} {Q : Exit → Act → World → Prop} (hgd : op.guard = none) (ty : TypeId) (x y : Operand) (ho : op.op = .store ty x y) {w0 w : World} {l : List (Nat × Obj)} {vs : List (Value × Bs)} (hH : Held w0 l vs w)
    (cs old : Array Value) (hx : a.eval x = .pointer (some ⟨w.heap.size, 0, none⟩)) (hy : a.eval y = .agg cs) (hi : (P.info? ty).map (·.size) = some cs.size) (hs : old.size = cs.size) (h1 : (Value.agg cs).cells.all (·.oneCell') = true) (hd : op.dst = none)
    (h : ∀ w', Held w0 ((w.heap.size, .cells cs ty (0, 0)) :: l) vs w' → Newer l vs w.heap.size w' → wpList P ops Q rest a w') : wpList P ops Q (op :: rest) a (w.alloc (.cells old ty)) := by
  refine wpList_store_upd hgd ty x y ho w.heap.size 0 (.agg cs) hx hy ty old (heap_new w _) hi ?_ h1 hd ?_
  · show 0 + cs.size ≤ old.size; omega
  · intro w' hu
    rw [show Sh.put old 0 (Value.agg cs).cells = cs from put_whole _ _ hs] at hu
    have := hH.new hu
    exact h w' this.1 this.2
theorem run_eql_A16 (l : Bs) (hl : l.length = 16) (w : World) : (binOp .eql 41 (.agg (A16 l)) (.agg (A16 l))).run Tryd.prog w = .ok (.bool true) w := by
  have e : A16 l = ((l.map fun x : UInt8 => (x.toNat : Int)).map (Value.int .u8)).toArray := by unfold A16; rw [List.map_map]; rfl
  rw [e, run_eql_row w Tryd.underlying41 Tryd.underlying5 (by kernel_rfl) _ _ (by simpa using hl) (by simpa using hl)]
  simp
end Go.Proofs.YtlgaikknodoilaaDoor.Sh
