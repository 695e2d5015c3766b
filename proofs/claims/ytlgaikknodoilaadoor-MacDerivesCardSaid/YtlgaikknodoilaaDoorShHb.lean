/- What a walk holds, apart from one another: blocks that are known whole and may be written again; rows of bytes that lie elsewhere. All of it below a bound B, so that what is made behind B may be written freely. -/
import Derived.Test.YtlgaikknodoilaaDoorShGo
namespace Go.Proofs.YtlgaikknodoilaaDoor.Sh
set_option linter.unusedVariables false
set_option linter.unusedSimpArgs false
open Go Go.RowKit

/-- As RV, but what is read lies in blocks of which F holds. -/
def RF (F : Nat → Prop) (w : World) (v : Value) (xs : List Value) : Prop :=
  ∃ (a : Option Addr) (c : Nat), v = .slice a xs.length c ∧ xs.length ≤ c ∧ c ≤ maxLen ∧ (a = none → c = 0) ∧
    (xs ≠ [] → ∃ b o, a = some ⟨b, o, none⟩ ∧ F b ∧ w.rangeAt b o xs)
theorem RF.of_rv {B : Nat} {w : World} {v : Value} {xs : List Value} (h : RV B w v xs) : RF (fun b => b < B) w v xs := h
theorem RF.rv {F : Nat → Prop} {B : Nat} {w : World} {v : Value} {xs : List Value} (h : RF F w v xs) (hF : ∀ b, F b → b < B) : RV B w v xs := by
  obtain ⟨a, c, h1, h2, h3, h4, h5⟩ := h
  exact ⟨a, c, h1, h2, h3, h4, fun hm => let ⟨b, o, e, hb, hc⟩ := h5 hm; ⟨b, o, e, hF b hb, hc⟩⟩
theorem RF.mono {F F' : Nat → Prop} {w : World} {v : Value} {xs : List Value} (h : RF F w v xs) (hF : ∀ b, F b → F' b) : RF F' w v xs := by
  obtain ⟨a, c, h1, h2, h3, h4, h5⟩ := h
  exact ⟨a, c, h1, h2, h3, h4, fun hm => let ⟨b, o, e, hb, hc⟩ := h5 hm; ⟨b, o, e, hF b hb, hc⟩⟩
theorem RF.same {F : Nat → Prop} {w w' : World} {v : Value} {xs : List Value} (h : RF F w v xs) (hb : ∀ b, F b → w'.heap[b]? = w.heap[b]?) : RF F w' v xs := by
  obtain ⟨a, c, h1, h2, h3, h4, h5⟩ := h
  refine ⟨a, c, h1, h2, h3, h4, fun hm => ?_⟩
  obtain ⟨b, o, e, hB, hc⟩ := h5 hm
  refine ⟨b, o, e, hB, fun j u hu => ?_⟩
  rw [World.cell?_of_block (w := w) (hb b hB)]
  exact hc j u hu
theorem RF.nil {F : Nat → Prop} {w : World} : RF F w (.slice none 0 0) [] := ⟨none, 0, rfl, Nat.le_refl _, Nat.zero_le _, fun _ => rfl, fun h => absurd rfl h⟩
/-- What is owned reads, in blocks from the base on. -/
theorem RF.of_own {w : World} {base : Nat} {v : Value} {m : Bs} (h : Own base w v m) : RF (fun b => base ≤ b ∧ b < w.heap.size) w v (m.map bv) := by
  obtain ⟨hl, h⟩ := h
  rcases h with ⟨rfl, h0⟩ | ⟨g, cap, cur, rfl, hg, hh, hn, hc, hs, ht⟩
  · have : m = [] := List.length_eq_zero_iff.1 h0
    subst this; exact RF.nil
  · refine ⟨_, cap, by rw [List.length_map], by rw [List.length_map]; exact hn, hc, by simp, fun _ => ⟨g, 0, rfl, ⟨hg, lt_of_heap hh⟩, fun j u hu => ?_⟩⟩
    have hj := (List.getElem?_eq_some_iff.1 hu).1
    rw [List.length_map] at hj
    rw [cell_of_row w g (0 + j) cur _ _ hh]
    rw [← ht, List.getElem?_take, if_pos (by omega)] at hu
    simpa using hu

/-- The blocks of l are none of them b. -/
def NotIn (l : List (Nat × Obj)) (b : Nat) : Prop := ∀ y ∈ l, y.1 ≠ b

structure Hb (w0 : World) (l : List (Nat × Obj)) (vs : List (Value × Bs)) (B : Nat) (w : World) : Prop where
  base : Tab w0
  bel : Below w0.heap.size w0 w
  lo : w0.heap.size ≤ B
  hi : B ≤ w.heap.size
  blocks : ∀ x ∈ l, w0.heap.size ≤ x.1 ∧ x.1 < B ∧ w.heap[x.1]? = some x.2
  apart : (l.map Prod.fst).Nodup
  rows : ∀ x ∈ vs, RF (fun b => b < B ∧ NotIn l b) w x.1 (x.2.map bv)

theorem Hb.start {w : World} (ht : Tab w) : Hb w [] [] w.heap.size w :=
  ⟨ht, Below.refl _ _, Nat.le_refl _, Nat.le_refl _, fun x hx => (by cases hx), List.nodup_nil, fun x hx => (by cases hx)⟩
section
variable {w0 w w' : World} {l : List (Nat × Obj)} {vs : List (Value × Bs)} {B : Nat}
theorem Hb.tab (h : Hb w0 l vs B w) : Tab w := h.base.below h.bel h.base.lt
theorem Hb.li (h : Hb w0 l vs B w) : LI w0 w := ⟨h.tab, h.bel⟩
theorem Hb.lt (h : Hb w0 l vs B w) : ∀ x ∈ l, x.1 < w.heap.size := fun x hx => Nat.lt_of_lt_of_le (h.blocks x hx).2.1 h.hi
/-- Something behind B was made or written. -/
theorem Hb.call (h : Hb w0 l vs B w) (hb : Below B w w') : Hb w0 l vs B w' :=
  ⟨h.base, h.bel.trans (hb.mono h.lo), h.lo, Nat.le_trans h.hi hb.size, fun x hx => ⟨(h.blocks x hx).1, (h.blocks x hx).2.1, (hb.block _ (h.blocks x hx).2.1).trans (h.blocks x hx).2.2⟩, h.apart,
    fun x hx => (h.rows x hx).same fun b hF => hb.block b hF.1⟩
theorem Hb.calls (h : Hb w0 l vs B w) (hb : Below w.heap.size w w') : Hb w0 l vs B w' := h.call (hb.mono h.hi)
theorem Hb.raise (h : Hb w0 l vs B w) {B' : Nat} (h1 : B ≤ B') (h2 : B' ≤ w.heap.size) : Hb w0 l vs B' w :=
  ⟨h.base, h.bel, Nat.le_trans h.lo h1, h2, fun x hx => ⟨(h.blocks x hx).1, Nat.lt_of_lt_of_le (h.blocks x hx).2.1 h1, (h.blocks x hx).2.2⟩, h.apart,
    fun x hx => (h.rows x hx).mono fun b hF => ⟨Nat.lt_of_lt_of_le hF.1 h1, hF.2⟩⟩
theorem Hb.top (h : Hb w0 l vs B w) : Hb w0 l vs w.heap.size w := h.raise h.hi (Nat.le_refl _)
theorem Hb.drewN (h : Hb w0 l vs B w) (n : Nat) : Hb w0 l vs B (w.drewN n) := h.calls (below_drewN' (n := n) (Below.refl _ _))
theorem Hb.drew (h : Hb w0 l vs B w) : Hb w0 l vs B w.drew := h.drewN 1
theorem Hb.alloc (h : Hb w0 l vs B w) (o : Obj) : Hb w0 l vs B (w.alloc o) := h.calls ((Below.refl _ _).alloc (Nat.le_refl _) o)
/-- A row that lies apart from the blocks. -/
theorem Hb.rowF (h : Hb w0 l vs B w) {v : Value} {m : Bs} (hv : RF (fun b => b < B ∧ NotIn l b) w v (m.map bv)) : Hb w0 l ((v, m) :: vs) B w :=
  ⟨h.base, h.bel, h.lo, h.hi, h.blocks, h.apart, fun x hx => by rcases List.mem_cons.1 hx with rfl | hx; exact hv; exact h.rows x hx⟩
/-- A row that was there ahead of the walk. -/
theorem Hb.row0 (h : Hb w0 l vs B w) {v : Value} {m : Bs} (hv : RD w0.heap.size w0 v m) : Hb w0 l ((v, m) :: vs) B w :=
  h.rowF (((RF.of_rv hv).same fun b hb => h.bel.block b hb).mono fun b hb => ⟨Nat.lt_of_lt_of_le hb h.lo, fun y hy e => by have := (h.blocks y hy).1; omega⟩)
/-- A row that was made behind B. -/
theorem Hb.own (h : Hb w0 l vs B w) {v : Value} {m : Bs} (ho : Own B w v m) : Hb w0 l ((v, m) :: vs) w.heap.size w :=
  h.top.rowF ((RF.of_own ho).mono fun b hb => ⟨hb.2, fun y hy e => by have := (h.blocks y hy).2.1; omega⟩)
theorem Hb.ownCall (h : Hb w0 l vs w.heap.size w) {v : Value} {m : Bs} (hb : Below w.heap.size w w') (ho : Own w.heap.size w' v m) : Hb w0 l ((v, m) :: vs) w'.heap.size w' :=
  (h.call hb).own ho
/-- A new block. -/
theorem Hb.new (h : Hb w0 l vs B w) {q : Nat} {o : Obj} (hq : B ≤ q) (hh : w.heap[q]? = some o) : Hb w0 ((q, o) :: l) vs w.heap.size w := by
  have hq2 := lt_of_heap hh
  refine ⟨h.base, h.bel, Nat.le_trans h.lo h.hi, Nat.le_refl _, fun x hx => ?_, ?_, fun x hx => (h.rows x hx).mono fun b hF => ⟨Nat.lt_of_lt_of_le hF.1 h.hi, fun y hy => ?_⟩⟩
  · rcases List.mem_cons.1 hx with rfl | hx
    · exact ⟨Nat.le_trans h.lo hq, hq2, hh⟩
    · have := h.blocks x hx; exact ⟨this.1, Nat.lt_of_lt_of_le this.2.1 h.hi, this.2.2⟩
  · rw [List.map_cons, List.nodup_cons]
    refine ⟨fun hm => ?_, h.apart⟩
    obtain ⟨y, hy, e⟩ := List.mem_map.1 hm
    have := (h.blocks y hy).2.1
    simp only at e; omega
  · rcases List.mem_cons.1 hy with rfl | hy
    · have := hF.1; simp only; omega
    · exact hF.2 y hy
theorem Hb.fresh (h : Hb w0 l vs B w) (o : Obj) : Hb w0 ((w.heap.size, o) :: l) vs (w.alloc o).heap.size (w.alloc o) := (h.alloc o).new h.hi (heap_new w o)
theorem Hb.newUpd (h : Hb w0 l vs B w) {o o' : Obj} (hu : Upd w.heap.size o (w.alloc o') w') : Hb w0 ((w.heap.size, o) :: l) vs w'.heap.size w' :=
  (h.calls (((Below.refl _ _).alloc (Nat.le_refl _) _).trans (hu.below (Nat.le_refl _)))).new h.hi hu.here
/-- A block is written again. -/
theorem Hb.put (h : Hb w0 l vs B w) (j q : Nat) {o o' : Obj} (hj : l[j]? = some (q, o)) (hu : Upd q o' w w') : Hb w0 (l.set j (q, o')) vs B w' := by
  have hjl := (List.getElem?_eq_some_iff.1 hj).1
  have hq := h.blocks _ (List.mem_of_getElem? hj)
  have hfst : (l.set j (q, o')).map Prod.fst = l.map Prod.fst := by
    rw [List.map_set]
    apply List.ext_getElem? 
    intro i
    by_cases e : j = i
    · subst e
      rw [List.getElem?_set_self (by simpa using hjl), List.getElem?_map, hj]; rfl
    · rw [List.getElem?_set_ne e]
  have hbel : Below w0.heap.size w w' := hu.below hq.1
  refine ⟨h.base, h.bel.trans hbel, h.lo, by rw [hu.size]; exact h.hi, fun x hx => ?_, by rw [hfst]; exact h.apart, fun x hx => ?_⟩
  · obtain ⟨i, hi⟩ := List.mem_iff_getElem?.1 hx
    by_cases e : j = i
    · subst e
      rw [List.getElem?_set_self hjl] at hi
      obtain rfl := Option.some.inj hi
      exact ⟨hq.1, hq.2.1, hu.here⟩
    · rw [List.getElem?_set_ne e] at hi
      have hx := h.blocks x (List.mem_of_getElem? hi)
      refine ⟨hx.1, hx.2.1, (hu.other _ ?_).trans hx.2.2⟩
      intro e2
      have h1 : (l.map Prod.fst)[i]? = some q := by rw [List.getElem?_map, hi]; exact congrArg some e2
      have h2 : (l.map Prod.fst)[j]? = some q := by rw [List.getElem?_map, hj]; rfl
      have hil : i < (l.map Prod.fst).length := (List.getElem?_eq_some_iff.1 h1).1
      have := (List.getElem?_inj hil h.apart).1 (h1.trans h2.symm)
      omega
  · refine ((h.rows x hx).same fun b hF => hu.other b fun e => hF.2 _ (List.mem_of_getElem? hj) e.symm).mono fun b hF => ⟨hF.1, fun y hy => ?_⟩
    have hy1 : y.1 ∈ (l.set j (q, o')).map Prod.fst := List.mem_map.2 ⟨y, hy, rfl⟩
    rw [hfst] at hy1
    obtain ⟨z, hz, e⟩ := List.mem_map.1 hy1
    rw [← e]; exact hF.2 z hz
theorem Hb.at (h : Hb w0 l vs B w) (j q : Nat) (o : Obj) (hj : l[j]? = some (q, o)) : w.heap[q]? = some o := (h.blocks _ (List.mem_of_getElem? hj)).2.2
theorem Hb.rd (h : Hb w0 l vs B w) (j : Nat) (v : Value) (m : Bs) (hj : vs[j]? = some (v, m)) : RD w.heap.size w v m := (h.rows _ (List.mem_of_getElem? hj)).rv fun b hF => Nat.lt_of_lt_of_le hF.1 h.hi
theorem Hb.ltB (h : Hb w0 l vs B w) (j q : Nat) (o : Obj) (hj : l[j]? = some (q, o)) : q < B := (h.blocks _ (List.mem_of_getElem? hj)).2.1
/-- Only some rows are needed further on. -/
theorem Hb.keep (h : Hb w0 l vs B w) (vs' : List (Value × Bs)) (hs : ∀ x ∈ vs', x ∈ vs) : Hb w0 l vs' B w := ⟨h.base, h.bel, h.lo, h.hi, h.blocks, h.apart, fun x hx => h.rows x (hs x hx)⟩
end
end Go.Proofs.YtlgaikknodoilaaDoor.Sh
