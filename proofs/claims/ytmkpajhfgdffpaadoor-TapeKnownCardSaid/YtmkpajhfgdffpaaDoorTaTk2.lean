/- More of several tapes: a block is written at a place; blocks and tapes that are needed no more. -/
import Derived.Test.YtmkpajhfgdffpaaDoorTaRef2
namespace Go.Proofs.YtmkpajhfgdffpaaDoor.Sh
set_option linter.unusedVariables false
set_option linter.unusedSimpArgs false
open Go Go.RowKit

theorem Hb.sub {w0 w : World} {l l' : List (Nat × Obj)} {vs : List (Value × Bs)} {B : Nat} (h : Hb w0 l vs B w) (hs : l'.Sublist l) : Hb w0 l' vs B w :=
  ⟨h.base, h.bel, h.lo, h.hi, fun x hx => h.blocks x (hs.subset hx), (hs.map Prod.fst).nodup h.apart, fun x hx => (h.rows x hx).mono fun b hF => ⟨hF.1, fun y hy => hF.2 y (hs.subset hy)⟩⟩
theorem u8_xor (x y : UInt8) : bits .xor .u8 (x.toNat : Int) (y.toNat : Int) = ((x ^^^ y).toNat : Int) := by
  have h : ∀ z : UInt8, BitVec.ofInt IntKind.u8.bits (z.toNat : Int) = z.toBitVec := by
    intro z
    rw [BitVec.ofInt_natCast]; exact BitVec.eq_of_toNat_eq (by rw [BitVec.toNat_ofNat]; exact Nat.mod_eq_of_lt z.toBitVec.isLt)
  have k : ∀ z : UInt8, IntKind.u8.wrap (z.toNat : Int) = (z.toNat : Int) := by
    intro z; have := z.toNat_lt; rw [IntKind.wrap_u8]; omega
  unfold bits
  simp only [h]
  exact k (x ^^^ y)

/-- The first n cells are bytes. -/
def U8s (cur : Array Value) (n : Nat) : Prop := n ≤ cur.size ∧ ∀ j, j < n → ∃ x : UInt8, cur[j]? = some (bv x)
theorem U8s.of_row (m : Bs) : U8s (m.map bv).toArray m.length := ⟨by simp, fun j hj => ⟨m[j], by simp [List.getElem?_eq_getElem hj]⟩⟩
theorem U8s.of_take {cur : Array Value} {m : Bs} (hc : m.length ≤ cur.size) (h : cur.toList.take m.length = m.map bv) : U8s cur m.length := by
  refine ⟨hc, fun j hj => ⟨m[j], ?_⟩⟩
  have h2 : (cur.toList.take m.length)[j]? = (m.map bv)[j]? := by rw [h]
  rw [List.getElem?_take, if_pos hj, List.getElem?_map, List.getElem?_eq_getElem hj] at h2
  simpa using h2
theorem U8s.put {cur : Array Value} {n : Nat} (h : U8s cur n) (i : Nat) (hi : i < n) (y : UInt8) : U8s (put cur i (bv y).cells) n := by
  have hi2 : i < cur.toList.length := by have := h.1; simp; omega
  have e : Sh.put cur i (bv y).cells = (cur.toList.set i (bv y)).toArray := by
    have := put_one cur.toList i (bv y) (by simp [bv, Value.cells]) hi2
    simpa using this
  rw [e]
  refine ⟨by have := h.1; simp; omega, fun j hj => ?_⟩
  rw [List.getElem?_toArray]
  by_cases e2 : i = j
  · subst e2; exact ⟨y, by rw [List.getElem?_set_self hi2]⟩
  · rw [List.getElem?_set_ne e2]
    obtain ⟨x, hx⟩ := h.2 j hj
    exact ⟨x, by simpa using hx⟩
section
variable {w0 w w' : World} {ts : List (Nat × Bs × Nat)} {l : List (Nat × Obj)} {vs : List (Value × Bs)}
theorem Tk.putL (h : Tk w0 ts l vs w) (j g : Nat) {o o' : Obj} (hj : l[j]? = some (g, o)) (hu : Upd g o' w w') : Tk w0 ts (l.set j (g, o')) vs w' := by
  obtain ⟨tps, h1, h2, h3⟩ := h
  refine ⟨tps, h1, h2, ?_⟩
  have h4 := (h3.put ((tps.flatMap TP.blocks).length + j) g (by rw [List.getElem?_append_right (by omega), Nat.add_sub_cancel_left]; exact hj) hu).top
  rw [List.set_append_right (h := by omega), Nat.add_sub_cancel_left] at h4
  exact h4
theorem Tk.atL (h : Tk w0 ts l vs w) (j g : Nat) {o : Obj} (hj : l[j]? = some (g, o)) : w.heap[g]? = some o := by
  obtain ⟨tps, h1, h2, h3⟩ := h
  exact (h3.blocks (g, o) (List.mem_append_right _ (List.mem_of_getElem? hj))).2.2
theorem Tk.subL (h : Tk w0 ts l vs w) {l' : List (Nat × Obj)} (hs : l'.Sublist l) : Tk w0 ts l' vs w := by
  obtain ⟨tps, h1, h2, h3⟩ := h
  exact ⟨tps, h1, h2, h3.sub (List.Sublist.append_left hs _)⟩
theorem Tk.dropT {x : Nat × Bs × Nat} (h : Tk w0 (x :: ts) l vs w) : Tk w0 ts l vs w := by
  obtain ⟨tps, h1, h2, h3⟩ := h
  cases tps with
  | nil => cases h1
  | cons t tps =>
    refine ⟨tps, ?_, fun x hx => h2 x (List.mem_cons_of_mem _ hx), ?_⟩
    · rw [List.map_cons] at h1; exact (List.cons.inj h1).2
    · simp only [List.flatMap_cons, List.append_assoc] at h3
      exact (h3.sub (List.sublist_append_right _ _)).keep _ fun x hx => List.mem_append_right _ hx
theorem Tk.rdBlk {g : Nat} {m : Bs} {ty : TypeId} (h : Tk w0 ts ((g, .cells (m.map bv).toArray ty (0, 0)) :: l) vs w) {n : Nat} (hn : n = m.length) (hm : m.length ≤ maxLen) : RD w.heap.size w (.slice (some ⟨g, 0, none⟩) n n) m :=
  (h.rowOf hn hm).rd 0 _ _ rfl
theorem AllAt.rdSelf {av : Value} {acc : Bs} (h : AllAt w0 ts l vs av acc w) : RD w.heap.size w av acc := h.row.rd 0 _ _ rfl
end
end Go.Proofs.YtmkpajhfgdffpaaDoor.Sh
