/- What a law's walk keeps that holds one hash: contracts in that form. -/
import Derived.Test.YtlgaikknodoilaaDoorShGo
import Derived.Test.YtlgaikknodoilaaDoorShOpen
namespace Go.Proofs.YtlgaikknodoilaaDoor.Sh
set_option linter.unusedVariables false
set_option linter.unusedSimpArgs false
open Go Go.RowKit

/-- The hash at p, a block of the walk's own, to which c was written. -/
structure LH (w0 : World) (p : Nat) (c : Bs) (w : World) : Prop where
  li : LI w0 w
  own : w0.heap.size ≤ p
  hash : HashAt w p c

theorem LH.call {w0 w w' : World} {p : Nat} {c : Bs} (h : LH w0 p c w) (hb : Below w.heap.size w w') : LH w0 p c w' := ⟨h.li.call hb, h.own, h.hash.below hb⟩
theorem LH.drew {w0 w : World} {p : Nat} {c : Bs} (h : LH w0 p c w) : LH w0 p c w.drew := h.call (below_drewN' (n := 1) (Below.refl _ _))
theorem LH.write {w0 w w' : World} {p : Nat} {c c' : Bs} (h : LH w0 p c w) (hh : HashAt w' p c') (hk : Keeps w.heap.size p w w') (ht : Tab w0) : LH w0 p c' w' := by
  have h2 : 2 ≤ w0.heap.size := ht.lt
  exact ⟨⟨h.li.tab.keeps hk h.li.tab.lt (by have := h.own; omega), h.li.bel.trans ((hk.mono h.li.bel.size).below h.own)⟩, h.own, hh⟩
theorem LI.rd {w0 w : World} {v : Value} {m : Bs} (h : LI w0 w) (hv : RD w0.heap.size w0 v m) : RD w.heap.size w v m := (hv.below h.bel).mono h.bel.size

theorem new_LH (w0 w : World) (h : LI w0 w) :
    Calls Tryd.prog 15 #[] w fun e w' => e = .returned (.pointer (some ⟨w.heap.size, 0, none⟩)) ∧ LH w0 w.heap.size [] w' :=
  (new_calls w).mono fun _ _ ⟨h1, h2, h3, _⟩ => ⟨h1, h.call h3, h.bel.size, h2⟩
theorem write_LH (w0 : World) (p : Nat) (c x : Bs) (sv : Value) (w : World) (ht : Tab w0) (h : LH w0 p c w) (hx : RD w0.heap.size w0 sv x) (hlen : c.length + x.length ≤ 1099511627776) :
    Calls Tryd.prog 16 #[.pointer (some ⟨p, 0, none⟩), sv] w fun e w' => e = .returned (.pointer (some ⟨p, 0, none⟩)) ∧ LH w0 p (c ++ x) w' :=
  (write_calls p c x sv w h.li.tab h.hash (h.li.rd hx) (by have := h.own; have := ht.lt; omega) hlen).mono fun _ _ ⟨h1, h2, h3⟩ => ⟨h1, h.write h2 h3 ht⟩
theorem sum_LH (w0 : World) (p : Nat) (c : Bs) (w : World) (h : LH w0 p c w) (hlen : c.length ≤ 549755813888) :
    Calls Tryd.prog 18 #[.pointer (some ⟨p, 0, none⟩)] w fun e w' => e = .returned (.agg (A32 (sha c))) ∧ LH w0 p c w' :=
  (sum_calls' p c w h.li.tab h.hash hlen).mono fun _ _ ⟨h1, h2⟩ => ⟨h1, h.call h2⟩
theorem shaSum_LH (w0 : World) (p : Nat) (c x : Bs) (v : Value) (w : World) (h : LH w0 p c w) (hx : RD w0.heap.size w0 v x) (hlen : x.length ≤ 549755813888) :
    Calls Tryd.prog 11 #[v] w fun e w' => e = .returned (.agg (A32 (sha x))) ∧ LH w0 p c w' :=
  (shaSum_calls v x w h.li.tab (h.li.rd hx) hlen).mono fun _ _ ⟨h1, h2⟩ => ⟨h1, h.call h2⟩

/-- The beginning of a slice. -/
theorem rd_to {a : Option Addr} {n c : Nat} (k : IntKind) (h : Nat) (hn : h ≤ n) (hc : n ≤ c) :
    ∃ u, (∀ w, (Instr.slice 22 (.slice a n c) none (some (.int k (h : Int))) none).run Tryd.prog w = .ok u w) ∧ ∀ B w m, RD B w (.slice a n c) m → RD B w u (m.take h) := by
  obtain ⟨u, h1, h2⟩ := cut_to elem_u8 (a := a) (n := n) (c := c) k h hn hc
  exact ⟨u, h1, fun B w m hm => by unfold RD; rw [List.map_take]; exact h2 B w _ hm⟩
theorem rd_from {a : Option Addr} {n c : Nat} (k : IntKind) (l : Nat) (h : l ≤ n) :
    ∃ u, (∀ w, (Instr.slice 22 (.slice a n c) (some (.int k (l : Int))) none none).run Tryd.prog w = .ok u w) ∧ ∀ B w m, RD B w (.slice a n c) m → RD B w u (m.drop l) := by
  obtain ⟨u, h1, h2⟩ := cut_from elem_u8 (a := a) (n := n) (c := c) k l h
  exact ⟨u, h1, fun B w m hm => by unfold RD; rw [List.map_drop]; exact h2 B w _ hm⟩

/-- 'min(len(b), n)'. -/
theorem min_to (l n : Nat) : ∃ k : Nat, k ≤ l ∧ k ≤ n ∧ (if (n : Int) < (l : Int) then (n : Int) else (l : Int)) = (k : Int) := by
  by_cases h : (n : Int) < (l : Int)
  · exact ⟨n, by omega, Nat.le_refl _, by rw [if_pos h]⟩
  · exact ⟨l, Nat.le_refl _, by omega, by rw [if_neg h]⟩
/-- A digest against itself. -/
theorem run_neq_same (l : Bs) (hl : l.length = 32) (w : World) : (binOp .neq 24 (.agg (A32 l)) (.agg (A32 l))).run Tryd.prog w = .ok (.bool false) w := by
  have h : (l == l) = true := by simp
  rw [run_neq_A32 l l hl hl, h]
  rfl
theorem run_eql_same (l : Bs) (hl : l.length = 32) (w : World) : (binOp .eql 24 (.agg (A32 l)) (.agg (A32 l))).run Tryd.prog w = .ok (.bool true) w := by
  have h : (l == l) = true := by simp
  rw [run_eql_A32 l l hl hl, h]
end Go.Proofs.YtlgaikknodoilaaDoor.Sh
