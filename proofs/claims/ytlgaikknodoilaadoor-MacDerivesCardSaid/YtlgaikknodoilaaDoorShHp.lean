/- What a walk holds: its blocks in another order; a part of them. -/
import Derived.Test.YtlgaikknodoilaaDoorShRF
namespace Go.Proofs.YtlgaikknodoilaaDoor.Sh
set_option linter.unusedVariables false
set_option linter.unusedSimpArgs false
open Go Go.RowKit

section
variable {w0 w w' : World} {l l' : List (Nat × Obj)} {vs : List (Value × Bs)} {B : Nat}
theorem Hb.perm (h : Hb w0 l vs B w) (hp : l.Perm l') : Hb w0 l' vs B w :=
  ⟨h.base, h.bel, h.lo, h.hi, fun x hx => h.blocks x (hp.mem_iff.2 hx), (hp.map Prod.fst).nodup_iff.1 h.apart, fun x hx => (h.rows x hx).mono fun b hF => ⟨hF.1, fun y hy => hF.2 y (hp.mem_iff.2 hy)⟩⟩
theorem Hb.sub (h : Hb w0 l vs B w) (hs : l'.Sublist l) : Hb w0 l' vs B w :=
  ⟨h.base, h.bel, h.lo, h.hi, fun x hx => h.blocks x (hs.subset hx), (hs.map Prod.fst).nodup h.apart, fun x hx => (h.rows x hx).mono fun b hF => ⟨hF.1, fun y hy => hF.2 y (hs.subset hy)⟩⟩
theorem Hb.tail {x : Nat × Obj} (h : Hb w0 (x :: l) vs B w) : Hb w0 l vs B w := h.sub (List.sublist_cons_self _ _)
theorem Hb.rdm (h : Hb w0 l vs B w) {v : Value} {m : Bs} (hj : (v, m) ∈ vs) : RD w.heap.size w v m := (h.rows _ hj).rv fun b hF => Nat.lt_of_lt_of_le hF.1 h.hi
theorem Own.lower {b b' : Nat} {v : Value} {m : Bs} (h : Own b w v m) (hb : b' ≤ b) : Own b' w v m := by
  obtain ⟨h1, h2 | ⟨g, cap, cur, e, hg, h3⟩⟩ := h
  · exact ⟨h1, .inl h2⟩
  · exact ⟨h1, .inr ⟨g, cap, cur, e, Nat.le_trans hb hg, h3⟩⟩
end
end Go.Proofs.YtlgaikknodoilaaDoor.Sh
