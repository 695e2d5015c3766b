/- An append inside a region that draws. -/
import Derived.Test.YtlgaikknodoilaaDoorShGo
namespace Go.Proofs.YtlgaikknodoilaaDoor.Sh
set_option linter.unusedVariables false
set_option linter.unusedSimpArgs false
open Go Go.RowKit

/-- append onto a slice that the call owns, as one operation. -/
theorem wp_append_mine {op : Oper} {a : Act} {w : World} {K : Act → World → Prop} {Q : Exit → Act → World → Prop} (s x : Operand) (T : TypeId)
    (ho : op.op = .call { callee := .builtin .append, args := #[s, x], argTypes := #[T, T] }) {E : TypeId} {bytes : Nat} (hE : Elem Tryd.prog T E bytes) {sv xv : Value} (hs : a.eval s = sv) (hx : a.eval x = xv)
    {base : Nat} {n : Nat} {xs ys : List Value} (hv : w.ownsRow base E 1 sv n xs) (hbase : base ≤ w.heap.size) {B : Nat} (hy : RV B w xv ys) (h1 : ∀ u ∈ ys, u.oneCell' = true) (h63 : n + ys.length ≤ maxLen)
    (hb : (n + ys.length) * bytes ≤ 140737488355328)
    (h : ∀ v' w', w.grownBy w' sv.ownBlock → w'.ownsRow base E 1 v' (n + ys.length) (xs ++ ys) → K (a.put op.dst v') w') : op.wp Tryd.prog a w K Q := by
  obtain ⟨v', w', hr, hg, hd⟩ := run_append_mine (P := Tryd.prog) hE op.type hv hbase hy h1 h63 hb
  exact wp_append_of s x T ho hs hx hr (h v' w' hg hd)
end Go.Proofs.YtlgaikknodoilaaDoor.Sh
