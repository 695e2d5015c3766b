/- Contracts with two hashes held: LH2; an append inside a region that draws. -/
import Derived.Test.YtkfoalfnjeachaaDoorShLH
namespace Go.Proofs.YtkfoalfnjeachaaDoor.Sh
open Go Go.RowKit

/-- The hash at p, to which c was written, and the hash at q, to which d was written: both of the walk's own. -/
structure LH2 (w0 : World) (p : Nat) (c : Bs) (q : Nat) (d : Bs) (w : World) : Prop where
  one : LH w0 p c w
  own : w0.heap.size ≤ q
  ne : p ≠ q
  hash : HashAt w q d

theorem new_LHx (w0 w : World) (h : LI w0 w) :
    Calls Tryd.prog 14 #[] w fun e w' => ∃ p, e = .returned (.pointer (some ⟨p, 0, none⟩)) ∧ LH w0 p [] w' :=
  (new_LH w0 w h).mono fun _ _ ⟨h1, h2⟩ => ⟨_, h1, h2⟩
theorem LH2.call {w0 w w' : World} {p q : Nat} {c d : Bs} (h : LH2 w0 p c q d w) (hb : Below w.heap.size w w') : LH2 w0 p c q d w' := ⟨h.one.call hb, h.own, h.ne, h.hash.below hb⟩
theorem LH2.drew {w0 w : World} {p q : Nat} {c d : Bs} (h : LH2 w0 p c q d w) : LH2 w0 p c q d w.drew := h.call (below_drewN' (n := 1) (Below.refl _ _))
theorem LH2.symm {w0 w : World} {p q : Nat} {c d : Bs} (h : LH2 w0 p c q d w) : LH2 w0 q d p c w := ⟨⟨h.one.li, h.own, h.hash⟩, h.one.own, Ne.symm h.ne, h.one.hash⟩
theorem copy_LH2 (w0 : World) (p : Nat) (c : Bs) (w : World) (h : LH w0 p c w) :
    Calls Tryd.prog 18 #[.pointer (some ⟨p, 0, none⟩)] w fun e w' => ∃ q, e = .returned (.pointer (some ⟨q, 0, none⟩)) ∧ LH2 w0 p c q c w' :=
  (copy_calls p c w h.hash).mono fun _ _ ⟨h1, h2, h3⟩ => ⟨w.heap.size, h1, h.call h3, h.li.bel.size, Nat.ne_of_lt h.hash.lt, h2⟩
theorem write_LH2 (w0 : World) (p q : Nat) (c d x : Bs) (sv : Value) (w : World) (ht : Tab w0) (h : LH2 w0 p c q d w) (hx : RD w0.heap.size w0 sv x) (hlen : c.length + x.length ≤ 1099511627776) :
    Calls Tryd.prog 15 #[.pointer (some ⟨p, 0, none⟩), sv] w fun e w' => e = .returned (.pointer (some ⟨p, 0, none⟩)) ∧ LH2 w0 p (c ++ x) q d w' :=
  (write_calls p c x sv w h.one.li.tab h.one.hash (h.one.li.rd hx) (by have := h.one.own; have := ht.lt; omega) hlen).mono fun _ _ ⟨h1, h2, h3⟩ => ⟨h1, h.one.write h2 h3 ht, h.own, h.ne, h.hash.keeps h.one.hash.block (Ne.symm h.ne) h3⟩
theorem write_LH2' (w0 : World) (p q : Nat) (c d x : Bs) (sv : Value) (w : World) (ht : Tab w0) (h : LH2 w0 p c q d w) (hx : RD w0.heap.size w0 sv x) (hlen : d.length + x.length ≤ 1099511627776) :
    Calls Tryd.prog 15 #[.pointer (some ⟨q, 0, none⟩), sv] w fun e w' => e = .returned (.pointer (some ⟨q, 0, none⟩)) ∧ LH2 w0 p c q (d ++ x) w' :=
  (write_LH2 w0 q p d c x sv w ht h.symm hx hlen).mono fun _ _ ⟨h1, h2⟩ => ⟨h1, h2.symm⟩
theorem sum_LH2 (w0 : World) (p q : Nat) (c d : Bs) (w : World) (h : LH2 w0 p c q d w) (hlen : c.length ≤ 549755813888) :
    Calls Tryd.prog 16 #[.pointer (some ⟨p, 0, none⟩)] w fun e w' => e = .returned (.agg (A32 (sha c))) ∧ LH2 w0 p c q d w' :=
  (sum_calls' p c w h.one.li.tab h.one.hash hlen).mono fun _ _ ⟨h1, h2⟩ => ⟨h1, h.call h2⟩
theorem sum_LH2' (w0 : World) (p q : Nat) (c d : Bs) (w : World) (h : LH2 w0 p c q d w) (hlen : d.length ≤ 549755813888) :
    Calls Tryd.prog 16 #[.pointer (some ⟨q, 0, none⟩)] w fun e w' => e = .returned (.agg (A32 (sha d))) ∧ LH2 w0 p c q d w' :=
  (sum_calls' q d w h.one.li.tab h.hash hlen).mono fun _ _ ⟨h1, h2⟩ => ⟨h1, h.call h2⟩
theorem len_LH2' (w0 : World) (p q : Nat) (c d : Bs) (w : World) (h : LH2 w0 p c q d w) :
    Calls Tryd.prog 17 #[.pointer (some ⟨q, 0, none⟩)] w fun e w' => e = .returned (.int .i64 (d.length : Int)) ∧ w = w' := len_calls q d w h.hash
theorem shaSum_LH2 (w0 : World) (p q : Nat) (c d x : Bs) (v : Value) (w : World) (h : LH2 w0 p c q d w) (hx : RD w0.heap.size w0 v x) (hlen : x.length ≤ 549755813888) :
    Calls Tryd.prog 10 #[v] w fun e w' => e = .returned (.agg (A32 (sha x))) ∧ LH2 w0 p c q d w' :=
  (shaSum_calls v x w h.one.li.tab (h.one.li.rd hx) hlen).mono fun _ _ ⟨h1, h2⟩ => ⟨h1, h.call h2⟩
theorem shaSum_LH2' (w0 : World) (p q : Nat) (c d x : Bs) (v : Value) (w : World) (h : LH2 w0 p c q d w) (hx : RD w.heap.size w v x) (hlen : x.length ≤ 549755813888) :
    Calls Tryd.prog 10 #[v] w fun e w' => e = .returned (.agg (A32 (sha x))) ∧ LH2 w0 p c q d w' :=
  (shaSum_calls v x w h.one.li.tab hx hlen).mono fun _ _ ⟨h1, h2⟩ => ⟨h1, h.call h2⟩
theorem works_LH2 (w0 : World) (p q : Nat) (c d : Bs) (w : World) (h : LH2 w0 p c q d w) :
    Calls Tryd.prog 11 #[] w fun e w' => e = .returned (.bool true) ∧ LH2 w0 p c q d w' :=
  (works_calls w h.one.li.tab).mono fun _ _ ⟨h1, h2⟩ => ⟨h1, h.call h2⟩
/-- CopyBytes, and two hashes held. -/
theorem copyBytes_LH2 (w0 : World) (p q : Nat) (c d x : Bs) (v : Value) (w : World) (h : LH2 w0 p c q d w) (hx : RD w0.heap.size w0 v x) (hlen : x.length ≤ 140737488355328) :
    Calls Tryd.prog 13 #[v] w fun e w' => ∃ v' g, e = .returned v' ∧ Own g w' v' x ∧ g ≤ w'.heap.size ∧ LH2 w0 p c q d w' ∧ (∀ w'', w'.grownBy w'' v'.ownBlock → LH2 w0 p c q d w'') := by
  refine (copyBytes_calls v x w (h.one.li.rd hx) hlen).mono fun e w' ⟨v', he, ho, hb⟩ => ⟨v', w.heap.size, he, ho, hb.size, h.call hb, fun w'' hg => h.call (hb.trans (grown_below hg hb.size fun k hk => ?_))⟩
  obtain ⟨_, ⟨rfl, _⟩ | ⟨g, cap, cur, rfl, hg, _⟩⟩ := ho
  · cases hk
  · simp only [Value.ownBlock, Option.some.injEq] at hk
    omega

/-- append onto a slice that the call owns, as one operation. -/
theorem wp_append_mine {op : Oper} {a : Act} {w : World} {K : Act → World → Prop} {Q : Exit → Act → World → Prop} (s x : Operand) (T : TypeId)
    (ho : op.op = .call { callee := .builtin .append, args := #[s, x], argTypes := #[T, T] }) {E : TypeId} {bytes : Nat} (hE : Elem Tryd.prog T E bytes) {sv xv : Value} (hs : a.eval s = sv) (hx : a.eval x = xv)
    {base : Nat} {n : Nat} {xs ys : List Value} (hv : w.ownsRow base E 1 sv n xs) (hbase : base ≤ w.heap.size) {B : Nat} (hy : RV B w xv ys) (h1 : ∀ u ∈ ys, u.oneCell' = true) (h63 : n + ys.length ≤ maxLen)
    (hb : (n + ys.length) * bytes ≤ 140737488355328)
    (h : ∀ v' w', w.grownBy w' sv.ownBlock → w'.ownsRow base E 1 v' (n + ys.length) (xs ++ ys) → K (a.put op.dst v') w') : op.wp Tryd.prog a w K Q := by
  obtain ⟨v', w', hr, hg, hd⟩ := run_append_mine (P := Tryd.prog) hE op.type hv hbase hy h1 h63 hb
  exact wp_append_of s x T ho hs hx hr (h v' w' hg hd)
end Go.Proofs.YtkfoalfnjeachaaDoor.Sh
