/- Several tapes that a walk holds: where each lies, its seed, how much was drawn. The contracts in these words. -/
import Derived.Test.YtmkpajhfgdffpaaDoorTaDraw
import Derived.Test.YtmkpajhfgdffpaaDoorTaCopy
import Derived.Test.YtmkpajhfgdffpaaDoorShEqB
namespace Go.Proofs.YtmkpajhfgdffpaaDoor.Sh
set_option linter.unusedVariables false
set_option linter.unusedSimpArgs false
open Go Go.RowKit

theorem flat_at {α β : Type} (f : α → List β) : ∀ (l : List α) (i : Nat) (t : α), l[i]? = some t → (l.flatMap f).Perm (f t ++ (l.eraseIdx i).flatMap f)
  | [], _, _, h => by simp at h
  | x :: l, 0, t, h => by
    obtain rfl : x = t := by simpa using h
    simp
  | x :: l, i + 1, t, h => by
    have ih := flat_at f l i t (by simpa using h)
    simp only [List.flatMap_cons, List.eraseIdx_cons_succ]
    refine (ih.append_left (f x)).trans ?_
    rw [← List.append_assoc, ← List.append_assoc]
    exact List.perm_append_comm.append_right _
theorem flat_set {α β : Type} (f : α → List β) : ∀ (l : List α) (i : Nat) (t : α), i < l.length → ((l.set i t).flatMap f).Perm (f t ++ (l.eraseIdx i).flatMap f)
  | [], _, _, h => by simp at h
  | x :: l, 0, t, h => by simp
  | x :: l, i + 1, t, h => by
    have ih := flat_set f l i t (by simpa using h)
    simp only [List.set_cons_succ, List.flatMap_cons, List.eraseIdx_cons_succ]
    refine (ih.append_left (f x)).trans ?_
    rw [← List.append_assoc, ← List.append_assoc]
    exact List.perm_append_comm.append_right _
def TP.key (t : TP) : Nat × Bs × Nat := (t.p, t.seed, t.n)
def Tk (w0 : World) (ts : List (Nat × Bs × Nat)) (l : List (Nat × Obj)) (vs : List (Value × Bs)) (w : World) : Prop :=
  ∃ tps : List TP, tps.map TP.key = ts ∧ (∀ t ∈ tps, t.ok) ∧ Hb w0 (tps.flatMap TP.blocks ++ l) (tps.flatMap TP.rows ++ vs) w.heap.size w
section
variable {w0 w w' : World} {ts : List (Nat × Bs × Nat)} {l : List (Nat × Obj)} {vs : List (Value × Bs)}
theorem Tk.start {w : World} (ht : Tab w) : Tk w [] [] [] w := ⟨[], rfl, (fun t ht => by cases ht), Hb.start ht⟩
theorem Tk.call (h : Tk w0 ts l vs w) (hb : Below w.heap.size w w') : Tk w0 ts l vs w' := let ⟨tps, h1, h2, h3⟩ := h; ⟨tps, h1, h2, (h3.calls hb).top⟩
theorem Tk.drew (h : Tk w0 ts l vs w) : Tk w0 ts l vs w.drew := h.call (below_drewN' (n := 1) (Below.refl _ _))
theorem Tk.drewN (h : Tk w0 ts l vs w) (n : Nat) : Tk w0 ts l vs (w.drewN n) := h.call (below_drewN' (n := n) (Below.refl _ _))
theorem Tk.alloc (h : Tk w0 ts l vs w) (o : Obj) : Tk w0 ts l vs (w.alloc o) := h.call ((Below.refl _ _).alloc (Nat.le_refl _) o)
theorem Tk.tab (h : Tk w0 ts l vs w) : Tab w := let ⟨_, _, _, h3⟩ := h; h3.tab
theorem Tk.bel (h : Tk w0 ts l vs w) : Below w0.heap.size w0 w := let ⟨_, _, _, h3⟩ := h; h3.bel
theorem Tk.li (h : Tk w0 ts l vs w) : LI w0 w := ⟨h.tab, h.bel⟩
theorem Tk.rd (h : Tk w0 ts l vs w) (j : Nat) (v : Value) (m : Bs) (hj : vs[j]? = some (v, m)) : RD w.heap.size w v m := by
  obtain ⟨tps, _, _, h3⟩ := h
  refine h3.rd ((tps.flatMap TP.rows).length + j) v m ?_
  rw [List.getElem?_append_right (by omega), Nat.add_sub_cancel_left]; exact hj
theorem Tk.rowF (h : Tk w0 ts l vs w) {v : Value} {m : Bs} (hv : ∀ tps : List TP, Hb w0 (tps.flatMap TP.blocks ++ l) (tps.flatMap TP.rows ++ vs) w.heap.size w → Hb w0 (tps.flatMap TP.blocks ++ l) ((v, m) :: (tps.flatMap TP.rows ++ vs)) w.heap.size w) : Tk w0 ts l ((v, m) :: vs) w := by
  obtain ⟨tps, h1, h2, h3⟩ := h
  refine ⟨tps, h1, h2, (hv tps h3).keep _ fun x hx => ?_⟩
  simp only [List.mem_append, List.mem_cons] at hx ⊢
  rcases hx with h | h | h <;> simp [h]
theorem Tk.row0 (h : Tk w0 ts l vs w) {v : Value} {m : Bs} (hv : RD w0.heap.size w0 v m) : Tk w0 ts l ((v, m) :: vs) w := h.rowF fun _ hh => hh.row0 hv
theorem Tk.own (h : Tk w0 ts l vs w) (hb : Below w.heap.size w w') {v : Value} {m : Bs} (ho : Own w.heap.size w' v m) : Tk w0 ts l ((v, m) :: vs) w' := by
  obtain ⟨tps, h1, h2, h3⟩ := h
  refine ⟨tps, h1, h2, ((h3.ownCall hb ho).keep _ fun x hx => ?_)⟩
  simp only [List.mem_append, List.mem_cons] at hx ⊢
  rcases hx with h | h | h <;> simp [h]
theorem Tk.keep (h : Tk w0 ts l vs w) (vs' : List (Value × Bs)) (hs : ∀ x ∈ vs', x ∈ vs) : Tk w0 ts l vs' w := by
  obtain ⟨tps, h1, h2, h3⟩ := h
  refine ⟨tps, h1, h2, h3.keep _ fun x hx => ?_⟩
  simp only [List.mem_append] at hx ⊢
  exact hx.imp id (hs x)
theorem Tk.part (h : Tk w0 ts l vs w) (j : Nat) {u v : Value} {m : Bs} {f : Bs → Bs} (hj : vs[j]? = some (v, m)) (hp : Part u v f) : Tk w0 ts l ((u, f m) :: vs) w :=
  h.rowF fun tps hh => hh.rowF (hp _ _ _ (hh.rows (v, m) (List.mem_append_right _ (List.mem_of_getElem? hj))))
/-- A new block that is not written again. -/
theorem Tk.blockRow (h : Tk w0 ts l vs w) {q n : Nat} {m : Bs} {ty : TypeId} (hn : n = m.length) (hm : m.length ≤ maxLen) (hb : Below w.heap.size w w') (hq : w.heap.size ≤ q) (hh : w'.heap[q]? = some (.cells (m.map bv).toArray ty (0, 0))) : Tk w0 ts l ((.slice (some ⟨q, 0, none⟩) n n, m) :: vs) w' := by
  obtain ⟨tps, h1, h2, h3⟩ := h
  have h4 := ((h3.calls hb).new hq hh).toRow (q := q) (n := n) (c := n) (List.Perm.refl _) hn rfl hm
  refine ⟨tps, h1, h2, h4.keep _ fun x hx => ?_⟩
  simp only [List.mem_append, List.mem_cons] at hx ⊢
  rcases hx with h | h | h <;> simp [h]
end
theorem key_at {tps : List TP} {ts : List (Nat × Bs × Nat)} (h : tps.map TP.key = ts) {i p n : Nat} {seed : Bs} (hi : ts[i]? = some (p, seed, n)) : ∃ t, tps[i]? = some t ∧ t.p = p ∧ t.seed = seed ∧ t.n = n := by
  rw [← h, List.getElem?_map] at hi
  cases ht : tps[i]? with
  | none => rw [ht] at hi; cases hi
  | some t =>
    rw [ht] at hi
    simp only [Option.map_some, Option.some.injEq, TP.key, Prod.mk.injEq] at hi
    exact ⟨t, rfl, hi.1, hi.2.1, hi.2.2⟩
section
variable {w0 w w' : World} {ts : List (Nat × Bs × Nat)} {l : List (Nat × Obj)} {vs : List (Value × Bs)}
theorem tk_new (h : Tk w0 ts l vs w) {v : Value} {m : Bs} (hv : RD w.heap.size w v m) :
    Calls Tryd.prog 10 #[v] w fun e w' => ∃ p, e = .returned (.pointer (some ⟨p, 0, none⟩)) ∧ Tk w0 ((p, m.take 65536, 0) :: ts) l vs w' := by
  obtain ⟨tps, h1, h2, h3⟩ := h
  refine (tnew_calls w0 _ _ v m w h3 hv).mono ?_
  rintro e w' ⟨t, rfl, hok, hs, hn, hh⟩
  refine ⟨t.p, rfl, t :: tps, by rw [List.map_cons, h1]; simp [TP.key, hs, hn], fun x hx => ?_, by simpa [List.flatMap_cons, List.append_assoc] using hh⟩
  rcases List.mem_cons.1 hx with rfl | hx
  · exact hok
  · exact h2 x hx
theorem tk_at (h : Tk w0 ts l vs w) (i : Nat) {p n : Nat} {seed : Bs} (hi : ts[i]? = some (p, seed, n)) :
    Calls Tryd.prog 13 #[.pointer (some ⟨p, 0, none⟩)] w fun e w' => e = .returned (.int .i64 (n : Int)) ∧ w = w' := by
  obtain ⟨tps, h1, h2, h3⟩ := h
  obtain ⟨t, ht, rfl, rfl, rfl⟩ := key_at h1 hi
  refine at_calls t w ?_
  have hm : (t.p, Obj.cells t.cells 44 (0, 0)) ∈ tps.flatMap TP.blocks ++ l := List.mem_append_left _ (List.mem_flatMap.2 ⟨t, List.mem_of_getElem? ht, List.mem_cons_self⟩)
  exact (h3.blocks _ hm).2.2
theorem tk_back {tps : List TP} (h1 : ∀ t ∈ tps, t.ok) {i : Nat} {T : TP} (hT : T.ok) : ∀ t ∈ tps.set i T, t.ok := fun x hx => by
  rcases List.mem_or_eq_of_mem_set hx with hx | rfl
  · exact h1 x hx
  · exact hT
/-- Draw; what is drawn lies in a block of its own. -/
theorem tk_drawW (h : Tk w0 ts l vs w) (i : Nat) {p n : Nat} {seed : Bs} (hi : ts[i]? = some (p, seed, n)) (z y : Int) (N : Nat) (hmin : (if (65536 : Int) < z then (65536 : Int) else z) = y) (hmax : (if (0 : Int) < y then y else 0) = (N : Int)) (hN : N ≤ 65536) (hsmall : n + N ≤ 1000000000) :
    Calls Tryd.prog 12 #[.pointer (some ⟨p, 0, none⟩), .int .i64 z] w fun e w' => ∃ g, e = .returned (.slice (some ⟨g, 0, none⟩) N N) ∧ Tk w0 (ts.set i (p, seed, n + N)) ((g, .cells ((draw seed n N).map bv).toArray 5 (0, 0)) :: l) vs w' := by
  obtain ⟨tps, h1, h2, h3⟩ := h
  obtain ⟨t, ht, rfl, rfl, rfl⟩ := key_at h1 hi
  have hil := (List.getElem?_eq_some_iff.1 ht).1
  have p1 := (flat_at TP.blocks tps i t ht).append_right l
  have h4 : Hb w0 (t.blocks ++ ((tps.eraseIdx i).flatMap TP.blocks ++ l)) (t.rows ++ ((tps.eraseIdx i).flatMap TP.rows ++ vs)) w.heap.size w := by
    rw [← List.append_assoc]
    refine (h3.perm p1).keep _ fun x hx => ?_
    rw [← List.append_assoc] at hx
    rcases List.mem_append.1 hx with hx | hx
    · exact List.mem_append_left _ ((flat_at TP.rows tps i t ht).mem_iff.2 hx)
    · exact List.mem_append_right _ hx
  refine (draw_calls w0 _ _ t (h2 t (List.mem_of_getElem? ht)) z y N hmin hmax hN hsmall w h4).mono ?_
  rintro e w' ⟨T, g, rfl, hok, hp, hs, hn, hh⟩
  refine ⟨g, rfl, tps.set i T, ?_, tk_back h2 hok, ?_⟩
  · rw [List.map_set, h1]; congr 1; simp [TP.key, hp, hs, hn]
  · have p2 := flat_set TP.blocks tps i T hil
    have p3 := flat_set TP.rows tps i T hil
    refine (hh.perm ?_).keep _ fun x hx => ?_
    · refine List.Perm.trans ?_ (List.perm_middle.symm)
      refine List.Perm.cons _ ?_
      rw [← List.append_assoc]
      exact (p2.symm).append_right l
    · rw [← List.append_assoc]
      rcases List.mem_append.1 hx with hx | hx
      · exact List.mem_append_left _ (p3.mem_iff.1 hx)
      · exact List.mem_append_right _ hx
theorem Tk.rowOf {g : Nat} {m : Bs} {ty : TypeId} (h : Tk w0 ts ((g, .cells (m.map bv).toArray ty (0, 0)) :: l) vs w) {n : Nat} (hn : n = m.length) (hm : m.length ≤ maxLen) : Tk w0 ts l ((.slice (some ⟨g, 0, none⟩) n n, m) :: vs) w := by
  obtain ⟨tps, h1, h2, h3⟩ := h
  refine ⟨tps, h1, h2, (h3.toRow (l2 := tps.flatMap TP.blocks ++ l) (q := g) (n := n) (c := n) List.perm_middle hn rfl hm).keep _ fun x hx => ?_⟩
  simp only [List.mem_append, List.mem_cons] at hx ⊢
  rcases hx with h | h | h <;> simp [h]
theorem tk_draw (h : Tk w0 ts l vs w) (i : Nat) {p n : Nat} {seed : Bs} (hi : ts[i]? = some (p, seed, n)) (z y : Int) (N : Nat) (hmin : (if (65536 : Int) < z then (65536 : Int) else z) = y) (hmax : (if (0 : Int) < y then y else 0) = (N : Int)) (hN : N ≤ 65536) (hsmall : n + N ≤ 1000000000) :
    Calls Tryd.prog 12 #[.pointer (some ⟨p, 0, none⟩), .int .i64 z] w fun e w' => ∃ g, e = .returned (.slice (some ⟨g, 0, none⟩) N N) ∧ Tk w0 (ts.set i (p, seed, n + N)) l ((.slice (some ⟨g, 0, none⟩) N N, draw seed n N) :: vs) w' :=
  (tk_drawW h i hi z y N hmin hmax hN hsmall).mono fun e w' ⟨g, he, hh⟩ => ⟨g, he, hh.rowOf (length_draw _ _ _).symm (by rw [length_draw]; simp only [maxLen]; omega)⟩
/-- Draw of a number from 0 to 65536. -/
theorem tk_drawN (h : Tk w0 ts l vs w) (i : Nat) {p n : Nat} {seed : Bs} (hi : ts[i]? = some (p, seed, n)) (N : Nat) (hN : N ≤ 65536) (hsmall : n + N ≤ 1000000000) (z : Int) (hz : z = (N : Int)) :
    Calls Tryd.prog 12 #[.pointer (some ⟨p, 0, none⟩), .int .i64 z] w fun e w' => ∃ g, e = .returned (.slice (some ⟨g, 0, none⟩) N N) ∧ Tk w0 (ts.set i (p, seed, n + N)) l ((.slice (some ⟨g, 0, none⟩) N N, draw seed n N) :: vs) w' :=
  tk_draw h i hi z N N (by rw [if_neg (by omega)]; exact hz) (by by_cases h0 : 0 < N; rw [if_pos (by omega)]; rw [if_neg (by omega)]; omega) hN hsmall
theorem tk_copy (h : Tk w0 ts l vs w) (i : Nat) {p n : Nat} {seed : Bs} (hi : ts[i]? = some (p, seed, n)) :
    Calls Tryd.prog 20 #[.pointer (some ⟨p, 0, none⟩)] w fun e w' => ∃ q, e = .returned (.pointer (some ⟨q, 0, none⟩)) ∧ Tk w0 ((q, seed, n) :: ts) l vs w' := by
  obtain ⟨tps, h1, h2, h3⟩ := h
  obtain ⟨t, ht, rfl, rfl, rfl⟩ := key_at h1 hi
  have hil := (List.getElem?_eq_some_iff.1 ht).1
  have p1 := (flat_at TP.blocks tps i t ht).append_right l
  have h4 : Hb w0 (t.blocks ++ ((tps.eraseIdx i).flatMap TP.blocks ++ l)) (t.rows ++ ((tps.eraseIdx i).flatMap TP.rows ++ vs)) w.heap.size w := by
    rw [← List.append_assoc]
    refine (h3.perm p1).keep _ fun x hx => ?_
    rw [← List.append_assoc] at hx
    rcases List.mem_append.1 hx with hx | hx
    · exact List.mem_append_left _ ((flat_at TP.rows tps i t ht).mem_iff.2 hx)
    · exact List.mem_append_right _ hx
  refine (tcopy_calls w0 _ _ t (h2 t (List.mem_of_getElem? ht)) w h4).mono ?_
  rintro e w' ⟨C, T, rfl, cok, cs, cn, hok, hp, hs, hn, hh⟩
  refine ⟨C.p, rfl, C :: tps.set i T, ?_, fun x hx => ?_, ?_⟩
  · rw [List.map_cons, List.map_set, h1]
    congr 1
    · simp [TP.key, cs, cn]
    · rw [show T.key = (t.p, t.seed, t.n) by simp [TP.key, hp, hs, hn]]
      have hl : i < ts.length := (List.getElem?_eq_some_iff.1 hi).1
      have := (List.getElem?_eq_some_iff.1 hi).2
      rw [← this, List.set_getElem_self]
  · rcases List.mem_cons.1 hx with rfl | hx
    · exact cok
    · exact tk_back h2 hok x hx
  · have p2 := flat_set TP.blocks tps i T hil
    have p3 := flat_set TP.rows tps i T hil
    rw [List.flatMap_cons, List.flatMap_cons, List.append_assoc, List.append_assoc]
    refine (hh.perm ?_).keep _ fun x hx => ?_
    · refine List.Perm.append_left _ ?_
      rw [← List.append_assoc]
      exact (p2.symm).append_right l
    · simp only [List.mem_append] at hx ⊢
      rcases hx with hx | hx | hx
      · exact .inl hx
      · have := p3.mem_iff.1 hx
        rw [List.mem_append] at this
        exact .inr (this.elim .inl fun h => .inr (.inl h))
      · exact .inr (.inr (.inr hx))
end
theorem run_tp_some (p : Nat) (w : World) : (binOp .eql 25 (.pointer (some ⟨p, 0, none⟩)) (.pointer none)).run Tryd.prog w = .ok (.bool false) w := by kernel_rfl
end Go.Proofs.YtmkpajhfgdffpaaDoor.Sh
