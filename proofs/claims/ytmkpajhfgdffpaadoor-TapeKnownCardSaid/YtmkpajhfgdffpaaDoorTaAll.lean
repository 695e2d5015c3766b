/- A row that the walk builds by append while tapes are drawn: it lies in a block of its own. -/
import Derived.Test.YtmkpajhfgdffpaaDoorTaWorks
namespace Go.Proofs.YtmkpajhfgdffpaaDoor.Sh
set_option linter.unusedVariables false
set_option linter.unusedSimpArgs false
open Go Go.RowKit

inductive AllAt (w0 : World) (ts : List (Nat × Bs × Nat)) (l : List (Nat × Obj)) (vs : List (Value × Bs)) : Value → Bs → World → Prop
  | none {w : World} (h : Tk w0 ts l vs w) : AllAt w0 ts l vs (.slice none 0 0) [] w
  | some {w : World} {g n cap : Nat} {cur : Array Value} {acc : Bs} (hn : n = acc.length) (hc : acc.length ≤ cap) (hm : cap ≤ maxLen) (hs : cur.size = cap) (ht : cur.toList.take acc.length = acc.map bv)
      (h : Tk w0 ts ((g, .cells cur 5 (0, 0)) :: l) vs w) : AllAt w0 ts l vs (.slice (some ⟨g, 0, none⟩) n cap) acc w
section
variable {w0 w w' : World} {ts : List (Nat × Bs × Nat)} {l : List (Nat × Obj)} {vs : List (Value × Bs)} {av : Value} {acc : Bs}
theorem AllAt.form (h : AllAt w0 ts l vs av acc w) : ∃ a c, av = .slice a acc.length c := by
  cases h with
  | none h => exact ⟨_, _, rfl⟩
  | some hn hc hm hs ht h => subst hn; exact ⟨_, _, rfl⟩
theorem AllAt.tabx (h : AllAt w0 ts l vs av acc w) : ∃ l', Tk w0 ts l' vs w := by
  cases h with
  | none h => exact ⟨_, h⟩
  | some _ _ _ _ _ h => exact ⟨_, h⟩
/-- What a step does to the tapes, whatever else lies in blocks. -/
theorem AllAt.map (h : AllAt w0 ts l vs av acc w) {ts' : List (Nat × Bs × Nat)} {vs' : List (Value × Bs)} (f : ∀ l', Tk w0 ts l' vs w → Tk w0 ts' l' vs' w') : AllAt w0 ts' l vs' av acc w' := by
  cases h with
  | none h => exact .none (f _ h)
  | some hn hc hm hs ht h => exact .some hn hc hm hs ht (f _ h)
theorem AllAt.call (h : AllAt w0 ts l vs av acc w) (hb : Below w.heap.size w w') : AllAt w0 ts l vs av acc w' := h.map fun _ hh => hh.call hb
theorem AllAt.drewN (h : AllAt w0 ts l vs av acc w) (n : Nat) : AllAt w0 ts l vs av acc (w.drewN n) := h.map fun _ hh => hh.drewN n
theorem AllAt.keep (h : AllAt w0 ts l vs av acc w) (vs' : List (Value × Bs)) (hs : ∀ x ∈ vs', x ∈ vs) : AllAt w0 ts l vs' av acc w := h.map fun _ hh => hh.keep vs' hs
theorem AllAt.rd (h : AllAt w0 ts l vs av acc w) (j : Nat) (v : Value) (m : Bs) (hj : vs[j]? = .some (v, m)) : RD w.heap.size w v m := by
  obtain ⟨l', h'⟩ := h.tabx
  exact h'.rd j v m hj
theorem AllAt.tab (h : AllAt w0 ts l vs av acc w) : Tab w := let ⟨_, h'⟩ := h.tabx; h'.tab
theorem AllAt.bel (h : AllAt w0 ts l vs av acc w) : Below w0.heap.size w0 w := let ⟨_, h'⟩ := h.tabx; h'.bel
/-- It is a row from now on. -/
theorem AllAt.row (h : AllAt w0 ts l vs av acc w) : Tk w0 ts l ((av, acc) :: vs) w := by
  cases h with
  | none h =>
    exact h.rowF fun tps hh => hh.rowF RF.nil
  | @some _ g n cap cur _ hn hc hm hs ht h =>
    obtain ⟨tps, h1, h2, h3⟩ := h
    have h4 := h3.perm (l' := (g, .cells cur 5 (0, 0)) :: (tps.flatMap TP.blocks ++ l)) List.perm_middle
    have hq := h4.blocks _ List.mem_cons_self
    have hno := h4.apart
    rw [List.map_cons, List.nodup_cons] at hno
    refine ⟨tps, h1, h2, (h4.tail.rowF (v := .slice (Option.some ⟨g, 0, Option.none⟩) n cap) (m := acc) ?_).keep _ fun x hx => ?_⟩
    · subst hn
      refine ⟨_, cap, by rw [List.length_map], by rw [List.length_map]; exact hc, hm, (fun e => by cases e), fun _ => ⟨g, 0, rfl, ⟨hq.2.1, fun y hy e => hno.1 (List.mem_map.2 ⟨y, hy, e⟩)⟩, fun j u hu => ?_⟩⟩
      have hj := (List.getElem?_eq_some_iff.1 hu).1
      rw [List.length_map] at hj
      rw [cell_of_row _ _ _ _ _ _ hq.2.2, Nat.zero_add]
      rw [← ht, List.getElem?_take, if_pos hj] at hu
      simpa using hu
    · simp only [List.mem_append, List.mem_cons] at hx ⊢
      rcases hx with h | h | h <;> simp [h]
/-- A row that the call owns, made just now. -/
theorem AllAt.of_own (h : Tk w0 ts l vs w) (hb : Below w.heap.size w w') {v' : Value} {m : Bs} (hne : m ≠ []) (ho : w'.ownsRow w.heap.size 5 1 v' m.length (m.map bv)) : AllAt w0 ts l vs v' m w' := by
  obtain ⟨_, ⟨_, h0⟩ | ⟨g, cap, cur, rfl, hg, hh, hc, hm, hs, ht⟩⟩ := ho
  · exact absurd (List.length_eq_zero_iff.1 h0) hne
  · obtain ⟨tps, h1, h2, h3⟩ := h
    have h4 := (h3.calls hb).new hg hh
    refine .some (cur := cur) rfl hc hm (by omega) (by rw [Nat.mul_one] at ht; exact ht) ⟨tps, h1, h2, ?_⟩
    exact h4.perm List.perm_middle.symm
theorem Tk.putHead {g : Nat} {o o' : Obj} (h : Tk w0 ts ((g, o) :: l) vs w) (hu : Upd g o' w w') : Tk w0 ts ((g, o') :: l) vs w' := by
  obtain ⟨tps, h1, h2, h3⟩ := h
  have h4 := h3.perm (l' := (g, o) :: (tps.flatMap TP.blocks ++ l)) List.perm_middle
  exact ⟨tps, h1, h2, ((h4.put 0 g rfl hu).top).perm List.perm_middle.symm⟩
theorem Tk.dropHead {x : Nat × Obj} (h : Tk w0 ts (x :: l) vs w) : Tk w0 ts l vs w := by
  obtain ⟨tps, h1, h2, h3⟩ := h
  exact ⟨tps, h1, h2, (h3.perm (l' := x :: (tps.flatMap TP.blocks ++ l)) List.perm_middle).tail⟩
theorem Tk.head {g : Nat} {o : Obj} (h : Tk w0 ts ((g, o) :: l) vs w) : w.heap[g]? = .some o := by
  obtain ⟨tps, h1, h2, h3⟩ := h
  exact (h3.blocks (g, o) (List.mem_append_right _ List.mem_cons_self)).2.2
theorem all_append (ty : TypeId) (h : AllAt w0 ts l vs av acc w) {xv : Value} {x : Bs} (hx : RD w.heap.size w xv x) (hlen : acc.length + x.length ≤ 1000000) :
    ∃ v' w', (Builtin.append_ #[22, 22] ty #[av, xv]).run Tryd.prog w = .ok v' w' ∧ AllAt w0 ts l vs v' (acc ++ x) w' := by
  by_cases hxe : x = []
  · subst hxe
    cases h with
    | none h =>
      obtain ⟨v', w', hr, hg, hd⟩ := run_append_full (P := Tryd.prog) (xs := []) (ys := []) elem_u8 ty (RV.nil (B := w.heap.size)) (show RV w.heap.size w xv [] from hx) (by simp) (by simp [maxLen]) (by simp)
      rcases hd with ⟨_, rfl, rfl⟩ | hd
      · exact ⟨_, _, hr, by simpa using AllAt.none h⟩
      · obtain ⟨_, ⟨rfl, _⟩ | ⟨g, cap, cur, rfl, hg', hh, hc, hm, hs, ht⟩⟩ := hd
        · exact ⟨_, _, hr, by simpa using AllAt.none (h.call (grown_none hg))⟩
        · obtain ⟨tps, h1, h2, h3⟩ := h
          have h4 := (h3.calls (grown_none hg)).new hg' hh
          refine ⟨_, _, hr, .some (cur := cur) (by simp) (by simp) hm (by omega) (by simp) ⟨tps, h1, h2, h4.perm List.perm_middle.symm⟩⟩
    | @some _ g n cap cur _ hn hc hm hs ht h =>
      obtain ⟨a1, c1, rfl, hn1, hc1, hnone1, _⟩ := hx
      obtain ⟨ht', i, z, hi, hz, hs', hby, hzc⟩ := elem_u8
      have hroom : n ≤ cap := by omega
      refine ⟨_, w, ?_, by rw [List.append_nil]; exact .some hn hc hm hs ht h⟩
      cases a1 with
      | none => simp [Builtin.append_, run_underlying ht', sizeOf, typeInfo, hi, Builtin.lenOf, Builtin.firstCells, storeCells, hroom]
      | some a1 => simp [Builtin.append_, run_underlying ht', sizeOf, typeInfo, hi, Builtin.lenOf, Builtin.firstCells, storeCells, loadCells, loadCellsFrom, hroom]
  · have hne : x.map bv ≠ [] := by simpa using hxe
    cases h with
    | none h =>
      obtain ⟨v', w', hr, hg, hd⟩ := run_append_full (P := Tryd.prog) (xs := []) (ys := x.map bv) elem_u8 ty (RV.nil (B := w.heap.size)) (show RV w.heap.size w xv (x.map bv) from hx) (one_bytes x) (small_len (by simpa using hlen)) (small_bytes (by simpa using hlen))
      rcases hd with ⟨h0, _⟩ | hd
      · exact absurd h0 hne
      · refine ⟨_, _, hr, AllAt.of_own h (grown_none hg) (by simpa using hxe) (by simpa using hd)⟩
    | @some _ g n cap cur _ hn hc hm hs ht h =>
      subst hn
      by_cases hroom : acc.length + (x.map bv).length ≤ cap
      · obtain ⟨w', hr, hu⟩ := run_append_exact (P := Tryd.prog) elem_u8 ty g acc.length cap cur 5 h.head hx hne (one_bytes x) hroom (by omega)
        have hsz : (put cur acc.length (x.map bv).toArray).size = cap := by
          unfold put; simp; rw [List.length_map] at hroom; omega
        refine ⟨_, _, hr, .some (cur := put cur acc.length (x.map bv).toArray) (by simp) (by rw [List.length_append]; simpa using hroom) hm hsz ?_ (h.putHead hu)⟩
        unfold put
        simp only [List.length_append, List.map_append, List.size_toArray]
        rw [ht, List.take_append_of_le_length (by simp), List.take_of_length_le (by simp)]
      · have hhd := h.head
        obtain ⟨ht', i, z, hi, hz, hs', hby, hzc⟩ := elem_u8
        obtain ⟨a1, c1, rfl, hn1, hc1, hnone1, hcells1⟩ := hx
        obtain ⟨b1, o1, rfl, hB1, hr1⟩ := hcells1 hne
        obtain ⟨v', w', hr, ho, hgr⟩ := run_append_arg_grows (P := Tryd.prog) w 22 ty 5 i z 1 1 ht' hi hz hs' hby hzc (by omega) ⟨g, 0, Option.none⟩ acc.length cap (acc.map bv) (by rw [List.length_map]; omega)
          (fun j u hu => by
            have hj := (List.getElem?_eq_some_iff.1 hu).1
            rw [List.length_map] at hj
            rw [Addr.add_mid, Nat.zero_add, cell_of_row _ _ _ _ _ _ hhd]
            rw [← ht, List.getElem?_take, if_pos hj] at hu
            simpa using hu)
          ⟨b1, o1, Option.none⟩ (x.map bv).length c1 (x.map bv) (by omega) (fun j u hu => by rw [Addr.add_mid]; exact hr1 j u hu) (by omega) (small_len (by simpa using hlen)) (small_bytes (by simpa using hlen))
        exact ⟨_, _, hr, AllAt.of_own h.dropHead (grown_none hgr) (by simp [hxe]) (by simpa using ho)⟩
theorem wpList_all_append {ops : Array Oper} {rest : List Oper} {op : Oper} {a : Act} {Q : Exit → Act → World → Prop} (hgd : op.guard = none) (s y : Operand)
    (ho : op.op = .call { callee := .builtin .append, args := #[s, y], argTypes := #[22, 22] }) (h : AllAt w0 ts l vs av acc w) {xv : Value} {x : Bs} (hs : a.eval s = av) (hy : a.eval y = xv) (hx : RD w.heap.size w xv x) (hlen : acc.length + x.length ≤ 1000000)
    (hk : ∀ v' w', AllAt w0 ts l vs v' (acc ++ x) w' → wpList Tryd.prog ops Q rest (a.put op.dst v') w') : wpList Tryd.prog ops Q (op :: rest) a w := by
  obtain ⟨v', w', hr, h2⟩ := all_append op.type h hx hlen
  exact wpList_plain hgd fun _ hK => wp_append_of s y 22 ho hs hy hr (hK _ _ (hk v' w' h2))
end
end Go.Proofs.YtmkpajhfgdffpaaDoor.Sh
