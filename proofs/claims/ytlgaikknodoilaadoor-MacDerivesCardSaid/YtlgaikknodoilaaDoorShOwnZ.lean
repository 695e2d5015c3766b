/- A row that the call owns, whatever of its block is frozen beyond it; append of one byte. -/
import Derived.Test.YtlgaikknodoilaaDoorShGo
import Derived.ArgAppend
import Derived.Lib.EndianMore
namespace Go.Proofs.YtlgaikknodoilaaDoor.Sh
set_option linter.unusedVariables false
set_option linter.unusedSimpArgs false
open Go Go.RowKit

def OwnZ (base : Nat) (w : World) (v : Value) (m : Bs) : Prop := ∃ g cap, v = .slice (some ⟨g, 0, none⟩) m.length cap ∧ base ≤ g ∧ g < w.heap.size ∧ m.length ≤ cap ∧ cap ≤ maxLen ∧
  (∀ j, j < cap → (w.cell? ⟨g, j, none⟩).isSome = true ∧ w.frozen? ⟨g, j, none⟩ = false) ∧ ∀ j u, (m.map bv)[j]? = some u → w.cell? ⟨g, j, none⟩ = some u
theorem OwnZ.rd {base : Nat} {w : World} {v : Value} {m : Bs} (h : OwnZ base w v m) : RD w.heap.size w v m := by
  obtain ⟨g, cap, rfl, _, h2, h3, h4, _, h6⟩ := h
  refine ⟨some ⟨g, 0, none⟩, cap, by rw [List.length_map], by rw [List.length_map]; exact h3, h4, fun e => (by cases e), fun _ => ⟨g, 0, rfl, h2, fun j u hu => ?_⟩⟩
  rw [Nat.zero_add]; exact h6 j u hu
theorem OwnZ.below {base : Nat} {w w' : World} {v : Value} {m : Bs} (h : OwnZ base w v m) (hb : Below w.heap.size w w') : OwnZ base w' v m := by
  obtain ⟨g, cap, rfl, h1, h2, h3, h4, h5, h6⟩ := h
  have hc : ∀ j, w'.cell? ⟨g, j, none⟩ = w.cell? ⟨g, j, none⟩ := fun j => World.cell?_of_block (hb.block g h2)
  have hf : ∀ j, w'.frozen? ⟨g, j, none⟩ = w.frozen? ⟨g, j, none⟩ := fun j => World.frozen?_of_block (hb.block g h2)
  exact ⟨g, cap, rfl, h1, Nat.lt_of_lt_of_le h2 hb.size, h3, h4, fun j hj => by rw [hc, hf]; exact h5 j hj, fun j u hu => by rw [hc]; exact h6 j u hu⟩
theorem ownZ_of_row {base n : Nat} {w : World} {v : Value} {m : Bs} (hn : n = m.length) (h : w.ownsRow base 5 1 v n (m.map bv)) (hm : m ≠ []) : OwnZ base w v m := by
  subst hn
  obtain ⟨_, ⟨_, h0⟩ | ⟨g, cap, cur, rfl, hg, hh, hc, hcm, hcs, htk⟩⟩ := h
  · exact absurd (List.length_eq_zero_iff.1 h0) hm
  · refine ⟨g, cap, rfl, hg, lt_of_heap hh, hc, hcm, fun j hj => ⟨?_, ?_⟩, fun j u hu => ?_⟩
    · rw [cell_of_row w g j _ _ _ hh, Array.getElem?_eq_getElem (by omega)]; rfl
    · unfold World.frozen?; rw [hh]; simp
    · rw [cell_of_row w g j _ _ _ hh]
      have e : (cur.toList.take (m.length * 1))[j]? = (m.map bv)[j]? := by rw [htk]
      rw [hu, List.getElem?_take] at e
      split at e
      · simpa using e
      · cases e
theorem run_append_z {base : Nat} {w : World} {v : Value} {m : Bs} (ty : TypeId) (h : OwnZ base w v m) (hbase : base ≤ w.heap.size) (q : Nat) (y : UInt8) (hq : w.cell? ⟨q, 0, none⟩ = some (bv y)) (hlen : m.length + 1 ≤ 1000000) :
    ∃ v' w', (Builtin.append_ #[22, 22] ty #[v, .slice (some ⟨q, 0, none⟩) 1 1]).run Tryd.prog w = .ok v' w' ∧ Below base w w' ∧ OwnZ base w' v' (m ++ [y]) := by
  obtain ⟨ht, i, z, hi, hz, hs, hby, hzc⟩ := elem_u8
  obtain ⟨g, cap, rfl, h1, h2, h3, h4, h5, h6⟩ := h
  have hnews : ∀ j u, [bv y][j]? = some u → w.cell? ((⟨q, 0, none⟩ : Addr).add j) = some u := fun j u hu => by
    match j, hu with
    | 0, hu =>
      rw [Addr.add_mid]
      simp only [List.getElem?_cons_zero, Option.some.injEq] at hu
      rw [← hu]; exact hq
  by_cases hroom : m.length + 1 ≤ cap
  · have hr := run_append_room_cells (P := Tryd.prog) w 22 ty 5 i ht hi g 0 m.length cap ⟨q, 0, none⟩ 1 1 [bv y] (by rw [hs]; rfl) hnews (by simp [bv, Value.oneCell']) hroom
      (fun j hj => (h5 _ (by rw [hs]; simp at hj; omega)).1) (fun j hj => (h5 _ (by rw [hs]; simp at hj; omega)).2)
    have e0 : 0 + m.length * i.size = m.length := by rw [hs]; omega
    rw [e0] at hr
    have hbel : Below base w (w.setCells g m.length [bv y]) := Lib.below_setCells_w h1 [bv y] m.length w
    refine ⟨_, _, hr, hbel, g, cap, by rw [List.length_append]; rfl, h1, Nat.lt_of_lt_of_le h2 hbel.size, by rw [List.length_append]; exact hroom, h4, fun j hj => ⟨?_, ?_⟩, fun j u hu => ?_⟩
    · by_cases hj2 : j = m.length
      · subst hj2
        have := World.cell?_setCells_in g [bv y] m.length w (fun k hk => (h5 _ (by simp at hk; omega)).1) 0 (by simp)
        rw [Nat.add_zero] at this
        rw [this]; rfl
      · rw [World.cell?_setCells_out g [bv y] m.length w ⟨g, j, none⟩ (fun _ _ => by simp; omega)]; exact (h5 j hj).1
    · rw [World.frozen?_setCells]; exact (h5 j hj).2
    · rw [List.map_append] at hu
      by_cases hj2 : j < m.length
      · rw [List.getElem?_append_left (by rw [List.length_map]; exact hj2)] at hu
        rw [World.cell?_setCells_out g [bv y] m.length w ⟨g, j, none⟩ (fun _ _ => by simp; omega)]
        exact h6 j u hu
      · have hj3 : j = m.length := by
          have := (List.getElem?_eq_some_iff.1 hu).1
          simp at this; omega
        subst hj3
        rw [List.getElem?_append_right (by rw [List.length_map]; exact Nat.le_refl _), List.length_map, Nat.sub_self] at hu
        have := World.cell?_setCells_in g [bv y] m.length w (fun k hk => (h5 _ (by simp at hk; omega)).1) 0 (by simp)
        rw [Nat.add_zero] at this
        rw [this]
        simpa using hu
  · obtain ⟨v', w', hr, ho, hgr⟩ := run_append_arg_grows (P := Tryd.prog) w 22 ty 5 i z 1 1 ht hi hz hs hby hzc (by omega) ⟨g, 0, none⟩ m.length cap (m.map bv) (by rw [List.length_map]; omega)
      (fun j u hu => by rw [Addr.add_mid, Nat.zero_add]; exact h6 j u hu) ⟨q, 0, none⟩ 1 1 [bv y] rfl hnews (by omega) (small_len (by omega)) (small_bytes (by omega))
    refine ⟨v', w', hr, (grown_none hgr).mono hbase, ?_⟩
    have ho2 : w'.ownsRow w.heap.size 5 1 v' (m.length + 1) ((m ++ [y]).map bv) := by rw [List.map_append]; exact ho
    obtain ⟨g', cap', e, k1, k2⟩ := ownZ_of_row (by rw [List.length_append]; rfl) ho2 (by simp)
    exact ⟨g', cap', e, by omega, k2⟩
end Go.Proofs.YtlgaikknodoilaaDoor.Sh
